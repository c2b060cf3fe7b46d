/-
  Each operation does what 'gop' says: stores, slice literals, append, copy, clear.
-/
import Derived.Test.YtaggojedpkddjaaGh
set_option linter.unusedVariables false
set_option linter.unusedSimpArgs false
namespace Go.Gx
open Go.RowKit

section
variable {P : Program} {T : Tab} {B W F : Nat → Prop} {n0 : Nat} {σ : Sig} {M : Mem} {nx : Nat} {w : World} {a : Act} {E : Env}

theorem relL_get' {Z : Nat → Prop} : ∀ {l : List SV} {ys : List Value}, SV.relL σ Z w l ys → ∀ (i : Nat) (y : Value), ys[i]? = some y → ∃ s, l[i]? = some s ∧ s.rel σ Z w y
  | [], ys, h, i, y, hy => by cases h; simp at hy
  | s :: l, ys, h, i, y, hy => by
    obtain ⟨v, vs', rfl, h1, h2⟩ := h
    cases i with
    | zero => simp at hy; subst hy; exact ⟨s, by simp, h1⟩
    | succ i => simpa using relL_get' h2 i y (by simpa using hy)

theorem toRV_rel {Z : Nat → Prop} {s : SV} {y : Value} (h : s.rel σ Z w y) : (s.toRV).rel Z w y := by
  unfold SV.toRV
  split
  · exact h
  all_goals first
    | trivial
    | (obtain ⟨vs, ws, rfl, h1, h2⟩ := h
       refine ⟨vs, ws, rfl, by simpa using SV.relL_length h1, by simpa using SV.relL_length h2, fun i v hv => ?_, fun i v hv => ?_⟩
       · obtain ⟨s, e1, e2⟩ := relL_get' h1 i v hv
         rcases i with _ | i
         · simp at e1 <;> (try subst e1) <;> first | exact e2 | trivial
         · simp at e1
       · obtain ⟨s, e1, e2⟩ := relL_get' h2 i v hv
         rcases i with _ | _ | _ | i <;> simp at e1 <;> (try subst e1) <;> first | exact e2 | trivial)

theorem run_storeAt {t : TypeId} {i : TI} (h : tyChk P t i = true) {b o : Nat} {cs vs : List Value} {ty : TypeId} {y : Value} (hb : w.heap[b]? = some (.cells cs.toArray ty (0, 0))) (hy : y.cells.toList = vs) (hl : vs.length = i.size)
    (ho : o + i.size ≤ cs.length) (h1 : ∀ v ∈ vs, v.oneCell' = true) :
    (Instr.storeAt t (.pointer (some ⟨b, o, none⟩)) y).run P w = .ok () (w.setRow b (putV cs o vs).toArray) := by
  have hst := run_storeCells_at P b o ty vs 0 cs.toArray w hb (by simp; omega) h1
  have hsz : y.cells.size = i.size := by rw [← Array.length_toList, hy, hl]
  simp only [Instr.storeAt, Instr.sureAddr, Sem.run_bind, Sem.run_pure, Result.andThen_ok, storeVar, run_size h w]
  simp only [hsz, hy]
  simp only [ne_eq, not_true_eq_false, if_false, Sem.run_bind, Sem.run_pure, Result.andThen_ok]
  rw [hst]
  simp [putV, Nat.add_assoc]

theorem setRow_size (b : Nat) (c : Array Value) : (w.setRow b c).heap.size = w.heap.size := by simp [World.setRow]
theorem setRow_other {b x : Nat} (c : Array Value) (h : x ≠ b) : (w.setRow b c).heap[x]? = w.heap[x]? := by
  simp only [World.setRow, Array.getElem?_modify]
  rw [if_neg (by omega)]
theorem setRow_here {b : Nat} {cur c : Array Value} {ty : TypeId} (h : w.heap[b]? = some (.cells cur ty (0, 0))) : (w.setRow b c).heap[b]? = some (.cells c ty (0, 0)) := setRow_heap w b cur c ty _ h

theorem FrS.setRow (hm : MOK B W n0 σ M F w) {ref : Nat} {R : Reg} {L : Loc} {b : Nat} (h1 : M ref = some R) (h2 : σ ref = some L) (h3 : L.at_ = some b) (c : Array Value) : FrS W n0 w (w.setRow b c) :=
  ⟨rfl, rfl, rfl, by rw [setRow_size]; exact Nat.le_refl _, fun x hx hw => setRow_other c fun e => by
    subst e
    rcases hm.own ref R L x h1 h2 h3 with h | h
    · exact hw h
    · omega⟩

theorem putV_get {cs vs : List Value} {o : Nat} (h : o + vs.length ≤ cs.length) (j : Nat) : (putV cs o vs)[j]? = if o ≤ j ∧ j < o + vs.length then vs[j - o]? else cs[j]? := by
  unfold putV
  have hl : (cs.take o).length = o := by simp; omega
  by_cases h1 : j < o
  · rw [if_neg (by omega), List.append_assoc, List.getElem?_append_left (by omega), List.getElem?_take, if_pos h1]
  · rw [List.append_assoc, List.getElem?_append_right (by omega), hl]
    by_cases h2 : j < o + vs.length
    · rw [if_pos (by omega), List.getElem?_append_left (by omega)]
    · rw [if_neg (by omega), List.getElem?_append_right (by omega), List.getElem?_drop]
      congr 1; omega

theorem snd_store (hT : TabOK P T) (hm : MOK B W n0 σ M F w) (t : TypeId) {s s' : SV} {x y : Value} (hx : s.rel σ (Zof B σ M w) w x) (hy : s'.rel σ (Zof B σ M w) w y) :
    Snd P B W n0 σ M F nx w (((Instr.storeAt t x y).run P w).andThen fun _ w' => .ok .skip w') (gstore T t M s s') := by
  unfold gstore
  split
  · trivial
  rename_i i hti
  have hc := hT.ti t i hti
  split
  · rename_i ref row k fld
    obtain ⟨L, b, h1, h2, rfl⟩ := hx
    split
    · rename_i l hM
      obtain ⟨L', e1, e2⟩ := hm.reg ref _ hM
      rw [h1] at e1; cases e1
      obtain ⟨b', cs, ty, f1, f2, f3, f4⟩ := e2
      rw [h2] at f1; cases f1
      rintro ⟨o1, o2, o3⟩
      obtain ⟨c1, c2⟩ := cells_rel hy o1
      have hl : y.cells.toList.length = i.size := by rw [SV.relL_length c1, o2]
      have hlen := SV.relL_length f4
      have hrun := run_storeAt hc (o := row * k + fld) f2 rfl hl (by omega) c2
      obtain ⟨g1, g2⟩ := mem_set (w' := w.setRow b (putV cs (row * k + fld) y.cells.toList).toArray) (R := .box (put l (row * k + fld) s'.cells)) hm hM h1 h2 (setRow_size ..) (fun x hx => setRow_other _ hx)
        (fun Z' hk => ⟨b, _, ty, h2, setRow_here f2, putV_one f3 c2, SV.relL_mono (fun _ _ h => h) hk _ _ (relL_put _ f4 c1)⟩)
      exact ⟨undef, _, .inr ⟨by rw [hrun]; rfl, rfl⟩, g1, g2, trivial, FrS.setRow hm hM h1 h2 _⟩
    · rename_i e k' n get hM
      obtain ⟨L', e1, e2⟩ := hm.reg ref _ hM
      rw [h1] at e1; cases e1
      obtain ⟨f0, fm, f | ⟨b', cs, f1, f2, f3, fo, f5⟩⟩ := e2
      · rw [h2] at f; cases f.1
      rw [h2] at f1; cases f1
      rintro ⟨o1, o2, rfl, o4, o5⟩
      obtain ⟨c1, c2⟩ := cells_rel hy o1
      have hl : y.cells.toList.length = i.size := by rw [SV.relL_length c1, o2]
      have hrow : row * k' + k' ≤ cs.length := by rw [f3]; have : (row + 1) * k' ≤ L.cap * k' := Nat.mul_le_mul_right k' (by omega); rw [Nat.add_mul] at this; omega
      have hrun := run_storeAt hc (o := row * k' + fld) f2 rfl hl (by omega) c2
      obtain ⟨g1, g2⟩ := mem_set (w' := w.setRow b (putV cs (row * k' + fld) y.cells.toList).toArray)
        (R := .vec e k' n fun i' j' => if i' = row ∧ fld ≤ j' ∧ j' < fld + i.size then (s'.cells.getD (j' - fld) (.r .any)).toRV else get i' j') hm hM h1 h2 (setRow_size ..) (fun x hx => setRow_other _ hx)
        (fun Z' hk => ⟨f0, fm, .inr ⟨b, _, h2, setRow_here f2, by rw [putV_length (by omega)]; exact f3, putV_one fo c2, fun i' j' hi hj => by
          rw [putV_get (by omega)]
          by_cases hin : i' = row ∧ fld ≤ j' ∧ j' < fld + i.size
          · obtain ⟨rfl, q1, q2⟩ := hin
            rw [if_pos (by omega)]
            dsimp only
            rw [if_pos ⟨rfl, q1, q2⟩]
            have hlt : j' - fld < s'.cells.length := by omega
            obtain ⟨v, v1, v2⟩ := SV.relL_get c1 (j' - fld) s'.cells[j' - fld] (List.getElem?_eq_getElem hlt)
            refine ⟨v, ?_, c2 v (List.mem_of_getElem? v1), ?_⟩
            · rw [← v1]; congr 1; omega
            · rw [List.getD, List.getElem?_eq_getElem hlt]
              exact toRV_rel (SV.rel_mono (σ := σ) (σ' := σ) (fun _ _ h => h) hk _ _ v2)
          · dsimp only
            rw [if_neg hin]
            obtain ⟨v, v1, v0, v2⟩ := f5 i' j' hi hj
            refine ⟨v, ?_, v0, RV.rel_mono hk _ _ v2⟩
            rw [if_neg fun hq => hin ?_]
            · exact v1
            · have hq' : i' * k' + j' = row * k' + (i' * k' + j' - row * k') := by omega
              obtain ⟨q1, q2⟩ := row_inj (k := k') hj (by omega) hq'
              exact ⟨q1, by omega, by omega⟩⟩⟩)
      exact ⟨undef, _, .inr ⟨by rw [hrun]; rfl, rfl⟩, g1, g2, trivial, FrS.setRow hm hM h1 h2 _⟩
    · trivial
  · trivial
end
end Go.Gx
