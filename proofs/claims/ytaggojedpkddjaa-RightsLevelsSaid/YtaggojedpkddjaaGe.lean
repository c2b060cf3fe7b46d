/-
  Each operation does what 'gop' says.
-/
import Derived.Test.YtaggojedpkddjaaGd
import Derived.Maps.AppendAt
set_option linter.unusedVariables false
set_option linter.unusedSimpArgs false
namespace Go.Gx
open Go.RowKit

def POut (B : Nat → Prop) (σ : Sig) (M : Mem) (w : World) (run : Result Next) (s : SV) : Prop := ∃ y, (run = .ok (.value y) w ∨ (run = .ok .skip w ∧ y = undef)) ∧ s.rel σ (Zof B σ M w) w y

def Snd (P : Program) (B W : Nat → Prop) (n0 : Nat) (σ : Sig) (M : Mem) (F : Nat → Prop) (nx : Nat) (w : World) (run : Result Next) : GR → Prop
  | .bad => True
  | .pure ob s => ob → POut B σ M w run s
  | .new ob R s => ob → ∃ y w' L, run = .ok (.value y) w' ∧ MOK B W n0 (upd σ nx (some L)) (upd M nx (some R)) (fun r => F r ∧ r ≠ nx) w' ∧
      Keep (Zof B σ M w) (Zof B (upd σ nx (some L)) (upd M nx (some R)) w') w w' ∧ s.rel (upd σ nx (some L)) (Zof B (upd σ nx (some L)) (upd M nx (some R)) w') w' y ∧ FrS W n0 w w'
  | .set ob ref R s => ob → ∃ y w', (run = .ok (.value y) w' ∨ (run = .ok .skip w' ∧ y = undef)) ∧ MOK B W n0 σ (upd M ref (some R)) F w' ∧
      Keep (Zof B σ M w) (Zof B σ (upd M ref (some R)) w') w w' ∧ s.rel σ (Zof B σ (upd M ref (some R)) w') w' y ∧ FrS W n0 w w'
  | .app ob ref R s => ob → ∃ y w' L, run = .ok (.value y) w' ∧ MOK B W n0 (upd σ ref (some L)) (upd (killM ref M) ref (some R)) F w' ∧
      Keep (Zof B σ M w) (Zof B (upd σ ref (some L)) (upd (killM ref M) ref (some R)) w') w w' ∧ s.rel (upd σ ref (some L)) (Zof B (upd σ ref (some L)) (upd (killM ref M) ref (some R)) w') w' y ∧ FrS W n0 w w' ∧
      (∀ r L', r ≠ ref → σ r = some L' → upd σ ref (some L) r = some L')
  | .call f args => ∃ vs, SV.relL σ (Zof B σ M w) w args vs ∧ run = (callFunc f vs.toArray).run P w

section
variable {P : Program} {T : Tab} {B W F : Nat → Prop} {n0 : Nat} {σ : Sig} {M : Mem} {nx : Nat} {w : World} {a : Act} {E : Env}

theorem add_none (b o j : Nat) : (⟨b, o, none⟩ : Addr).add j = ⟨b, o + j, none⟩ := by unfold Addr.add; split <;> simp_all

theorem run_loadAt_agg {t : TypeId} {i : TI} (h : tyChk P t i = true) (hg : i.agg = true) {b o : Nat} {cs : List Value} (hl : cs.length = i.size) (hc : ∀ j v, cs[j]? = some v → w.cell? ⟨b, o + j, none⟩ = some v) :
    (Instr.loadAt t (.pointer (some ⟨b, o, none⟩))).run P w = .ok (.agg cs.toArray) w := by
  have h1 := run_loadCells_list (P := P) w ⟨b, o, none⟩ cs (fun j v hv => by rw [add_none]; exact hc j v hv)
  rw [hl] at h1
  simp [Instr.loadAt, Instr.sureAddr, loadVar, run_agg h w, hg, run_size h w, h1]
theorem run_loadAt_one {t : TypeId} {i : TI} (h : tyChk P t i = true) (hg : i.agg = false) {b o : Nat} {v : Value} (hc : w.cell? ⟨b, o, none⟩ = some v) :
    (Instr.loadAt t (.pointer (some ⟨b, o, none⟩))).run P w = .ok v w := by
  simp [Instr.loadAt, Instr.sureAddr, loadVar, run_agg h w, hg, hc]

/-- Cells, one by one, as a list. -/
theorem collect {Z : Nat → Prop} {b : Nat} (g : Nat → SV) : ∀ m o' o, (∀ j, j < m → ∃ v, w.cell? ⟨b, o + j, none⟩ = some v ∧ v.oneCell' = true ∧ (g (o' + j)).rel σ Z w v) →
    ∃ cs : List Value, cs.length = m ∧ (∀ j v, cs[j]? = some v → w.cell? ⟨b, o + j, none⟩ = some v) ∧ (∀ v ∈ cs, v.oneCell' = true) ∧ SV.relL σ Z w (cellsFrom g o' m) cs
  | 0, o', o, _ => ⟨[], rfl, by simp, by simp, rfl⟩
  | m + 1, o', o, h => by
    obtain ⟨v, h1, h2, h3⟩ := h 0 (by omega)
    obtain ⟨cs, e1, e2, e3, e4⟩ := collect g m (o' + 1) (o + 1) (fun j hj => by
      have := h (j + 1) (by omega)
      rwa [show o + (j + 1) = o + 1 + j from by omega, show o' + (j + 1) = o' + 1 + j from by omega] at this)
    refine ⟨v :: cs, by simp [e1], fun j u hu => ?_, fun u hu => ?_, ⟨v, cs, rfl, by simpa using h3, e4⟩⟩
    · cases j with
      | zero => simp at hu; subst hu; simpa using h1
      | succ j => have := e2 j u (by simpa using hu); rwa [show o + 1 + j = o + (j + 1) from by omega] at this
    · simp at hu
      rcases hu with rfl | hu
      · exact h2
      · exact e3 u hu

theorem snd_load (hT : TabOK P T) (hm : MOK B W n0 σ M F w) (t : TypeId) {s : SV} {x : Value} (hx : s.rel σ (Zof B σ M w) w x) :
    Snd P B W n0 σ M F nx w (((Instr.loadAt t x).run P w).andThen fun v w' => .ok (.value v) w') (gload T t M s) := by
  unfold gload
  split
  · trivial
  rename_i i hti
  have hc := hT.ti t i hti
  -- from cells to the load
  have fin : ∀ (b o o' : Nat) (g : Nat → SV), x = .pointer (some ⟨b, o, none⟩) → (∀ j, j < i.size → ∃ v, w.cell? ⟨b, o + j, none⟩ = some v ∧ v.oneCell' = true ∧ (g (o' + j)).rel σ (Zof B σ M w) w v) →
      i.agg = true → POut B σ M w (((Instr.loadAt t x).run P w).andThen fun v w' => .ok (.value v) w') (SV.agg (cellsFrom g o' i.size)) := by
    intro b o o' g e h hg
    obtain ⟨cs, h1, h2, h3, h4⟩ := collect g i.size o' o h
    refine ⟨.agg cs.toArray, .inl ?_, cs, rfl, h3, h4⟩
    rw [e, run_loadAt_agg hc hg h1 h2]; rfl
  have fin1 : ∀ (b o : Nat) (s' : SV) , x = .pointer (some ⟨b, o, none⟩) → (∃ v, w.cell? ⟨b, o, none⟩ = some v ∧ v.oneCell' = true ∧ s'.rel σ (Zof B σ M w) w v) →
      i.agg = false → POut B σ M w (((Instr.loadAt t x).run P w).andThen fun v w' => .ok (.value v) w') s' := by
    intro b o s' e h hg
    obtain ⟨v, h1, h2, h3⟩ := h
    refine ⟨v, .inl ?_, h3⟩
    rw [e, run_loadAt_one hc hg h1]; rfl
  split
  · rename_i ref row k fld
    obtain ⟨L, b, h1, h2, hxx⟩ := hx
    split
    · rename_i l hM
      obtain ⟨L', e1, e2⟩ := hm.reg ref _ hM
      rw [h1] at e1; cases e1
      obtain ⟨b', cs, ty, f1, f2, f3, f4⟩ := e2
      rw [h2] at f1; cases f1
      have hlen := SV.relL_length f4
      have cell : ∀ j, j < l.length → ∃ v, w.cell? ⟨b, j, none⟩ = some v ∧ v.oneCell' = true ∧ (l.getD j (.r .any)).rel σ (Zof B σ M w) w v := by
        intro j hj
        obtain ⟨v, g1, g2⟩ := SV.relL_get f4 j l[j] (List.getElem?_eq_getElem hj)
        refine ⟨v, ?_, f3 v (List.mem_of_getElem? g1), ?_⟩
        · simp [World.cell?, f2, g1]
        · simpa [List.getD, List.getElem?_eq_getElem hj] using g2
      split
      · rename_i hg
        intro ob
        exact fin b (row * k + fld) (row * k + fld) _ hxx (fun j hj => cell _ (by omega)) hg
      · rename_i hg
        intro ob
        exact fin1 b (row * k + fld) _ hxx (cell _ ob) (by simpa using hg)
    · rename_i e k' n get hM
      obtain ⟨L', e1, e2⟩ := hm.reg ref _ hM
      rw [h1] at e1; cases e1
      obtain ⟨f0, fm, f | ⟨b', cs, f1, f2, f3, fo, f5⟩⟩ := e2
      · rw [h2] at f; cases f.1
      rw [h2] at f1; cases f1
      have cell : ∀ i' j, i' < n → j < k' → ∃ v, w.cell? ⟨b, i' * k' + j, none⟩ = some v ∧ v.oneCell' = true ∧ (SV.r (get i' j)).rel σ (Zof B σ M w) w v := by
        intro i' j hi hj
        obtain ⟨v, g1, g0, g2⟩ := f5 i' j hi hj
        exact ⟨v, by simp [World.cell?, f2, g1], g0, g2⟩
      split
      · rename_i hg
        rintro ⟨rfl, ob1, ob2⟩
        refine fin b (row * k' + fld) fld _ hxx (fun j hj => ?_) hg
        have := cell row (fld + j) ob1 (by omega)
        rwa [← Nat.add_assoc] at this
      · rename_i hg
        rintro ⟨rfl, ob1, ob2⟩
        exact fin1 b (row * k' + fld) _ hxx (cell row fld ob1 ob2) (by simpa using hg)
    · trivial
  · rename_i k n get row fld
    obtain ⟨b, o, hxx, hz, hcell⟩ := hx
    split
    · rename_i hg
      rintro ⟨ob1, ob2⟩
      refine fin b (o + (row * k + fld)) fld _ hxx (fun j hj => ?_) hg
      have := hcell row (fld + j) ob1 (by omega)
      rwa [show o + (row * k + (fld + j)) = o + (row * k + fld) + j from by omega] at this
    · rename_i hg
      rintro ⟨ob1, ob2⟩
      exact fin1 b (o + (row * k + fld)) _ hxx (hcell row fld ob1 ob2) (by simpa using hg)
  · trivial

end
end Go.Gx
