/-
  Each operation does what 'gop' says: new variables, stores, parts.
-/
import Derived.Test.YtaggojedpkddjaaGg
set_option linter.unusedVariables false
set_option linter.unusedSimpArgs false
namespace Go.Gx
open Go.RowKit

section
variable {P : Program} {T : Tab} {B W F : Nat → Prop} {n0 : Nat} {σ : Sig} {M : Mem} {nx : Nat} {w : World} {a : Act} {E : Env}

theorem heap_new (w : World) (o : Obj) : (w.alloc o).heap[w.heap.size]? = some o := Go.heap_alloc_new w o
theorem heap_old (w : World) (o : Obj) (b : Nat) (h : b < w.heap.size) : (w.alloc o).heap[b]? = w.heap[b]? := by
  show (w.heap.push o)[b]? = w.heap[b]?
  rw [Array.getElem?_push, if_neg (Nat.ne_of_lt h)]

/-- A new block of cells as a box. -/
theorem new_box (hm : MOK B W n0 σ M F w) (hq : F nx) (hn0 : n0 ≤ w.heap.size) (ty : TypeId) (k : Nat) {l : List SV} {cs : List Value} (h1 : ∀ v ∈ cs, v.oneCell' = true) (h2 : SV.relL σ (Zof B σ M w) w l cs)
    {run : Result Next} (hr : run = .ok (.value (.pointer (some ⟨w.heap.size, 0, none⟩))) (w.alloc (.cells cs.toArray ty))) :
    ∃ y w' L, run = .ok (.value y) w' ∧ MOK B W n0 (upd σ nx (some L)) (upd M nx (some (.box l))) (fun r => F r ∧ r ≠ nx) w' ∧
      Keep (Zof B σ M w) (Zof B (upd σ nx (some L)) (upd M nx (some (.box l))) w') w w' ∧ (SV.ptr nx 0 k 0).rel (upd σ nx (some L)) (Zof B (upd σ nx (some L)) (upd M nx (some (.box l))) w') w' y ∧ FrS W n0 w w' := by
  obtain ⟨e1, e2, e3⟩ := mem_new (w' := w.alloc (.cells cs.toArray ty)) (L := ⟨some w.heap.size, 1⟩) (R := .box l) hm hq hn0 (by simp) (fun b hb => heap_old w _ b hb) (fun b hb => by cases hb; exact Nat.le_refl _)
    (fun σ' Z' hs hk => ⟨w.heap.size, cs, ty, rfl, heap_new w _, h1, SV.relL_mono hs hk _ _ h2⟩)
  exact ⟨_, _, ⟨some w.heap.size, 1⟩, hr, e1, e2, ⟨⟨some w.heap.size, 1⟩, w.heap.size, upd_same .., rfl, by simp⟩, ⟨rfl, rfl, rfl, by simp, fun b hb _ => heap_old w _ b (by omega)⟩⟩

theorem snd_box (hT : TabOK P T) (hm : MOK B W n0 σ M F w) (hq : F nx) (hn0 : n0 ≤ w.heap.size) (t : TypeId) {i : TI} (hi : T.ti t = some i) {s : SV} {x : Value} (hx : s.rel σ (Zof B σ M w) w x) :
    Snd P B W n0 σ M F nx w (vrun ((Instr.box t x).run P w)) (.new (allOne s.cells = true ∧ s.cells.length = i.size) (.box s.cells) (.ptr nx 0 i.size 0)) := by
  rintro ⟨h1, h2⟩
  obtain ⟨e1, e2⟩ := cells_rel hx h1
  refine new_box hm hq hn0 t i.size e2 e1 ?_
  simp [vrun, Instr.box, newVar, newRow]

theorem relL_consts {Z : Nat → Prop} : ∀ (l : List ZK), SV.relL σ Z w (l.map fun z => .r (.v z.val)) (l.map ZK.val)
  | [] => rfl
  | z :: l => ⟨z.val, _, rfl, rfl, relL_consts l⟩

theorem snd_alloc (hT : TabOK P T) (hm : MOK B W n0 σ M F w) (hq : F nx) (hn0 : n0 ≤ w.heap.size) (t : TypeId) {i : TI} (hi : T.ti t = some i) :
    Snd P B W n0 σ M F nx w (vrun ((Instr.alloc t true (.tuple #[])).run P w)) (.new True (.box (i.zero.map fun z => .r (.v z.val))) (.ptr nx 0 i.size 0)) := by
  intro _
  have hc := hT.ti t i hi
  refine new_box (cs := i.zero.map ZK.val) hm hq hn0 t i.size (fun v hv => ?_) (relL_consts _) ?_
  · obtain ⟨z, _, rfl⟩ := List.mem_map.1 hv
    exact ZK.val_one z
  · have : i.zeroV.cells = (i.zero.map ZK.val).toArray := by rw [← zeroV_cells hc]
    simp [vrun, Instr.alloc, run_zero hc, newVar, newRow, this]

/-! ### parts -/
theorem relL_append {Z : Nat → Prop} : ∀ {l l' : List SV} {xs ys : List Value}, SV.relL σ Z w l xs → SV.relL σ Z w l' ys → SV.relL σ Z w (l ++ l') (xs ++ ys)
  | [], l', xs, ys, h, h' => by cases h; exact h'
  | s :: l, l', xs, ys, h, h' => by
    obtain ⟨v, vs, rfl, h1, h2⟩ := h
    exact ⟨v, vs ++ ys, rfl, h1, relL_append h2 h'⟩
theorem relL_take {Z : Nat → Prop} : ∀ (n : Nat) {l : List SV} {xs : List Value}, SV.relL σ Z w l xs → SV.relL σ Z w (l.take n) (xs.take n)
  | 0, l, xs, h => by simp [SV.relL]
  | n + 1, [], xs, h => by cases h; rfl
  | n + 1, s :: l, xs, h => by
    obtain ⟨v, vs, rfl, h1, h2⟩ := h
    exact ⟨v, _, rfl, h1, relL_take n h2⟩
theorem relL_drop {Z : Nat → Prop} : ∀ (n : Nat) {l : List SV} {xs : List Value}, SV.relL σ Z w l xs → SV.relL σ Z w (l.drop n) (xs.drop n)
  | 0, l, xs, h => by simpa using h
  | n + 1, [], xs, h => by cases h; rfl
  | n + 1, s :: l, xs, h => by
    obtain ⟨v, vs, rfl, h1, h2⟩ := h
    exact relL_drop n h2

def putV (cs : List Value) (o : Nat) (vs : List Value) : List Value := cs.take o ++ vs ++ cs.drop (o + vs.length)
theorem relL_put {Z : Nat → Prop} {l x : List SV} {cs vs : List Value} (o : Nat) (h : SV.relL σ Z w l cs) (h' : SV.relL σ Z w x vs) : SV.relL σ Z w (put l o x) (putV cs o vs) := by
  unfold put putV
  rw [← SV.relL_length h']
  exact relL_append (relL_append (relL_take o h) h') (relL_drop _ h)
theorem putV_length {cs vs : List Value} {o : Nat} (h : o + vs.length ≤ cs.length) : (putV cs o vs).length = cs.length := by
  simp [putV]; omega
theorem putV_one {cs vs : List Value} {o : Nat} (h : ∀ v ∈ cs, v.oneCell' = true) (h' : ∀ v ∈ vs, v.oneCell' = true) : ∀ v ∈ putV cs o vs, v.oneCell' = true := by
  intro v hv
  simp only [putV, List.mem_append] at hv
  rcases hv with (hv | hv) | hv
  · exact h v (List.mem_of_mem_take hv)
  · exact h' v hv
  · exact h v (List.mem_of_mem_drop hv)

theorem foldl_set (off : Nat) : ∀ (vs : List Value) (k : Nat) (cs : Array Value), off + k + vs.length ≤ cs.size →
    ((vs.zipIdx k).foldl (fun cs (x : Value × Nat) => cs.setIfInBounds (off + x.2) x.1) cs).toList = cs.toList.take (off + k) ++ vs ++ cs.toList.drop (off + k + vs.length)
  | [], k, cs, h => by simp
  | v :: vs, k, cs, h => by
    simp only [List.zipIdx_cons, List.foldl_cons]
    rw [foldl_set off vs (k + 1) (cs.setIfInBounds (off + k) v) (by simp at h ⊢; omega)]
    have e := list_seg_step cs.toList (off + k) v vs (by simp at h ⊢; omega)
    simpa [Array.toList_setIfInBounds, Nat.add_assoc] using e

theorem fill_step (place : Nat → Option (Nat × Nat)) (cells : Array Value) (i : Nat) (v : Value) (rest : List (Nat × Value)) {o s : Nat} (h : place i = some (o, s)) (hs : v.cells.size = s) (hb : o + s ≤ cells.size) :
    Instr.fill place cells ((i, v) :: rest) = Instr.fill place (putV cells.toList o v.cells.toList).toArray rest := by
  subst hs
  conv => lhs; unfold Instr.fill
  simp only [h]
  rw [if_neg (by simp; omega)]
  refine congrArg (fun c => Instr.fill place c rest) ?_
  apply Array.ext'
  have e := foldl_set o v.cells.toList 0 cells (by simpa using hb)
  have e2 : (v.cells.zipIdx.foldl (fun cs x => cs.setIfInBounds (o + x.2) x.1) cells) = ((v.cells.toList.zipIdx 0).foldl (fun cs (x : Value × Nat) => cs.setIfInBounds (o + x.2) x.1) cells) := by
    rw [← Array.foldl_toList]; simp
  simp only [Nat.add_zero] at e
  rw [show (v.cells.zipIdx.foldl (fun cs (x : Value × Nat) => match x with | (c, j) => cs.setIfInBounds (o + j) c) cells) = (v.cells.zipIdx.foldl (fun cs x => cs.setIfInBounds (o + x.2) x.1) cells) from rfl, e2, e]
  rfl

def PartsOK (σ : Sig) (Z : Nat → Prop) (w : World) : List (Nat × SV) → List (Nat × Value) → Prop
  | [], vs => vs = []
  | p :: ps, vs => ∃ v vs', vs = v :: vs' ∧ (p.1 = v.1 ∧ p.2.rel σ Z w v.2) ∧ PartsOK σ Z w ps vs'

theorem place_fill {Z : Nat → Prop} (pl : Nat → Option (Nat × Nat)) : ∀ (ps : List (Nat × SV)) (vs : List (Nat × Value)) (l : List SV) (cs : List Value) (out : List SV), SV.relL σ Z w l cs → (∀ v ∈ cs, v.oneCell' = true) →
    PartsOK σ Z w ps vs → place pl l ps = some out → ∃ cs', Instr.fill pl cs.toArray vs = some cs'.toArray ∧ SV.relL σ Z w out cs' ∧ (∀ v ∈ cs', v.oneCell' = true)
  | [], vs, l, cs, out, h, h1, hp, he => by
    cases hp
    simp [place] at he; subst he
    exact ⟨cs, rfl, h, h1⟩
  | (i, x) :: ps, vs, l, cs, out, h, h1, hp, he => by
    · obtain ⟨⟨j, v⟩, vs, rfl, ⟨hp0, hp1⟩, hp2⟩ := hp
      simp only at hp0 hp1
      subst hp0
      simp only [place] at he
      split at he
      · cases he
      rename_i o s hpl
      split at he
      · rename_i hc
        obtain ⟨c1, c2, c3⟩ := hc
        obtain ⟨e1, e2⟩ := cells_rel hp1 c3
        have hsz : v.cells.size = s := by have := SV.relL_length e1; simp at this; omega
        have hlen := SV.relL_length h
        have := place_fill pl ps vs _ _ out (relL_put o h e1) (putV_one h1 e2) hp2 he
        obtain ⟨cs', g1, g2, g3⟩ := this
        refine ⟨cs', ?_, g2, g3⟩
        rw [fill_step pl _ i v vs hpl hsz (by simp; omega)]
        simpa using g1
      · cases he

theorem run_mapM_list {α β : Type} (f : α → Sem β) (g : α → β) (w : World) : ∀ l : List α, (∀ x ∈ l, (f x).run P w = .ok (g x) w) → (l.mapM f).run P w = .ok (l.map g) w
  | [], _ => by simp
  | x :: l, h => by
    simp only [List.mapM_cons, Sem.run_bind, h x (by simp), Result.andThen_ok, run_mapM_list f g w l (fun y hy => h y (by simp [hy]))]
    rfl
theorem run_mapM_arr {α β : Type} (f : α → Sem β) (g : α → β) (w : World) (l : Array α) (h : ∀ x ∈ l.toList, (f x).run P w = .ok (g x) w) : (l.mapM f).run P w = .ok (l.map g) w := by
  rw [Array.mapM_eq_mapM_toList, Sem.run_map, run_mapM_list f g w l.toList h]
  simp only [Result.andThen_ok]
  congr 1
  apply Array.ext'
  simp

theorem forall2_parts {Z : Nat → Prop} (he : EOK σ Z w E a) : ∀ (ps : List (Nat × Operand)),
    PartsOK σ Z w (ps.map fun p => (p.1, ev E p.2)) (ps.map fun p => (p.1, a.eval p.2))
  | [] => rfl
  | p :: ps => ⟨_, _, rfl, ⟨rfl, ev_rel he p.2⟩, forall2_parts he ps⟩

theorem snd_build (hT : TabOK P T) (t : TypeId) (ps : Array (Nat × Operand)) (he : EOK σ (Zof B σ M w) w E a) :
    Snd P B W n0 σ M F nx w (vrun ((Instr.build t (ps.map fun p => (p.1, a.eval p.2))).run P w)) (gbuild T t (ps.toList.map fun p => (p.1, ev E p.2))) := by
  have hp := forall2_parts he ps.toList
  unfold gbuild
  split
  · rename_i sz by_ ze fs hti
    have hc := hT.ti t _ hti
    obtain ⟨fa, hu, hsz, hg⟩ := und_struct hc rfl
    split
    · rename_i cs hcs
      intro _
      have hz := run_zero hc w
      have hzc := zeroV_cells hc
      obtain ⟨cs', g1, g2, g3⟩ := place_fill _ _ _ _ _ cs (relL_consts (σ := σ) (w := w) (Z := Zof B σ M w) ze) (fun v hv => by obtain ⟨z, _, rfl⟩ := List.mem_map.1 hv; exact ZK.val_one z) hp hcs
      have hmap : (fa.mapM fun f => do pure (f.offset, ← sizeOf f.type) : Sem (Array (Nat × Nat))).run P w = .ok (fs.map fun x => (x.1, x.2.1)).toArray w := by
        rw [run_mapM_arr _ (fun f => (f.offset, ((P.info? f.type).map (·.size)).getD 0)) w fa (fun f hf => ?_)]
        · congr 1
          apply Array.ext'
          simp only [Array.toList_map]
          apply List.ext_getElem?
          intro j
          simp only [List.getElem?_map]
          cases hj : fs[j]? with
          | none =>
            have : fa.toList[j]? = none := by
              rw [List.getElem?_eq_none_iff] at hj ⊢
              simp; omega
            simp [this]
          | some x =>
            obtain ⟨o, s, g⟩ := x
            obtain ⟨f, f1, f2, f3, _⟩ := hg j o s g hj
            have f1' : fa.toList[j]? = some f := by simpa using f1
            unfold sizeIs at f3
            split at f3
            · rename_i ti hti'
              simp at f3
              simp [f1', f2, hti', f3]
            · simp at f3
        · obtain ⟨j, hj, hj2⟩ := List.getElem_of_mem hf
          have hj' : j < fs.length := by simp at hj; omega
          rcases hfs : fs[j] with ⟨o, s, g⟩
          obtain ⟨f', f1, f2, f3, _⟩ := hg j o s g (by rw [List.getElem?_eq_getElem hj', hfs])
          have : f' = f := by
            have e : fa.toList[j]? = some f' := by simpa using f1
            rw [List.getElem?_eq_getElem hj, hj2] at e
            cases e; rfl
          subst this
          rw [Sem.run_bind, run_sizeIs f3]
          unfold sizeIs at f3
          split at f3
          · rename_i ti hti'
            simp at f3
            simp [hti', f3]
          · simp at f3
      refine POut.of (y := .agg cs'.toArray) ?_ ⟨cs', rfl, g3, g2⟩
      have hz2 : TI.zeroV ⟨sz, by_, ze, .struct fs⟩ = .agg (ze.map ZK.val).toArray := rfl
      rw [hz2] at hz
      have hpl : (fun i => (fs.map fun x => (x.1, x.2.1)).toArray[i]?) = fun (i : Nat) => (fs[i]?).map fun (x : Nat × Nat × Bool) => match x with | (o, s, _) => (o, s) := by
        funext i
        simp
      unfold Instr.build
      rw [Sem.run_bind, hz, Result.andThen_ok, Sem.run_bind, run_underlying hu, Result.andThen_ok]
      simp only [Value.cells]
      rw [Sem.run_bind, hmap, Result.andThen_ok]
      rw [hpl]
      rw [Array.toList_map, g1]
      rfl
    · trivial
  · rename_i sz by_ ze n es g hti
    have hc := hT.ti t _ hti
    obtain ⟨e, hu, hes, _⟩ := und_array hc rfl
    split
    · rename_i cs hcs
      intro _
      have hz := run_zero hc w
      obtain ⟨cs', g1, g2, g3⟩ := place_fill _ _ _ _ _ cs (relL_consts (σ := σ) (w := w) (Z := Zof B σ M w) ze) (fun v hv => by obtain ⟨z, _, rfl⟩ := List.mem_map.1 hv; exact ZK.val_one z) hp hcs
      refine POut.of (y := .agg cs'.toArray) ?_ ⟨cs', rfl, g3, g2⟩
      have hz2 : TI.zeroV ⟨sz, by_, ze, .array n es g⟩ = .agg (ze.map ZK.val).toArray := rfl
      rw [hz2] at hz
      unfold Instr.build
      rw [Sem.run_bind, hz, Result.andThen_ok, Sem.run_bind, run_underlying hu, Result.andThen_ok]
      simp only [Value.cells]
      rw [Sem.run_bind, run_sizeIs hes, Result.andThen_ok]
      rw [Array.toList_map, g1]
      rfl
    · trivial
  · trivial
end
end Go.Gx
