/-
  Regions of open order in which some operations (values that are moved, ahead of a call) go first, some float, and the rest is in order.
-/
import Derived.Test.YtnajladibkpeaaaK10
set_option linter.unusedVariables false
set_option linter.unusedSimpArgs false
namespace Go.Gx
open Go.RowKit

section
variable {P : Program} {T : Tab} {B W F : Nat → Prop} {w0 : W0} {N : Cfg} {n0 : Nat} {σ σ' : Sig} {M M' : Mem} {nx : Nat} {w w' : World} {a : Act} {E E' : Env} {ops : Array Oper}
variable {m : Nat} {vals : Nat → SV × Option Reg} {q : Nat → Nat} {tk : List Nat}

structure DT (ops : Array Oper) (m : Nat) (tk : List Nat) : Prop where
  le : m ≤ ops.size
  pair : ∀ i j, i < m → j < m → i ≠ j → clashes ops i j = true → (if i < j then ahead_ ops i j else ahead_ ops j i) = true
  tail : ∀ j, m ≤ j → j < ops.size → ∀ i, i < j → i < m → i ∈ tk ∨ ahead_ ops i j = true
  late : ∀ j i, m ≤ i → i < j → j < ops.size → ahead_ ops i j = true
  wf : ∀ j o, ops[j]? = some o → ∀ e ∈ o.after, Region.binds .any e = true → e.on < j
  guard : ∀ i, i < m → ∀ o, ops[i]? = some o → ∀ g, o.guard = some g → g.1 < m
  tkm : ∀ i ∈ tk, i < m
  tko : ∀ i ∈ tk, ∃ d x ty pos, ops[i]? = some ⟨d, .move x, ty, pos, #[], none⟩
  nd : tk.Nodup
def isMv (o : Oper) : Bool := o.guard.isNone && o.after.isEmpty && (match o.op with | .move _ => true | _ => false)
def drawOKt (ops : Array Oper) (m : Nat) (tk : List Nat) : Bool :=
  decide (m ≤ ops.size) && ((List.range m).all fun j => (List.range m).all fun i => decide (i = j) || !clashes ops i j || (if i < j then ahead_ ops i j else ahead_ ops j i)) &&
  ((List.range ops.size).all fun j => decide (j < m) || (List.range j).all fun i => (decide (i < m) && decide (i ∈ tk)) || ahead_ ops i j) &&
  (ops.toList.zipIdx.all fun (o, j) => o.after.all fun e => !Region.binds .any e || decide (e.on < j)) &&
  ((List.range m).all fun i => match ops[i]? with | some o => (match o.guard with | some g => decide (g.1 < m) | none => true) | none => true) &&
  (tk.all fun i => decide (i < m) && match ops[i]? with | some o => isMv o | none => false) && decide tk.Nodup
theorem drawOKt_spec (h : drawOKt ops m tk = true) : DT ops m tk := by
  unfold drawOKt at h
  simp only [Bool.and_eq_true] at h
  obtain ⟨⟨⟨⟨⟨⟨h1, h2⟩, h3⟩, h4⟩, h5⟩, h6⟩, h7⟩ := h
  have ht : ∀ j, m ≤ j → j < ops.size → ∀ i, i < j → (i < m ∧ i ∈ tk) ∨ ahead_ ops i j = true := fun j hj hs i hi => by
    have := List.all_eq_true.1 h3 j (List.mem_range.2 hs)
    rw [Bool.or_eq_true] at this
    rcases this with h | h
    · have := of_decide_eq_true h; omega
    · have := List.all_eq_true.1 h i (List.mem_range.2 hi)
      rw [Bool.or_eq_true, Bool.and_eq_true] at this
      rcases this with h | h
      · exact .inl ⟨of_decide_eq_true h.1, of_decide_eq_true h.2⟩
      · exact .inr h
  refine ⟨of_decide_eq_true h1, fun i j hi hj hne hc => ?_, fun j hj hs i hi him => (ht j hj hs i hi).imp (·.2) id, fun j i hi hj hs => (ht j (by omega) hs i hj).resolve_left fun h => by omega, fun j o ho e he hb => ?_, fun i hi o ho g hg => ?_, fun i hi => ?_, fun i hi => ?_, of_decide_eq_true h7⟩
  · have := List.all_eq_true.1 (List.all_eq_true.1 h2 j (List.mem_range.2 hj)) i (List.mem_range.2 hi)
    rw [Bool.or_eq_true, Bool.or_eq_true] at this
    rcases this with (h | h) | h
    · exact absurd (by simpa using h) hne
    · rw [hc] at h; cases h
    · exact h
  · have := List.all_eq_true.1 h4 (o, j) (by rw [List.mk_mem_zipIdx_iff_getElem?]; simpa using ho)
    simp only at this
    have := Array.all_eq_true_iff_forall_mem.1 this e he
    rw [Bool.or_eq_true] at this
    rcases this with h | h
    · rw [hb] at h; cases h
    · exact of_decide_eq_true h
  · have := List.all_eq_true.1 h5 i (List.mem_range.2 hi)
    simp only [ho, hg] at this
    exact of_decide_eq_true this
  · have := List.all_eq_true.1 h6 i hi
    rw [Bool.and_eq_true] at this
    exact of_decide_eq_true this.1
  · have := List.all_eq_true.1 h6 i hi
    rw [Bool.and_eq_true] at this
    have h8 := this.2
    split at h8
    · rename_i o ho
      obtain ⟨d, op, ty, pos, af, g⟩ := o
      simp only [isMv, Bool.and_eq_true, Option.isNone_iff_eq_none] at h8
      obtain ⟨⟨h9, h10⟩, h11⟩ := h8
      subst h9
      have : af = #[] := by simpa using h10
      subst this
      split at h11
      · exact ⟨d, _, ty, pos, ho⟩
      · cases h11
    · cases h8

theorem extract_get {i : Nat} (hi : i < m) (hm : m ≤ ops.size) : (ops.extract 0 m)[i]? = ops[i]? := by
  rw [Array.getElem?_extract]
  simp
  omega
theorem extract_some {i : Nat} {o : Oper} (h : (ops.extract 0 m)[i]? = some o) : ops[i]? = some o := by
  rw [Array.getElem?_extract] at h
  split at h
  · simpa using h
  · cases h
theorem ESl_take (vals : Nat → SV × Option Reg) (E : Env) (lf : Nat → Bool) (m : Nat) (hm' : m ≤ m) : ∀ k, k ≤ m → m ≤ ops.size → ESl (ops.extract 0 m) vals E lf k = ESl ops vals E lf k
  | 0, _, _ => rfl
  | k + 1, hk, hs => by
    simp only [ESl, ESl_take vals E lf m hm' k (by omega) hs, extract_get (show k < m by omega) hs]
theorem yielded_take {j : Nat} (hj : j < m) (hm : m ≤ ops.size) (tmps : Array Value) : yielded (ops.extract 0 m) tmps j = yielded ops tmps j := by
  unfold yielded
  rw [extract_get hj hm]
theorem befGo_take : ∀ (l : List Oper) (n : Nat) (acc : Array Nat) (j : Nat), j < acc.size + n → (befGo acc (l.take n)).getD j 0 = (befGo acc l).getD j 0
  | [], n, acc, j, _ => by simp
  | o :: l, 0, acc, j, h => by
    rw [List.take_zero]
    exact (befGo_old (o :: l) acc j (by omega)).symm
  | o :: l, n + 1, acc, j, h => by
    simp only [List.take_succ_cons, befGo]
    exact befGo_take l n _ j (by simp; omega)
theorem ahead_take {i j : Nat} (hm : m ≤ ops.size) (hj : j < m) : ahead_ (ops.extract 0 m) i j = ahead_ ops i j := by
  unfold ahead_ befs
  have : (ops.extract 0 m).toList = ops.toList.take m := by simp
  rw [this, befGo_take _ _ _ _ (by simpa using hj)]
theorem wpOp_take {i : Nat} (hi : i < m) (hm : m ≤ ops.size) (hg : ∀ o g, ops[i]? = some o → o.guard = some g → g.1 < m) {Q : Exit → Act → World → Prop} {K : Act → World → Prop} (h : wpOp P (ops.extract 0 m) Q i K a w) : wpOp P ops Q i K a w := by
  unfold wpOp at h ⊢
  rw [extract_get hi hm] at h
  cases ho : ops[i]? with
  | none => rw [ho] at h; exact h
  | some o =>
    rw [ho] at h
    simp only at h ⊢
    have : Region.wanted o (yielded (ops.extract 0 m) a.tmps) = Region.wanted o (yielded ops a.tmps) := by
      unfold Region.wanted
      cases hgd : o.guard with
      | none => rfl
      | some g =>
        have := hg o g ho hgd
        simp only [yielded_take this hm]
    rw [this] at h
    exact h

theorem tail_any2 (hT : TabOK P T) (ok : DT ops m tk) {Q : GQ} : ∀ (fuel : Nat) (U : List Nat) (p : Nat) (listed : Array Bool) (E : Env) (M : Mem) (nx : Nat) (σ : Sig) (a : Act) (w : World),
    U.length = fuel → U.Nodup → (∀ j, j ∈ U ↔ j < ops.size ∧ listed.getD j false = false) → listed.size = ops.size → m ≤ p → (∀ j, j < ops.size → (listed.getD j false = true ↔ j < p)) →
    St B W w0 N σ E M nx a w → gops P T N ops (ops.toList.drop p) E M nx (Q .normal) → wpAny P .any ops (QQ B W w0 N Q) fuel listed a w := by
  intro fuel
  induction fuel with
  | zero =>
    intro U p listed E M nx σ a w hl hnd hU hsz hmp hp h hg
    have hU0 : U = [] := List.eq_nil_of_length_eq_zero hl
    subst hU0
    have hall : ops.size ≤ p := by
      rcases Nat.lt_or_ge p ops.size with h1 | h1
      · have : listed.getD p false = false := by
          cases h2 : listed.getD p false with
          | false => rfl
          | true => have := (hp p h1).1 h2; omega
        have := (hU p).2 ⟨h1, this⟩
        simp at this
      · exact h1
    rw [List.drop_of_length_le (by simpa using hall)] at hg
    refine ⟨?_, _, _, _, _, hg, h⟩
    apply List.eq_nil_iff_forall_not_mem.2
    intro i hi
    have := (unl listed i).1 (mem_ready.1 hi).1
    have := (hU i).2 ⟨by omega, this.2⟩
    simp at this
  | succ fuel ih =>
    intro U p listed E M nx σ a w hl hnd hU hsz hmp hp h hg
    have hready : ∀ i, i ∈ Region.ready .any ops listed → i = p := by
      intro i hi
      obtain ⟨h1, o, ho, h2⟩ := mem_ready.1 hi
      obtain ⟨h3, h4⟩ := (unl listed i).1 h1
      have h5 : ¬ i < p := fun hlt => by rw [(hp i (by omega)).2 hlt] at h4; cases h4
      rcases Nat.lt_or_ge p i with h6 | h6
      · have h7 := ahead_in (l := fun j => listed.getD j false = true) ok.wf (fun j o' hj ho' e he hb => by
          have hlt := (Array.getElem?_eq_some_iff.1 ho').1
          have := (hp j hlt).1 hj
          have h8 := ok.wf j o' ho' e he hb
          exact (hp e.on (by omega)).2 (by omega)) i (fun o' ho' => by rw [ho] at ho'; cases ho'; exact h2) (ok.late i p hmp h6 (by omega))
        have := (hp p (by omega)).1 h7
        omega
      · omega
    refine ⟨fun hr => ?_, fun i hi => ?_⟩
    · rcases Nat.lt_or_ge p ops.size with h1 | h1
      · have : p ∈ Region.ready .any ops listed := by
          refine mem_ready.2 ⟨(unl listed p).2 ⟨by omega, ?_⟩, ops[p], Array.getElem?_eq_getElem h1, fun e he hb => ?_⟩
          · cases h2 : listed.getD p false with
            | false => rfl
            | true => have := (hp p h1).1 h2; omega
          · have h8 := ok.wf p _ (Array.getElem?_eq_getElem h1) e he hb
            exact (hp e.on (by omega)).2 h8
        rw [hr] at this; simp at this
      · rw [List.drop_of_length_le (by simpa using h1)] at hg
        exact ⟨_, _, _, _, hg, h⟩
    · have := hready i hi
      subst this
      obtain ⟨h1, o, ho, h2⟩ := mem_ready.1 hi
      obtain ⟨h3, h4⟩ := (unl listed i).1 h1
      have hlt : i < ops.toList.length := by simpa using (by omega : i < ops.size)
      have hget : ops.toList[i] = o := by
        have := (Array.getElem?_eq_some_iff.1 ho).2
        simpa using this
      rw [List.drop_eq_getElem_cons hlt, hget] at hg
      have hs := gops_step (Q := QQ B W w0 N Q) (next := wpAny P .any ops (QQ B W w0 N Q) fuel (listed.setIfInBounds i true)) hT h hg (fun E' M' nx' σ' a' w' hk hs => by
        refine ih (U.erase i) (i + 1) _ E' M' nx' σ' a' w' ?_ (hnd.erase i) ?_ (by simpa using hsz) (by omega) ?_ hs hk
        · rw [List.length_erase_of_mem ((hU i).2 ⟨by omega, h4⟩), hl]; rfl
        · intro j
          rw [hnd.mem_erase_iff, hU, getD_put _ h3]
          by_cases hj : j = i
          · simp [hj]
          · simp [hj]
        · intro j hj
          rw [getD_put _ h3]
          by_cases hji : j = i
          · simp [hji]
          · rw [if_neg hji, hp j hj]; omega)
      unfold wpOp; rw [ho]; simp only []
      split
      · rename_i hw; rw [if_pos hw] at hs; exact .inl hs
      · rename_i hw; rw [if_neg hw] at hs; exact hs

theorem phase_any2 (hT : TabOK P T) (ok : DT ops m tk) (tr : Tr P T N (ops.extract 0 m) m vals q E M nx) (hlow : N.np ≤ nx) {Q : GQ} (hfin : gops P T N ops (ops.toList.drop m) (ESl ops vals E (fun _ => true) m) (MSl vals q M (fun _ => true) m) (q m) (Q .normal)) : ∀ (fuel : Nat) (U : List Nat) (listed : Array Bool) (σ : Sig) (a : Act) (w : World),
    U.length = fuel → U.Nodup → (∀ j, j ∈ U ↔ j < ops.size ∧ listed.getD j false = false) → listed.size = ops.size → Clo ops (fun j => listed.getD j false) → (∀ j, listed.getD j false = true → j < m) → (∀ j ∈ tk, listed.getD j false = true) →
    StF B W w0 N σ (ESl ops vals E (fun j => listed.getD j false) m) (MSl vals q M (fun j => listed.getD j false) m) (FS m vals q nx (fun j => listed.getD j false)) a w → wpAny P .any ops (QQ B W w0 N Q) fuel listed a w := by
  have hsl : ∀ lf, ESl (ops.extract 0 m) vals E lf m = ESl ops vals E lf m := fun lf => ESl_take vals E lf m (Nat.le_refl m) m (Nat.le_refl m) ok.le
  have done : ∀ (fuel : Nat) (U : List Nat) (listed : Array Bool) (σ : Sig) (a : Act) (w : World),
    U.length = fuel → U.Nodup → (∀ j, j ∈ U ↔ j < ops.size ∧ listed.getD j false = false) → listed.size = ops.size → Clo ops (fun j => listed.getD j false) → (∀ j, listed.getD j false = true → j < m) →
    StF B W w0 N σ (ESl ops vals E (fun j => listed.getD j false) m) (MSl vals q M (fun j => listed.getD j false) m) (FS m vals q nx (fun j => listed.getD j false)) a w →
    (∀ j, j < m → listed.getD j false = true) → wpAny P .any ops (QQ B W w0 N Q) fuel listed a w := by
    intro fuel U listed σ a w hl hnd hU hsz hcl hm h hall
    refine tail_any2 hT ok fuel U m listed _ _ (q m) σ a w hl hnd hU hsz (Nat.le_refl _) (fun j _ => ⟨hm j, hall j⟩) ?_ hfin
    have e1 : ESl ops vals E (fun j => listed.getD j false) m = ESl ops vals E (fun _ => true) m := by
      funext t; exact ESl_agree m (fun k hk _ => hall k hk)
    have e2 : MSl vals q M (fun j => listed.getD j false) m = MSl vals q M (fun _ => true) m := MSl_congr m (fun k hk => hall k hk)
    rw [e1, e2] at h
    refine ⟨h.env, h.mem.weaken fun r hr => ⟨Nat.le_trans (tr.qge m) hr, fun c h1 _ h2 => ?_⟩, h.fr, h.defers, h.size, Nat.le_trans hlow (tr.qge m), h.pin⟩
    have h3 := tr.qlt c h1 h2
    have h4 : q m ≤ r := hr
    omega
  intro fuel
  induction fuel with
  | zero =>
    intro U listed σ a w hl hnd hU hsz hcl hm htk h
    refine done 0 U listed σ a w hl hnd hU hsz hcl hm h fun j hj => ?_
    have hU0 : U = [] := List.eq_nil_of_length_eq_zero hl
    subst hU0
    cases h2 : listed.getD j false with
    | true => rfl
    | false =>
      have := (hU j).2 ⟨Nat.lt_of_lt_of_le hj ok.le, h2⟩
      simp at this
  | succ fuel ih =>
    intro U listed σ a w hl hnd hU hsz hcl hm htk h
    by_cases hall : ∀ j, j < m → listed.getD j false = true
    · exact done _ U listed σ a w hl hnd hU hsz hcl hm h hall
    · have hle := ok.le
      refine ⟨fun hr => ?_, fun i hi => ?_⟩
      · exfalso
        apply hall
        intro j
        induction j using Nat.strongRecOn with
        | _ j ihj =>
          intro hj
          cases h2 : listed.getD j false with
          | true => rfl
          | false =>
            have hlt : j < ops.size := by omega
            have : j ∈ Region.ready .any ops listed := mem_ready.2 ⟨(unl listed j).2 ⟨by omega, h2⟩, ops[j], Array.getElem?_eq_getElem hlt, fun e he hb => by
              have h8 := ok.wf j _ (Array.getElem?_eq_getElem hlt) e he hb
              exact ihj e.on h8 (by omega)⟩
            rw [hr] at this; simp at this
      · obtain ⟨h1, o, ho, h2⟩ := mem_ready.1 hi
        obtain ⟨h3, h4⟩ := (unl listed i).1 h1
        have him : i < m := by
          rcases Nat.lt_or_ge i m with h5 | h5
          · exact h5
          · exfalso
            apply hall
            intro j hj
            apply Classical.byContradiction
            intro hnj
            exact hnj <| ahead_in (l := fun j => listed.getD j false = true) ok.wf (fun j o hj ho => hcl j o hj ho) i (fun o' ho' => by rw [ho] at ho'; cases ho'; exact h2) ((ok.tail i h5 (by omega) j (by omega) hj).resolve_left fun hjk => hnj (htk j hjk))
        have e0 : (fun j => (listed.setIfInBounds i true).getD j false) = (fun k => if k = i then true else listed.getD k false) := by
          funext j; exact getD_put listed h3 j
        have hoX : (ops.extract 0 m)[i]? = some o := by rw [extract_get him ok.le]; exact ho
        refine wpOp_take him ok.le (fun o' g ho' hg => ok.guard i him o' ho' g hg) ?_
        refine phase_step hT tr (lf := fun j => listed.getD j false) him hoX h4 h2 (fun j o' hj ho' => hcl j o' hj (extract_some ho')) (by rw [hsl]; exact h) fun σ' a' w' hs => ?_
        rw [hsl] at hs
        refine ih (U.erase i) _ σ' a' w' ?_ (hnd.erase i) ?_ (by simpa using hsz) ?_ ?_ ?_ ?_
        · rw [List.length_erase_of_mem ((hU i).2 ⟨by omega, h4⟩), hl]; rfl
        · intro j
          rw [hnd.mem_erase_iff, hU, getD_put _ h3]
          by_cases hj : j = i
          · simp [hj]
          · simp [hj]
        · rw [e0]
          intro j o' hj ho' e he hb
          show (if e.on = i then true else listed.getD e.on false) = true
          by_cases hji : j = i
          · subst hji
            rw [ho] at ho'; cases ho'
            have := h2 e he hb
            simp only [this]; split <;> rfl
          · have hj' : listed.getD j false = true := by simpa [hji] using hj
            have := hcl j o' hj' ho' e he hb
            simp only at this
            simp only [this]; split <;> rfl
        · intro j hj
          rw [getD_put _ h3] at hj
          by_cases hji : j = i
          · omega
          · rw [if_neg hji] at hj; exact hm j hj
        · intro j hj
          rw [getD_put _ h3]
          by_cases hji : j = i
          · rw [if_pos hji]
          · rw [if_neg hji]; exact htk j hj
        · rw [e0]; exact hs


theorem DStep_take {i : Nat} {o : Oper} {E : Env} {M : Mem} {p : Nat} {v : SV} {u : Option Reg} (hm : m ≤ ops.size) (hg : ∀ g, o.guard = some g → g.1 < m) (h : DStep P T N ops o E M p v u) : DStep P T N (ops.extract 0 m) o E M p v u := by
  cases hgd : o.guard with
  | none => exact (DStep_none hgd).2 ((DStep_none hgd).1 h)
  | some g =>
    obtain ⟨j, want⟩ := g
    have hj := hg _ hgd
    refine (DStep_some hgd).2 ?_
    have := (DStep_some hgd).1 h
    rw [← extract_get (show j < m from hj) hm] at this
    exact this
def freeSeq (ops : Array Oper) : List Nat → Array Bool → Bool
  | [], _ => true
  | i :: tk, listed => Region.free .any ops listed i && (Region.ready .any ops listed).contains i && freeSeq ops tk (listed.setIfInBounds i true)
theorem takes_any (hT : TabOK P T) (ok : DT ops m tk) (tr : Tr P T N (ops.extract 0 m) m vals q E M nx) (hlow : N.np ≤ nx) (hsel : Region.noSelect ops = true) {Q : GQ} (hp : ∀ c E M nx, Q (.panic c) E M nx → False)
    (hfin : gops P T N ops (ops.toList.drop m) (ESl ops vals E (fun _ => true) m) (MSl vals q M (fun _ => true) m) (q m) (Q .normal)) : ∀ (tl : List Nat) (fuel : Nat) (U : List Nat) (listed : Array Bool) (σ : Sig) (a : Act) (w : World),
    (∀ i ∈ tl, i ∈ tk) → tl.Nodup → (∀ i ∈ tl, listed.getD i false = false) → (∀ i ∈ tk, i ∈ tl ∨ listed.getD i false = true) → freeSeq ops tl listed = true →
    U.length = fuel → U.Nodup → (∀ j, j ∈ U ↔ j < ops.size ∧ listed.getD j false = false) → listed.size = ops.size → Clo ops (fun j => listed.getD j false) → (∀ j, listed.getD j false = true → j < m) →
    StF B W w0 N σ (ESl ops vals E (fun j => listed.getD j false) m) (MSl vals q M (fun j => listed.getD j false) m) (FS m vals q nx (fun j => listed.getD j false)) a w → wpAny P .any ops (QQ B W w0 N Q) fuel listed a w := by
  have hsl : ∀ lf k, k ≤ m → ESl (ops.extract 0 m) vals E lf k = ESl ops vals E lf k := fun lf k hk => ESl_take vals E lf m (Nat.le_refl m) k hk ok.le
  intro tl
  induction tl with
  | nil =>
    intro fuel U listed σ a w _ _ _ htk _ hl hnd hU hsz hcl hm h
    exact phase_any2 hT ok tr hlow hfin fuel U listed σ a w hl hnd hU hsz hcl hm (fun j hj => (htk j hj).resolve_left (by simp)) h
  | cons i tl ih =>
    intro fuel U listed σ a w hsub hnd2 hun htk hfr hl hnd hU hsz hcl hm h
    have hik := hsub i (by simp)
    have him := ok.tkm i hik
    have hle := ok.le
    have h4 := hun i (by simp)
    have h3 : i < listed.size := by omega
    obtain ⟨d, x, ty, pos, ho⟩ := ok.tko i hik
    have hiU : i ∈ U := (hU i).2 ⟨by omega, h4⟩
    cases fuel with
    | zero =>
      have : U = [] := List.eq_nil_of_length_eq_zero hl
      rw [this] at hiU; simp at hiU
    | succ fuel =>
      simp only [freeSeq, Bool.and_eq_true] at hfr
      obtain ⟨⟨hf1, hf2⟩, hf3⟩ := hfr
      have hoX : (ops.extract 0 m)[i]? = some ⟨d, .move x, ty, pos, #[], none⟩ := by rw [extract_get him hle]; exact ho
      have hcl' : Clo (ops.extract 0 m) (fun j => listed.getD j false) := fun j o' hj ho' => hcl j o' hj (extract_some ho')
      have h2 : ∀ e ∈ (⟨d, .move x, ty, pos, #[], none⟩ : Oper).after, Region.binds .any e = true → listed.getD e.on false = true := fun e he => by simp at he
      obtain ⟨hdst, hrun⟩ := (DStep_none rfl).1 (tr.step i _ him hoX)
      have hrun := ((DRun_else (by intro c x y h; cases h)).1 hrun).2
      simp only [DRun', gop] at hrun
      obtain ⟨_, hv, hu⟩ := hrun
      have hops : ev (ESl ops vals E (fun j => listed.getD j false) m) x = ev (ESl ops vals E (fun _ => true) i) x := by
        cases x with
        | tmp t =>
          have := phase_env tr him hoX h4 h2 hcl' (t := t) fun k _ _ hd => clash_operand hoX hd (by simp [Op.operands])
          rw [hsl _ m (Nat.le_refl m), hsl _ i (by omega)] at this
          exact this
        | _ => rfl
      have hE' := ESl_put (ops := ops) (vals := vals) (E := E) (l := fun j => listed.getD j false) h4 m him (fun k h1 h2' hl t hti htk' => by
        have h5 := ok.pair k i h2' him (by omega) (clash_dst (o := ⟨d, .move x, ty, pos, #[], none⟩) ho htk' (by rw [ho] at hti; simpa using hti))
        rw [if_neg (by omega)] at h5
        have := ahead_in (l := fun j => listed.getD j false = true) ok.wf (fun j o hj ho => hcl j o hj ho) k (fun o' ho' => hcl k o' hl ho') h5
        rw [h4] at this; cases this)
      have hM' := MSl_put (M := M) (vals := vals) (q := q) (l := fun j => listed.getD j false) h4 m him (fun k hk hne h1 h2 => tr.qne k i hne h1 h2)
      have hdsto : (ops[i]?).bind (·.dst) = d := by rw [ho]; rfl
      rw [hdsto, hv] at hE'
      rw [hu] at hM'
      rw [hsl _ i (by omega)] at hE'
      rw [← hops] at hE'
      have e0 : (fun j => (listed.setIfInBounds i true).getD j false) = (fun k => if k = i then true else listed.getD k false) := by
        funext j; exact getD_put listed h3 j
      have hst := h.put hdst (ev_rel h.env x)
      refine wpAny_take (v := a.eval x) ho hsel hf1 hf2 (fun c a w hh => ?_) (.inl ⟨by simp [Region.wanted], fun w => rfl⟩) ?_
      · obtain ⟨_, _, _, _, hq, _⟩ := hh
        exact (hp _ _ _ _ hq).elim
      refine ih fuel (U.erase i) _ σ _ w (fun j hj => hsub j (by simp [hj])) (List.nodup_cons.1 hnd2).2 (fun j hj => ?_) (fun j hj => ?_) hf3 ?_ (hnd.erase i) ?_ (by simpa using hsz) ?_ ?_ ?_
      · rw [getD_put _ h3, if_neg fun e => (List.nodup_cons.1 hnd2).1 (by rw [← e]; exact hj)]
        exact hun j (by simp [hj])
      · rw [getD_put _ h3]
        rcases htk j hj with h5 | h5
        · rcases List.mem_cons.1 h5 with rfl | h5
          · exact .inr (if_pos rfl)
          · exact .inl h5
        · by_cases e : j = i
          · exact .inr (if_pos e)
          · exact .inr (by rw [if_neg e]; exact h5)
      · rw [List.length_erase_of_mem hiU, hl]; rfl
      · intro j
        rw [hnd.mem_erase_iff, hU, getD_put _ h3]
        by_cases hj : j = i
        · simp [hj]
        · simp [hj]
      · rw [e0]
        intro j o' hj ho' e he hb
        show (if e.on = i then true else listed.getD e.on false) = true
        by_cases hji : j = i
        · subst hji
          rw [ho] at ho'; cases ho'
          simp at he
        · have hj' : listed.getD j false = true := by simpa [hji] using hj
          have := hcl j o' hj' ho' e he hb
          simp only at this
          simp only [this]; split <;> rfl
      · intro j hj
        rw [getD_put _ h3] at hj
        by_cases hji : j = i
        · omega
        · rw [if_neg hji] at hj; exact hm j hj
      · rw [e0, hE', hM']
        refine StF.weak hst fun r hr => ⟨hr.1, fun c h1 h2 h3 => hr.2 c h1 ?_ h3⟩
        simp only [h2]; split <;> rfl
theorem gdraw2 (hT : TabOK P T) (hm : P.follows .mixedOrders = true) {id : Nat} (tk : List Nat) (m : Nat) (hok : drawOKt ops m tk = true) (hfree : freeSeq ops tk (Array.replicate ops.size false) = true) (hsel : Region.noSelect ops = true) {Q : GQ} (hp : ∀ c E M nx, Q (.panic c) E M nx → False)
    {nw : FuncId → Bool} (h : gphase nw P T N ops (ops.toList.take m) E M nx (fun E M nx => gops P T N ops (ops.toList.drop m) E M nx (Q .normal))) : GW P N (.region id ops true) E M nx Q := by
  intro B W w0 σ a w hs
  have ok := drawOKt_spec hok
  obtain ⟨vals, h1, h2⟩ := gphase_trace _ _ _ _ h
  have hlen : (ops.toList.take m).length = m := by have := ok.le; simp; omega
  have hget : ∀ k, k < m → (ops.toList.take m)[k]? = ops[k]? := fun k hk => by
    rw [List.getElem?_take_of_lt hk]; simp
  have hE := fun j hj => SL_env (E := E) (M := M) (nx := nx) (ops := ops) (l := ops.toList.take m) (vals := vals) (fun k hk => by rw [hget k (by omega)]) j hj
  have hM := SL_mem (E := E) (M := M) (nx := nx) (l := ops.toList.take m) (vals := vals)
  have hsz' : (ops.extract 0 m).size = m := by have := ok.le; simp; omega
  have okx : DK (ops.extract 0 m) m := by
    refine ⟨by rw [hsz']; exact Nat.le_refl m, fun i j hi hj hne hc => ?_, fun j hj hs => by rw [hsz'] at hs; omega, fun j o ho => ok.wf j o (extract_some ho)⟩
    have hcl : clashes (ops.extract 0 m) i j = clashes ops i j := by
      unfold clashes
      rw [extract_get hi ok.le, extract_get hj ok.le]
      cases (ops[i]?).bind (·.dst) with
      | none => rfl
      | some d =>
        cases hgj : ops[j]? with
        | none => rfl
        | some o =>
          dsimp only
          congr 1
          cases hgd : o.guard with
          | none => rfl
          | some g =>
            have := ok.guard j hj o hgj g hgd
            obtain ⟨g1, g2⟩ := g
            dsimp only at this ⊢
            rw [extract_get this ok.le]
    have hah : ∀ i j, j < m → ahead_ (ops.extract 0 m) i j = ahead_ ops i j := fun i j hj => ahead_take ok.le hj
    rw [hcl] at hc
    have := ok.pair i j hi hj hne hc
    rw [hah i j hj, hah j i hi]
    exact this
  have tr : Tr P T N (ops.extract 0 m) m vals (fun k => (SL (ops.toList.take m) vals E M nx k).2.2) E M nx := {
    ok := okx
    step := fun k o hk ho => by
      have ho' := extract_some ho
      have := h1 k o (by rw [hget k hk]; exact ho')
      rw [hE k (by omega), hM k] at this
      rw [ESl_take vals E _ m (Nat.le_refl m) k (by omega) ok.le]
      exact DStep_take (i := k) ok.le (fun g hg => ok.guard k hk o ho' g hg) this
    qne := fun i j hne hi hj => q_ne hne hi hj
    qfind := fun x j h1 h2 => q_find h1 h2
    qge := fun j => q_mono (i := 0) (Nat.zero_le j)
    qlt := fun c hc hu => q_lt hc hu }
  rw [hlen, hE m (by omega), hM m] at h2
  refine wp_region_any hm ?_
  have e0 : (fun j => (Array.replicate ops.size false).getD j false) = fun _ => false := by
    funext j; exact rep_getD _ j
  have e1 : ∀ m, ESl ops vals E (fun _ => false) m = E := by
    intro m; induction m with
    | zero => rfl
    | succ m ih => simp only [ESl]; exact ih
  have e2 : ∀ q m, MSl vals q M (fun _ => false) m = M := by
    intro q m; induction m with
    | zero => rfl
    | succ m ih => simp only [MSl]; exact ih
  have hd := hs.drawn
  refine takes_any hT ok tr hs.low hsel hp h2 tk ops.size (List.range ops.size) _ σ a _ (fun _ h => h) ok.nd (fun i _ => rep_getD _ i) (fun i hi => .inl hi) hfree (by simp) List.nodup_range (fun j => by rw [rep_getD]; simp) (by simp) ?_ ?_ ?_
  · rw [e0]; intro j o hj; cases hj
  · intro j hj; rw [rep_getD] at hj; cases hj
  · rw [e0, e1, e2]
    exact ⟨hd.env, hd.mem.weaken fun r hr => hr.1, hd.fr, hd.defers, hd.size, fun r hr => Nat.le_trans hd.low hr.1, hd.pin⟩
end
theorem GDraw_mix {P : Program} {T : Tab} {N : Cfg} {k : List It} {Q : GQ} {E : Env} {M : Mem} {nx : Nat} (nw : FuncId → Bool) (hT : TabOK P T) (hm : P.follows .mixedOrders = true) {id : Nat} {ops : List Oper} (tk : List Nat) (m : Nat) (hok : drawOKt ops.toArray m tk = true)
    (hfree : freeSeq ops.toArray tk (Array.replicate ops.toArray.size false) = true) (hsel : Region.noSelect ops.toArray = true) (hp : ∀ c E M nx, GK P T N k Q (.panic c) E M nx → False) {l fin : List Oper} (hl : ops.take m = l) (hf : ops.drop m = fin)
    (h : GPh nw P T N ops.toArray l fin k Q E M nx) : GDraw P T N id ops.toArray k Q E M nx := by
  subst hl; subst hf
  exact gdraw2 hT hm tk m hok hfree hsel hp h
end Go.Gx
