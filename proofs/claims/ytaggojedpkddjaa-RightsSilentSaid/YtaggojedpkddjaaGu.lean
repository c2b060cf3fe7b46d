/-
  A region that leaves its order open: the theorem, and its steps for simp.
-/
import Derived.Test.YtaggojedpkddjaaGt
set_option linter.unusedVariables false
set_option linter.unusedSimpArgs false
namespace Go.Gx
open Go.RowKit

section
variable {P : Program} {T : Tab} {B W F : Nat → Prop} {w0 : World} {N : Nat} {n0 : Nat} {σ σ' : Sig} {M M' : Mem} {nx : Nat} {w w' : World} {a : Act} {E E' : Env} {ops : Array Oper}
variable {m : Nat} {vals : Nat → SV × Option Reg} {q : Nat → Nat}

theorem unl (listed : Array Bool) (j : Nat) : listed.getD j true = false ↔ j < listed.size ∧ listed.getD j false = false := by
  by_cases h : j < listed.size
  · simp [h]
  · simp [h]
theorem getD_put (listed : Array Bool) {i : Nat} (hi : i < listed.size) (j : Nat) : (listed.setIfInBounds i true).getD j false = if j = i then true else listed.getD j false := by
  by_cases h : j = i
  · subst h; simp [hi]
  · rw [getD_set_ne false (Ne.symm h), if_neg h]

theorem rep_getD (n j : Nat) : (Array.replicate n false).getD j false = false := by
  by_cases h : j < n
  · simp [h]
  · simp [h]

def QQ (B W : Nat → Prop) (w0 : World) (N : Nat) (Q : GQ) : Exit → Act → World → Prop := fun e a' w' => ∃ E' M' nx' σ', Q e E' M' nx' ∧ St B W w0 N σ' E' M' nx' a' w'

theorem tail_any (hT : TabOK P T) (ok : DK ops m) {Q : GQ} : ∀ (fuel : Nat) (U : List Nat) (p : Nat) (listed : Array Bool) (E : Env) (M : Mem) (nx : Nat) (σ : Sig) (a : Act) (w : World),
    U.length = fuel → U.Nodup → (∀ j, j ∈ U ↔ j < ops.size ∧ listed.getD j false = false) → listed.size = ops.size → m ≤ p → (∀ j, j < ops.size → (listed.getD j false = true ↔ j < p)) →
    St B W w0 N σ E M nx a w → gops P T N ops (ops.toList.drop p) E M nx (Q .normal) → wpAny P .any ops (QQ B W w0 N Q) fuel listed a w := by
  intro fuel
  induction fuel with
  | zero =>
    intro U p listed E M nx σ a w hl hnd hU hsz hmp hp h hg
    have hU0 : U = [] := List.eq_nil_of_length_eq_zero hl
    subst hU0
    have hall : ops.size ≤ p := by
      rcases Nat.lt_or_ge p ops.size with h1 | h1
      · have : listed.getD p false = false := by
          cases h2 : listed.getD p false with
          | false => rfl
          | true => have := (hp p h1).1 h2; omega
        have := (hU p).2 ⟨h1, this⟩
        simp at this
      · exact h1
    rw [List.drop_of_length_le (by simpa using hall)] at hg
    refine ⟨?_, _, _, _, _, hg, h⟩
    apply List.eq_nil_iff_forall_not_mem.2
    intro i hi
    have := (unl listed i).1 (mem_ready.1 hi).1
    have := (hU i).2 ⟨by omega, this.2⟩
    simp at this
  | succ fuel ih =>
    intro U p listed E M nx σ a w hl hnd hU hsz hmp hp h hg
    have hready : ∀ i, i ∈ Region.ready .any ops listed → i = p := by
      intro i hi
      obtain ⟨h1, o, ho, h2⟩ := mem_ready.1 hi
      obtain ⟨h3, h4⟩ := (unl listed i).1 h1
      have h5 : ¬ i < p := fun hlt => by rw [(hp i (by omega)).2 hlt] at h4; cases h4
      rcases Nat.lt_or_ge p i with h6 | h6
      · have h7 := ahead_in (l := fun j => listed.getD j false = true) ok.wf (fun j o' hj ho' e he hb => by
          have hlt := (Array.getElem?_eq_some_iff.1 ho').1
          have := (hp j hlt).1 hj
          have h8 := ok.wf j o' ho' e he hb
          exact (hp e.on (by omega)).2 (by omega)) i (fun o' ho' => by rw [ho] at ho'; cases ho'; exact h2) (ok.tail i (by omega) (by omega) p h6)
        have := (hp p (by omega)).1 h7
        omega
      · omega
    refine ⟨fun hr => ?_, fun i hi => ?_⟩
    · rcases Nat.lt_or_ge p ops.size with h1 | h1
      · have : p ∈ Region.ready .any ops listed := by
          refine mem_ready.2 ⟨(unl listed p).2 ⟨by omega, ?_⟩, ops[p], Array.getElem?_eq_getElem h1, fun e he hb => ?_⟩
          · cases h2 : listed.getD p false with
            | false => rfl
            | true => have := (hp p h1).1 h2; omega
          · have h8 := ok.wf p _ (Array.getElem?_eq_getElem h1) e he hb
            exact (hp e.on (by omega)).2 h8
        rw [hr] at this; simp at this
      · rw [List.drop_of_length_le (by simpa using h1)] at hg
        exact ⟨_, _, _, _, hg, h⟩
    · have := hready i hi
      subst this
      obtain ⟨h1, o, ho, h2⟩ := mem_ready.1 hi
      obtain ⟨h3, h4⟩ := (unl listed i).1 h1
      have hlt : i < ops.toList.length := by simpa using (by omega : i < ops.size)
      have hget : ops.toList[i] = o := by
        have := (Array.getElem?_eq_some_iff.1 ho).2
        simpa using this
      rw [List.drop_eq_getElem_cons hlt, hget] at hg
      have hs := gops_step (Q := QQ B W w0 N Q) (next := wpAny P .any ops (QQ B W w0 N Q) fuel (listed.setIfInBounds i true)) hT h hg (fun E' M' nx' σ' a' w' hk hs => by
        refine ih (U.erase i) (i + 1) _ E' M' nx' σ' a' w' ?_ (hnd.erase i) ?_ (by simpa using hsz) (by omega) ?_ hs hk
        · rw [List.length_erase_of_mem ((hU i).2 ⟨by omega, h4⟩), hl]; rfl
        · intro j
          rw [hnd.mem_erase_iff, hU, getD_put _ h3]
          by_cases hj : j = i
          · simp [hj]
          · simp [hj]
        · intro j hj
          rw [getD_put _ h3]
          by_cases hji : j = i
          · simp [hji]
          · rw [if_neg hji, hp j hj]; omega)
      unfold wpOp; rw [ho]; simp only []
      split
      · rename_i hw; rw [if_pos hw] at hs; exact .inl hs
      · rename_i hw; rw [if_neg hw] at hs; exact hs

theorem MSl_congr {l l' : Nat → Bool} : ∀ m, (∀ k, k < m → l k = l' k) → MSl vals q M l m = MSl vals q M l' m
  | 0, _ => rfl
  | m + 1, h => by simp only [MSl]; rw [MSl_congr m (fun k hk => h k (by omega)), h m (by omega)]

theorem phase_any (hT : TabOK P T) (tr : Tr P T N ops m vals q E M nx) {Q : GQ} (hfin : gops P T N ops (ops.toList.drop m) (ESl ops vals E (fun _ => true) m) (MSl vals q M (fun _ => true) m) (q m) (Q .normal)) : ∀ (fuel : Nat) (U : List Nat) (listed : Array Bool) (σ : Sig) (a : Act) (w : World),
    U.length = fuel → U.Nodup → (∀ j, j ∈ U ↔ j < ops.size ∧ listed.getD j false = false) → listed.size = ops.size → Clo ops (fun j => listed.getD j false) → (∀ j, listed.getD j false = true → j < m) →
    StF B W w0 N σ (ESl ops vals E (fun j => listed.getD j false) m) (MSl vals q M (fun j => listed.getD j false) m) (FS m vals q nx (fun j => listed.getD j false)) a w → wpAny P .any ops (QQ B W w0 N Q) fuel listed a w := by
  have ok := tr.ok
  have done : ∀ (fuel : Nat) (U : List Nat) (listed : Array Bool) (σ : Sig) (a : Act) (w : World),
    U.length = fuel → U.Nodup → (∀ j, j ∈ U ↔ j < ops.size ∧ listed.getD j false = false) → listed.size = ops.size → Clo ops (fun j => listed.getD j false) → (∀ j, listed.getD j false = true → j < m) →
    StF B W w0 N σ (ESl ops vals E (fun j => listed.getD j false) m) (MSl vals q M (fun j => listed.getD j false) m) (FS m vals q nx (fun j => listed.getD j false)) a w →
    (∀ j, j < m → listed.getD j false = true) → wpAny P .any ops (QQ B W w0 N Q) fuel listed a w := by
    intro fuel U listed σ a w hl hnd hU hsz hcl hm h hall
    refine tail_any hT ok fuel U m listed _ _ (q m) σ a w hl hnd hU hsz (Nat.le_refl _) (fun j _ => ⟨hm j, hall j⟩) ?_ hfin
    have e1 : ESl ops vals E (fun j => listed.getD j false) m = ESl ops vals E (fun _ => true) m := by
      funext t; exact ESl_agree m (fun k hk _ => hall k hk)
    have e2 : MSl vals q M (fun j => listed.getD j false) m = MSl vals q M (fun _ => true) m := MSl_congr m (fun k hk => hall k hk)
    rw [e1, e2] at h
    refine ⟨h.env, h.mem.weaken fun r hr => ⟨Nat.le_trans (tr.qge m) hr, fun c h1 _ h2 => ?_⟩, h.fr, h.defers, h.size⟩
    have h3 := tr.qlt c h1 h2
    have h4 : q m ≤ r := hr
    omega
  intro fuel
  induction fuel with
  | zero =>
    intro U listed σ a w hl hnd hU hsz hcl hm h
    refine done 0 U listed σ a w hl hnd hU hsz hcl hm h fun j hj => ?_
    have hU0 : U = [] := List.eq_nil_of_length_eq_zero hl
    subst hU0
    cases h2 : listed.getD j false with
    | true => rfl
    | false =>
      have := (hU j).2 ⟨Nat.lt_of_lt_of_le hj ok.le, h2⟩
      simp at this
  | succ fuel ih =>
    intro U listed σ a w hl hnd hU hsz hcl hm h
    by_cases hall : ∀ j, j < m → listed.getD j false = true
    · exact done _ U listed σ a w hl hnd hU hsz hcl hm h hall
    · have hle := ok.le
      refine ⟨fun hr => ?_, fun i hi => ?_⟩
      · exfalso
        apply hall
        intro j
        induction j using Nat.strongRecOn with
        | _ j ihj =>
          intro hj
          cases h2 : listed.getD j false with
          | true => rfl
          | false =>
            have hlt : j < ops.size := by omega
            have : j ∈ Region.ready .any ops listed := mem_ready.2 ⟨(unl listed j).2 ⟨by omega, h2⟩, ops[j], Array.getElem?_eq_getElem hlt, fun e he hb => by
              have h8 := ok.wf j _ (Array.getElem?_eq_getElem hlt) e he hb
              exact ihj e.on h8 (by omega)⟩
            rw [hr] at this; simp at this
      · obtain ⟨h1, o, ho, h2⟩ := mem_ready.1 hi
        obtain ⟨h3, h4⟩ := (unl listed i).1 h1
        have him : i < m := by
          rcases Nat.lt_or_ge i m with h5 | h5
          · exact h5
          · exfalso
            apply hall
            intro j hj
            exact ahead_in (l := fun j => listed.getD j false = true) ok.wf (fun j o hj ho => hcl j o hj ho) i (fun o' ho' => by rw [ho] at ho'; cases ho'; exact h2) (ok.tail i h5 (by omega) j (by omega))
        have e0 : (fun j => (listed.setIfInBounds i true).getD j false) = (fun k => if k = i then true else listed.getD k false) := by
          funext j; exact getD_put listed h3 j
        refine phase_step hT tr (lf := fun j => listed.getD j false) him ho h4 h2 hcl h fun σ' a' w' hs => ?_
        refine ih (U.erase i) _ σ' a' w' ?_ (hnd.erase i) ?_ (by simpa using hsz) ?_ ?_ ?_
        · rw [List.length_erase_of_mem ((hU i).2 ⟨by omega, h4⟩), hl]; rfl
        · intro j
          rw [hnd.mem_erase_iff, hU, getD_put _ h3]
          by_cases hj : j = i
          · simp [hj]
          · simp [hj]
        · rw [e0]
          intro j o' hj ho' e he hb
          show (if e.on = i then true else listed.getD e.on false) = true
          by_cases hji : j = i
          · subst hji
            rw [ho] at ho'; cases ho'
            have := h2 e he hb
            simp only [this]; split <;> rfl
          · have hj' : listed.getD j false = true := by simpa [hji] using hj
            have := hcl j o' hj' ho' e he hb
            simp only at this
            simp only [this]; split <;> rfl
        · intro j hj
          rw [getD_put _ h3] at hj
          by_cases hji : j = i
          · omega
          · rw [if_neg hji] at hj; exact hm j hj
        · rw [e0]; exact hs

theorem St.drawn (h : St B W w0 N σ E M nx a w) : St B W w0 N σ E M nx a { w with drawn := w.drawn + 1 } := by
  have hk : Keep (Zof B σ M w) (Zof B σ M { w with drawn := w.drawn + 1 }) w { w with drawn := w.drawn + 1 } := fun b hb => ⟨hb, rfl⟩
  exact h.go ⟨h.mem.newB, h.mem.fresh, fun r R hr => by
    obtain ⟨L, e1, e2⟩ := h.mem.reg r R hr
    exact ⟨L, e1, e2.mono (fun _ _ h => h) hk fun b hb => rfl⟩, h.mem.inj, h.mem.own⟩ ⟨rfl, rfl, rfl, Nat.le_refl _, fun _ _ _ => rfl⟩ fun t z hz => SV.rel_mono (fun _ _ h => h) hk _ _ hz

theorem gdraw (hT : TabOK P T) (hm : P.follows .mixedOrders = true) {id : Nat} (m : Nat) (hok : drawOK ops m = true) {Q : GQ}
    (h : gphase P T N ops (ops.toList.take m) E M nx (fun E M nx => gops P T N ops (ops.toList.drop m) E M nx (Q .normal))) : GW P N (.region id ops true) E M nx Q := by
  intro B W w0 σ a w hs
  have ok := drawOK_spec hok
  obtain ⟨vals, h1, h2⟩ := gphase_trace _ _ _ _ h
  have hlen : (ops.toList.take m).length = m := by have := ok.le; simp; omega
  have hget : ∀ k, k < m → (ops.toList.take m)[k]? = ops[k]? := fun k hk => by
    rw [List.getElem?_take_of_lt hk]; simp
  have hE := fun j hj => SL_env (E := E) (M := M) (nx := nx) (ops := ops) (l := ops.toList.take m) (vals := vals) (fun k hk => by rw [hget k (by omega)]) j hj
  have hM := SL_mem (E := E) (M := M) (nx := nx) (l := ops.toList.take m) (vals := vals)
  have tr : Tr P T N ops m vals (fun k => (SL (ops.toList.take m) vals E M nx k).2.2) E M nx := {
    ok := ok
    step := fun k o hk ho => by
      have := h1 k o (by rw [hget k hk]; exact ho)
      rw [hE k (by omega), hM k] at this
      exact this
    qne := fun i j hne hi hj => q_ne hne hi hj
    qfind := fun x j h1 h2 => q_find h1 h2
    qge := fun j => q_mono (i := 0) (Nat.zero_le j)
    qlt := fun c hc hu => q_lt hc hu }
  rw [hlen, hE m (by omega), hM m] at h2
  refine wp_region_any hm ?_
  have e0 : (fun j => (Array.replicate ops.size false).getD j false) = fun _ => false := by
    funext j; exact rep_getD _ j
  have e1 : ∀ m, ESl ops vals E (fun _ => false) m = E := by
    intro m; induction m with
    | zero => rfl
    | succ m ih => simp only [ESl]; exact ih
  have e2 : ∀ q m, MSl vals q M (fun _ => false) m = M := by
    intro q m; induction m with
    | zero => rfl
    | succ m ih => simp only [MSl]; exact ih
  have hd := hs.drawn
  refine phase_any hT tr h2 ops.size (List.range ops.size) _ σ a _ (by simp) List.nodup_range (fun j => by rw [rep_getD]; simp) (by simp) ?_ ?_ ?_
  · rw [e0]; intro j o hj; cases hj
  · intro j hj; rw [rep_getD] at hj; cases hj
  · rw [e0, e1, e2]
    exact ⟨hd.env, hd.mem.weaken fun r hr => hr.1, hd.fr, hd.defers, hd.size⟩
end

/-! ### its steps -/
section
variable (P : Program) (T : Tab) (N : Nat)
def GPh (all : Array Oper) (l fin : List Oper) (k : List It) (Q : GQ) (E : Env) (M : Mem) (nx : Nat) : Prop := gphase P T N all l E M nx fun E M nx => GO P T N all fin k Q E M nx
def GDS (g : GR) (d : Option Tmp) (all : Array Oper) (rest fin : List Oper) (k : List It) (Q : GQ) (E : Env) (M : Mem) (nx : Nat) : Prop :=
  match g with
  | .pure ob s => ob ∧ GPh P T N all rest fin k Q (envPut E d s) M nx
  | .new ob R s => ob ∧ GPh P T N all rest fin k Q (envPut E d s) (upd M nx (some R)) (nx + 1)
  | .call f args => underL nx args ∧ ∃ v, DCall P M f args v ∧ GPh P T N all rest fin k Q (envPut E d v) M nx
  | _ => False
def GDP (c x y : SV) (d : Option Tmp) (all : Array Oper) (rest fin : List Oper) (k : List It) (Q : GQ) (E : Env) (M : Mem) (nx : Nat) : Prop :=
  match c with
  | .r (.v (.bool t)) => if t = true then GPh P T N all rest fin k Q (envPut E d x) M nx else GPh P T N all rest fin k Q (envPut E d y) M nx
  | _ => False
def GDG (s : SV) (dd : Nat) (want : Bool) (o : Oper) (all : Array Oper) (rest fin : List Oper) (k : List It) (Q : GQ) (E : Env) (M : Mem) (nx : Nat) : Prop :=
  match s with
  | .r (.v (.bool t)) =>
    if t = want then GPh P T N all ({ o with guard := none } :: rest) fin k Q (upd E dd (.b want)) M nx
    else dOK N o.dst ∧ GPh P T N all rest fin k Q (envPut (upd E dd (.b (!want))) o.dst (.r (.v undef))) M nx
  | .r (.v x) => dOK N o.dst ∧ GPh P T N all rest fin k Q (envPut E o.dst (.r (.v undef))) M nx
  | _ => False
def GDG' (j : Option Nat) (want : Bool) (o : Oper) (all : Array Oper) (rest fin : List Oper) (k : List It) (Q : GQ) (E : Env) (M : Mem) (nx : Nat) : Prop :=
  match j with
  | none => False
  | some d => GDG P T N (E d) d want o all rest fin k Q E M nx
end
section
variable {P : Program} {T : Tab} {N : Nat} {k : List It} {Q : GQ} {E : Env} {M : Mem} {nx : Nat} (all : Array Oper) (rest fin : List Oper) (d : Option Tmp) (ty : TypeId) (pos : String) (af : Array Edge)
theorem GDraw_of (hT : TabOK P T) (hm : P.follows .mixedOrders = true) {id : Nat} {ops : List Oper} (m : Nat) (hok : drawOK ops.toArray m = true) {l fin : List Oper} (hl : ops.take m = l) (hf : ops.drop m = fin) (h : GPh P T N ops.toArray l fin k Q E M nx) : GDraw P T N id ops.toArray k Q E M nx := by
  subst hl; subst hf
  exact gdraw hT hm m hok h
@[go_sem] theorem GPh_nil : GPh P T N all [] fin k Q E M nx = GO P T N all fin k Q E M nx := (rfl)
@[go_sem] theorem GDS_pure (ob : Prop) (s : SV) : GDS P T N (.pure ob s) d all rest fin k Q E M nx = (ob ∧ GPh P T N all rest fin k Q (envPut E d s) M nx) := (rfl)
@[go_sem] theorem GDS_new (ob : Prop) (R : Reg) (s : SV) : GDS P T N (.new ob R s) d all rest fin k Q E M nx = (ob ∧ GPh P T N all rest fin k Q (envPut E d s) (upd M nx (some R)) (nx + 1)) := (rfl)
@[go_sem] theorem GDS_call (f : FuncId) (args : List SV) : GDS P T N (.call f args) d all rest fin k Q E M nx = (underL nx args ∧ ∃ v, DCall P M f args v ∧ GPh P T N all rest fin k Q (envPut E d v) M nx) := (rfl)
@[go_sem] theorem GDP_b (t : Bool) (x y : SV) : GDP P T N (.r (.v (.bool t))) x y d all rest fin k Q E M nx = if t = true then GPh P T N all rest fin k Q (envPut E d x) M nx else GPh P T N all rest fin k Q (envPut E d y) M nx := (rfl)
@[go_sem] theorem GDG'_some (j : Nat) (want : Bool) (o : Oper) : GDG' P T N (some j) want o all rest fin k Q E M nx = GDG P T N (E j) j want o all rest fin k Q E M nx := (rfl)
@[go_sem] theorem GDG_b (t : Bool) (dd : Nat) (want : Bool) (op : Op) (g : Option (Nat × Bool)) :
    GDG P T N (.r (.v (.bool t))) dd want ⟨d, op, ty, pos, af, g⟩ all rest fin k Q E M nx =
      if t = want then GPh P T N all (⟨d, op, ty, pos, af, none⟩ :: rest) fin k Q (upd E dd (.b want)) M nx else dOK N d ∧ GPh P T N all rest fin k Q (envPut (upd E dd (.b (!want))) d (.r (.v undef))) M nx := (rfl)
@[go_sem] theorem GDG_u (dd : Nat) (want : Bool) (op : Op) (g : Option (Nat × Bool)) :
    GDG P T N (.r (.v undef)) dd want ⟨d, op, ty, pos, af, g⟩ all rest fin k Q E M nx = (dOK N d ∧ GPh P T N all rest fin k Q (envPut E d (.r (.v undef))) M nx) := (rfl)
theorem GPh_guard (op : Op) (j : Nat) (want : Bool) :
    GPh P T N all (⟨d, op, ty, pos, af, some (j, want)⟩ :: rest) fin k Q E M nx = GDG' P T N ((all[j]?).bind (·.dst)) want ⟨d, op, ty, pos, af, some (j, want)⟩ all rest fin k Q E M nx := (rfl)
@[go_sem] theorem underL_eq (q : Nat) (l : List SV) : underL q l = ∀ s ∈ l, ∀ r ∈ s.refs, r < q := (rfl)
@[go_sem] theorem GPh_move (x : Operand) : GPh P T N all (⟨d, .move x, ty, pos, af, none⟩ :: rest) fin k Q E M nx = (dOK N d ∧ underL nx ((Op.move x).operands.toList.map (ev E)) ∧ GDS P T N (.pure True (ev E x)) d all rest fin k Q E M nx) := (rfl)
@[go_sem] theorem GPh_assign (x : Operand) : GPh P T N all (⟨d, .assign x, ty, pos, af, none⟩ :: rest) fin k Q E M nx = (dOK N d ∧ underL nx ((Op.assign x).operands.toList.map (ev E)) ∧ GDS P T N (.pure True (ev E x)) d all rest fin k Q E M nx) := (rfl)
@[go_sem] theorem GPh_build (t : TypeId) (ps : List (Nat × Operand)) : GPh P T N all (⟨d, .build t ps.toArray, ty, pos, af, none⟩ :: rest) fin k Q E M nx = (dOK N d ∧ underL nx ((Op.build t ps.toArray).operands.toList.map (ev E)) ∧ GDS P T N (gbuild T t (ps.map fun p => (p.1, ev E p.2))) d all rest fin k Q E M nx) := (rfl)
@[go_sem] theorem GPh_buildSlice (t : TypeId) (len : Nat) (ps : List (Nat × Operand)) : GPh P T N all (⟨d, .buildSlice t len ps.toArray, ty, pos, af, none⟩ :: rest) fin k Q E M nx = (dOK N d ∧ underL nx ((Op.buildSlice t len ps.toArray).operands.toList.map (ev E)) ∧ GDS P T N (gbuildSlice T t len nx (ps.map fun p => (p.1, ev E p.2))) d all rest fin k Q E M nx) := (rfl)
@[go_sem] theorem GPh_load (t : TypeId) (x : Operand) : GPh P T N all (⟨d, .load t x, ty, pos, af, none⟩ :: rest) fin k Q E M nx = (dOK N d ∧ underL nx ((Op.load t x).operands.toList.map (ev E)) ∧ GDS P T N (gload T t M (ev E x)) d all rest fin k Q E M nx) := (rfl)
@[go_sem] theorem GPh_store (t : TypeId) (x y : Operand) : GPh P T N all (⟨d, .store t x y, ty, pos, af, none⟩ :: rest) fin k Q E M nx = (dOK N d ∧ underL nx ((Op.store t x y).operands.toList.map (ev E)) ∧ GDS P T N (gstore T t M (ev E x) (ev E y)) d all rest fin k Q E M nx) := (rfl)
@[go_sem] theorem GPh_makeFunc (f : Fn) (fi ca : List Operand) : GPh P T N all (⟨d, .makeFunc f fi.toArray ca.toArray, ty, pos, af, none⟩ :: rest) fin k Q E M nx = (dOK N d ∧ underL nx ((Op.makeFunc f fi.toArray ca.toArray).operands.toList.map (ev E)) ∧ GDS P T N (.pure True (.fn f (fi.map (ev E)) (ca.map (ev E)))) d all rest fin k Q E M nx) := (rfl)
@[go_sem] theorem GPh_slice (t : TypeId) (x : Operand) (lo hi mx : Option Operand) : GPh P T N all (⟨d, .slice t x lo hi mx, ty, pos, af, none⟩ :: rest) fin k Q E M nx = (dOK N d ∧ underL nx ((Op.slice t x lo hi mx).operands.toList.map (ev E)) ∧ GDS P T N (gslice T M t (ev E x) (lo.map (ev E)) (hi.map (ev E)) (mx.map (ev E))) d all rest fin k Q E M nx) := (rfl)
@[go_sem] theorem GPh_fieldAddr (t : TypeId) (x : Operand) (f : Nat) : GPh P T N all (⟨d, .fieldAddr t x f, ty, pos, af, none⟩ :: rest) fin k Q E M nx = (dOK N d ∧ underL nx ((Op.fieldAddr t x f).operands.toList.map (ev E)) ∧ GDS P T N (gfield T t (ev E x) f) d all rest fin k Q E M nx) := (rfl)
@[go_sem] theorem GPh_indexAddr (t : TypeId) (x i : Operand) : GPh P T N all (⟨d, .indexAddr t x i, ty, pos, af, none⟩ :: rest) fin k Q E M nx = (dOK N d ∧ underL nx ((Op.indexAddr t x i).operands.toList.map (ev E)) ∧ GDS P T N (gindex T t (ev E x) (ev E i)) d all rest fin k Q E M nx) := (rfl)
@[go_sem] theorem GPh_builtin (b : Builtin) (args : List Operand) (ts : List TypeId) : GPh P T N all (⟨d, .call ⟨.builtin b, args.toArray, ts.toArray⟩, ty, pos, af, none⟩ :: rest) fin k Q E M nx = (dOK N d ∧ underL nx ((Op.call ⟨.builtin b, args.toArray, ts.toArray⟩).operands.toList.map (ev E)) ∧ GDS P T N (gbuiltin T b ts M nx (args.map (ev E))) d all rest fin k Q E M nx) := (rfl)
@[go_sem] theorem GPh_box (t : TypeId) (x : Operand) : GPh P T N all (⟨d, .box t x, ty, pos, af, none⟩ :: rest) fin k Q E M nx = (dOK N d ∧ underL nx ((Op.box t x).operands.toList.map (ev E)) ∧ GDS P T N (gboxop T t nx (ev E x)) d all rest fin k Q E M nx) := (rfl)
@[go_sem] theorem GPh_alloc (t : TypeId) : GPh P T N all (⟨d, .alloc t, ty, pos, af, none⟩ :: rest) fin k Q E M nx = (dOK N d ∧ underL nx ((Op.alloc t).operands.toList.map (ev E)) ∧ GDS P T N (gallocop T t nx) d all rest fin k Q E M nx) := (rfl)
@[go_sem] theorem GPh_nilCheck (x : Operand) : GPh P T N all (⟨d, .nilCheck x, ty, pos, af, none⟩ :: rest) fin k Q E M nx = (dOK N d ∧ underL nx ((Op.nilCheck x).operands.toList.map (ev E)) ∧ GDS P T N (gnilop (ev E x)) d all rest fin k Q E M nx) := (rfl)
@[go_sem] theorem GPh_binOp (op : BinOp) (t : TypeId) (x y : Operand) (t2 : TypeId) : GPh P T N all (⟨d, .binOp op t x y t2, ty, pos, af, none⟩ :: rest) fin k Q E M nx = (dOK N d ∧ underL nx ((Op.binOp op t x y t2).operands.toList.map (ev E)) ∧ GDS P T N (gbinop T op t (ev E x) (ev E y)) d all rest fin k Q E M nx) := (rfl)
@[go_sem] theorem GPh_unOp (op : UnOp) (t : TypeId) (x : Operand) : GPh P T N all (⟨d, .unOp op t x, ty, pos, af, none⟩ :: rest) fin k Q E M nx = (dOK N d ∧ underL nx ((Op.unOp op t x).operands.toList.map (ev E)) ∧ GDS P T N (gunop op (ev E x)) d all rest fin k Q E M nx) := (rfl)
@[go_sem] theorem GPh_convert (t t2 : TypeId) (x : Operand) : GPh P T N all (⟨d, .convert t t2 x, ty, pos, af, none⟩ :: rest) fin k Q E M nx = (dOK N d ∧ underL nx ((Op.convert t t2 x).operands.toList.map (ev E)) ∧ GDS P T N (gconvop T t t2 (ev E x)) d all rest fin k Q E M nx) := (rfl)
@[go_sem] theorem GPh_extract (x : Operand) (i : Nat) : GPh P T N all (⟨d, .extract x i, ty, pos, af, none⟩ :: rest) fin k Q E M nx = (dOK N d ∧ underL nx ((Op.extract x i).operands.toList.map (ev E)) ∧ GDS P T N (gextop (ev E x) i) d all rest fin k Q E M nx) := (rfl)
@[go_sem] theorem GPh_callv (f : Operand) (args : List Operand) (ts : Array TypeId) : GPh P T N all (⟨d, .call ⟨.value f, args.toArray, ts⟩, ty, pos, af, none⟩ :: rest) fin k Q E M nx = (dOK N d ∧ underL nx ((Op.call ⟨.value f, args.toArray, ts⟩).operands.toList.map (ev E)) ∧ GDS P T N (gcallop (ev E f) (args.map (ev E))) d all rest fin k Q E M nx) := (rfl)
@[go_sem] theorem GPh_pick (c x y : Operand) : GPh P T N all (⟨d, .pick c x y, ty, pos, af, none⟩ :: rest) fin k Q E M nx = (dOK N d ∧ underL nx ((Op.pick c x y).operands.toList.map (ev E)) ∧ GDP P T N (ev E c) (ev E x) (ev E y) d all rest fin k Q E M nx) := (rfl)
end
attribute [go_sem] GPh_guard Op.operands Call.operands SV.refs SV.refsL
end Go.Gx
