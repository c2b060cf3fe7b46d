/-
  A region that leaves its order open: the theorem.
-/
import Derived.Test.YtaggojedpkddjaaGr
set_option linter.unusedVariables false
set_option linter.unusedSimpArgs false
namespace Go.Gx
open Go.RowKit

def gdrun (P : Program) (T : Tab) (N : Nat) (o : Oper) (E : Env) (M : Mem) (nx : Nat) (K : SV → Option Reg → Prop) : Prop :=
  dOK N o.dst ∧ underL nx (o.op.operands.toList.map (ev E)) ∧ match o.op with
  | .pick c x y =>
    match ev E c with
    | .r (.v (.bool t)) => if t = true then K (ev E x) none else K (ev E y) none
    | _ => False
  | op => match gop T op E M nx with
    | .pure ob s => ob ∧ K s none
    | .new ob R s => ob ∧ K s (some R)
    | .call f args => underL nx args ∧ ∃ v, DCall P M f args v ∧ K v none
    | _ => False

def gphase (P : Program) (T : Tab) (N : Nat) (ops : Array Oper) : List Oper → Env → Mem → Nat → (Env → Mem → Nat → Prop) → Prop
  | [], E, M, nx, K => K E M nx
  | o :: rest, E, M, nx, K =>
    match o.guard with
    | none => gdrun P T N o E M nx fun v u => gphase P T N ops rest (envPut E o.dst v) (memUp M nx u) (nxUp nx u) K
    | some (j, want) =>
      match (ops[j]?).bind (·.dst) with
      | none => False
      | some d =>
        match E d with
        | .r (.v (.bool t)) =>
          if t = want then gdrun P T N o (upd E d (.b want)) M nx fun v u => gphase P T N ops rest (envPut (upd E d (.b want)) o.dst v) (memUp M nx u) (nxUp nx u) K
          else dOK N o.dst ∧ gphase P T N ops rest (envPut (upd E d (.b (!want))) o.dst (.r (.v undef))) M nx K
        | .r (.v x) => dOK N o.dst ∧ gphase P T N ops rest (envPut E o.dst (.r (.v undef))) M nx K
        | _ => False

def SL (l : List Oper) (vals : Nat → SV × Option Reg) (E : Env) (M : Mem) (nx : Nat) : Nat → Env × Mem × Nat
  | 0 => (E, M, nx)
  | j + 1 => (envPut (SL l vals E M nx j).1 ((l[j]?).bind (·.dst)) (vals j).1, memUp (SL l vals E M nx j).2.1 (SL l vals E M nx j).2.2 (vals j).2, nxUp (SL l vals E M nx j).2.2 (vals j).2)

section
variable {P : Program} {T : Tab} {B W F : Nat → Prop} {w0 : World} {N : Nat} {n0 : Nat} {σ σ' : Sig} {M M' : Mem} {nx : Nat} {w w' : World} {a : Act} {E E' : Env} {ops : Array Oper}

def DRun' (P : Program) (T : Tab) (op : Op) (E : Env) (M : Mem) (q : Nat) (v : SV) (u : Option Reg) : Prop :=
  match gop T op E M q with
  | .pure ob s => ob ∧ v = s ∧ u = none
  | .new ob R s => ob ∧ v = s ∧ u = some R
  | .call f args => underL q args ∧ DCall P M f args v ∧ u = none
  | _ => False

theorem DRun_pick {o : Oper} {q : Nat} {v : SV} {u : Option Reg} {c x y : Operand} (hop : o.op = .pick c x y) : DRun P T o E M q v u ↔ underL q (o.op.operands.toList.map (ev E)) ∧ ∃ t, ev E c = .b t ∧ v = (if t then ev E x else ev E y) ∧ u = none := by
  unfold DRun; rw [hop]
theorem DRun_else {o : Oper} {q : Nat} {v : SV} {u : Option Reg} (hp : ∀ c x y, o.op ≠ .pick c x y) : DRun P T o E M q v u ↔ underL q (o.op.operands.toList.map (ev E)) ∧ DRun' P T o.op E M q v u := by
  unfold DRun DRun'
  cases hop : o.op with
  | pick c x y => exact absurd hop (hp c x y)
  | _ => exact Iff.rfl

theorem gdrun_ex {o : Oper} {K : SV → Option Reg → Prop} (h : gdrun P T N o E M nx K) : ∃ v u, dOK N o.dst ∧ DRun P T o E M nx v u ∧ K v u := by
  obtain ⟨h1, h2, h3⟩ := h
  split at h3
  · rename_i c x y hop
    split at h3
    · rename_i t heq
      refine ⟨if t then ev E x else ev E y, none, h1, (DRun_pick hop).2 ⟨h2, t, heq, rfl, rfl⟩, ?_⟩
      cases t
      · simpa using h3
      · simpa using h3
    · exact h3.elim
  · rename_i op hop
    have hp : ∀ c x y, o.op ≠ .pick c x y := fun c x y h => hop c x y h
    split at h3
    · rename_i ob s hg
      exact ⟨s, none, h1, (DRun_else hp).2 ⟨h2, by unfold DRun'; rw [hg]; exact ⟨h3.1, rfl, rfl⟩⟩, h3.2⟩
    · rename_i ob R s hg
      exact ⟨s, some R, h1, (DRun_else hp).2 ⟨h2, by unfold DRun'; rw [hg]; exact ⟨h3.1, rfl, rfl⟩⟩, h3.2⟩
    · rename_i f args hg
      obtain ⟨h6, v, h4, h5⟩ := h3
      exact ⟨v, none, h1, (DRun_else hp).2 ⟨h2, by unfold DRun'; rw [hg]; exact ⟨h6, h4, rfl⟩⟩, h5⟩
    · exact h3.elim

theorem upd_id {E : Env} {d : Nat} {s : SV} (h : E d = s) : upd E d s = E := by
  funext t
  by_cases ht : t = d
  · subst ht; rw [upd_same, h]
  · rw [upd_ne _ _ ht]

theorem DStep_none {o : Oper} {q : Nat} {v : SV} {u : Option Reg} (hg : o.guard = none) : DStep P T N ops o E M q v u ↔ dOK N o.dst ∧ DRun P T o E M q v u := by
  unfold DStep; rw [hg]
theorem DStep_some {o : Oper} {q : Nat} {v : SV} {u : Option Reg} {j : Nat} {want : Bool} (hg : o.guard = some (j, want)) : DStep P T N ops o E M q v u ↔ dOK N o.dst ∧ ∃ d, (ops[j]?).bind (·.dst) = some d ∧ ((∃ t, E d = .b t ∧ if t = want then DRun P T o E M q v u else v = .r (.v undef) ∧ u = none) ∨ (∃ x, E d = .r (.v x) ∧ (∀ t, x = .bool t → False) ∧ v = .r (.v undef) ∧ u = none)) := by
  unfold DStep; rw [hg]

theorem gphase_ex {o : Oper} {rest : List Oper} {K : Env → Mem → Nat → Prop} (h : gphase P T N ops (o :: rest) E M nx K) :
    ∃ v u, DStep P T N ops o E M nx v u ∧ gphase P T N ops rest (envPut E o.dst v) (memUp M nx u) (nxUp nx u) K := by
  simp only [gphase] at h
  split at h
  · rename_i hg
    obtain ⟨v, u, h1, h2, h3⟩ := gdrun_ex h
    exact ⟨v, u, (DStep_none hg).2 ⟨h1, h2⟩, h3⟩
  · rename_i j want hg
    split at h
    · exact h.elim
    · rename_i d hd
      split at h
      · rename_i t heq
        by_cases ht : t = want
        · subst ht
          rw [if_pos rfl, upd_id heq] at h
          obtain ⟨v, u, h1, h2, h3⟩ := gdrun_ex h
          exact ⟨v, u, (DStep_some hg).2 ⟨h1, d, hd, .inl ⟨t, heq, by rw [if_pos rfl]; exact h2⟩⟩, h3⟩
        · rw [if_neg ht] at h
          have hb : t = !want := by cases t <;> cases want <;> simp_all
          rw [upd_id (by rw [heq, hb])] at h
          exact ⟨.r (.v undef), none, (DStep_some hg).2 ⟨h.1, d, hd, .inl ⟨t, heq, by rw [if_neg ht]; exact ⟨rfl, rfl⟩⟩⟩, h.2⟩
      · rename_i x hnb heq
        exact ⟨.r (.v undef), none, (DStep_some hg).2 ⟨h.1, d, hd, .inr ⟨x, heq, hnb, rfl, rfl⟩⟩, h.2⟩
      · exact h.elim

theorem SL_cons (o : Oper) (l : List Oper) (v : SV) (u : Option Reg) (vals : Nat → SV × Option Reg) : ∀ k, SL (o :: l) (fun | 0 => (v, u) | k + 1 => vals k) E M nx (k + 1) = SL l vals (envPut E o.dst v) (memUp M nx u) (nxUp nx u) k
  | 0 => rfl
  | k + 1 => by
    have ih := SL_cons o l v u vals k
    rw [SL, ih]; simp [SL]

theorem gphase_trace {K : Env → Mem → Nat → Prop} : ∀ (l : List Oper) (E : Env) (M : Mem) (nx : Nat), gphase P T N ops l E M nx K →
    ∃ vals, (∀ k o, l[k]? = some o → DStep P T N ops o (SL l vals E M nx k).1 (SL l vals E M nx k).2.1 (SL l vals E M nx k).2.2 (vals k).1 (vals k).2) ∧ K (SL l vals E M nx l.length).1 (SL l vals E M nx l.length).2.1 (SL l vals E M nx l.length).2.2
  | [], E, M, nx, h => ⟨fun _ => (.r .any, none), fun k o hk => by simp at hk, h⟩
  | o :: l, E, M, nx, h => by
    obtain ⟨v, u, h1, h2⟩ := gphase_ex h
    obtain ⟨vals, h3, h4⟩ := gphase_trace l _ _ _ h2
    refine ⟨fun | 0 => (v, u) | k + 1 => vals k, fun k o' hk => ?_, ?_⟩
    · cases k with
      | zero => simp at hk; subst hk; exact h1
      | succ k => rw [SL_cons]; exact h3 k o' (by simpa using hk)
    · rw [List.length_cons, SL_cons]; exact h4

section trace
variable {l : List Oper} {vals : Nat → SV × Option Reg}
theorem q_le (j : Nat) : (SL l vals E M nx j).2.2 ≤ (SL l vals E M nx (j + 1)).2.2 := by
  rw [SL]; simp only; unfold nxUp; split <;> omega
theorem q_mono {i j : Nat} (h : i ≤ j) : (SL l vals E M nx i).2.2 ≤ (SL l vals E M nx j).2.2 := by
  induction j with
  | zero => have : i = 0 := by omega
            subst this; exact Nat.le_refl _
  | succ j ih =>
    by_cases hi : i = j + 1
    · subst hi; exact Nat.le_refl _
    · exact Nat.le_trans (ih (by omega)) (q_le j)
theorem q_lt {i j : Nat} (h : i < j) (hc : (vals i).2 ≠ none) : (SL l vals E M nx i).2.2 < (SL l vals E M nx j).2.2 := by
  refine Nat.lt_of_lt_of_le ?_ (q_mono (i := i + 1) h)
  rw [SL]; simp only
  cases hu : (vals i).2 with
  | none => exact absurd hu hc
  | some R => simp [nxUp]
theorem q_ne {i j : Nat} (h : i ≠ j) (hi : (vals i).2 ≠ none) (hj : (vals j).2 ≠ none) : (SL l vals E M nx i).2.2 ≠ (SL l vals E M nx j).2.2 := by
  rcases Nat.lt_or_ge i j with h1 | h1
  · exact Nat.ne_of_lt (q_lt h1 hi)
  · exact Nat.ne_of_gt (q_lt (by omega) hj)
theorem q_find {x : Nat} : ∀ {j : Nat}, nx ≤ x → x < (SL l vals E M nx j).2.2 → ∃ c, c < j ∧ (vals c).2 ≠ none ∧ (SL l vals E M nx c).2.2 = x
  | 0, h1, h2 => by simp [SL] at h2; omega
  | j + 1, h1, h2 => by
    by_cases h3 : x < (SL l vals E M nx j).2.2
    · obtain ⟨c, c1, c2, c3⟩ := q_find h1 h3
      exact ⟨c, by omega, c2, c3⟩
    · rw [SL] at h2; simp only at h2
      cases hu : (vals j).2 with
      | none => rw [hu] at h2; simp [nxUp] at h2; omega
      | some R => rw [hu] at h2; simp [nxUp] at h2; exact ⟨j, by omega, by simp [hu], by omega⟩
theorem SL_mem : ∀ (j : Nat), (SL l vals E M nx j).2.1 = MSl vals (fun k => (SL l vals E M nx k).2.2) M (fun _ => true) j
  | 0 => rfl
  | j + 1 => by rw [SL]; simp only [MSl, if_true]; rw [SL_mem j]
theorem SL_env (hl : ∀ k, k < l.length → (l[k]?).bind (·.dst) = (ops[k]?).bind (·.dst)) : ∀ (j : Nat), j ≤ l.length → (SL l vals E M nx j).1 = ESl ops vals E (fun _ => true) j
  | 0, _ => rfl
  | j + 1, h => by rw [SL]; simp only [ESl, if_true]; rw [SL_env hl j (by omega), hl j (by omega)]
end trace

theorem gapp_nx {e : TypeId} {ei : TI} {s : SV} {ob : Prop} {m : Nat} {get : Nat → Nat → RV} {q q' : Nat} (h : ∀ ob' R s', gapp e ei M q s ob m get ≠ .new ob' R s') : gapp e ei M q' s ob m get = gapp e ei M q s ob m get := by
  cases s with
  | sl r k lo n c =>
    cases c with
    | none => cases lo <;> rfl
    | some c =>
      simp only [gapp] at h ⊢
      cases hM : M r with
      | none => rfl
      | some R =>
        cases R with
        | box l => rfl
        | vec e' k' N g => rw [hM] at h; exact absurd rfl (h _ _ _)
  | r x =>
    cases x with
    | v x =>
      cases x with
      | slice A n c =>
        cases A with
        | none =>
          cases n with
          | zero =>
            cases c with
            | zero => exact absurd rfl (h _ _ _)
            | succ c => rfl
          | succ n => rfl
        | some A => rfl
      | _ => rfl
    | rf k n g => exact absurd rfl (h _ _ _)
    | _ => rfl
  | _ => rfl
theorem gop_nx {op : Op} {q q' : Nat} (h : ∀ ob R s, gop T op E M q ≠ .new ob R s) : gop T op E M q' = gop T op E M q := by
  cases op with
  | box t x =>
    simp only [gop] at h ⊢
    split
    · rename_i i hi; rw [hi] at h; exact absurd rfl (h _ _ _)
    · rfl
  | alloc t =>
    simp only [gop] at h ⊢
    split
    · rename_i i hi; rw [hi] at h; exact absurd rfl (h _ _ _)
    · rfl
  | buildSlice t len ps =>
    simp only [gop] at h ⊢
    unfold gbuildSlice at h ⊢
    split
    · rename_i a1 a2 a3 e hi
      rw [hi] at h
      simp only at h
      split
      · rfl
      · rename_i ei hei
        rw [hei] at h
        simp only at h
        split
        · rename_i cs hcs; rw [hcs] at h; exact absurd rfl (h _ _ _)
        · rfl
    · rfl
  | call c =>
    obtain ⟨callee, args, ts⟩ := c
    cases callee with
    | builtin b =>
      simp only [gop] at h ⊢
      unfold gbuiltin at h ⊢
      split
      · rfl
      · rename_i t t' s x h1 h2
        rw [h1, h2] at h
        simp only at h
        split
        · rename_i ht
          rw [if_pos ht] at h
          unfold gappend at h ⊢
          split
          · rename_i a1 a2 a3 e hi
            rw [hi] at h
            simp only at h
            split
            · rfl
            · rename_i ei hei
              rw [hei] at h
              simp only at h
              split
              · rfl
              · rename_i ob m get hr
                rw [hr] at h
                exact gapp_nx h
          · rfl
        · rename_i ht
          rw [if_neg ht] at h
          unfold gappendZ at h ⊢
          split
          · rename_i a1 a2 a3 e k m hi hi'
            simp only [hi, hi'] at h
            split
            · rfl
            · rename_i ei hei
              rw [hei] at h
              simp only at h
              split
              · exact gapp_nx h
              · rfl
          · rfl
      all_goals rfl
    | value f => rfl
    | invoke r m => rfl
  | _ => rfl

/-- One step of the text's order, whatever is asked behind it. -/
theorem gops_step (hT : TabOK P T) {o : Oper} {rest : List Oper} {K : Env → Mem → Nat → Prop} {next : Act → World → Prop} {Q : Exit → Act → World → Prop} (h : St B W w0 N σ E M nx a w) (hg : gops P T N ops (o :: rest) E M nx K)
    (hn : ∀ E' M' nx' σ' a' w', gops P T N ops rest E' M' nx' K → St B W w0 N σ' E' M' nx' a' w' → next a' w') :
    if Region.wanted o (yielded ops a.tmps) then o.wp P a w next Q else next (a.put o.dst undef) w := by
  simp only [gops] at hg
  split at hg
  · rename_i hgd
    rw [if_pos (by simp [Region.wanted, hgd])]
    exact grun_sound hT h hg fun E' M' nx' σ' a' w' hk hs => hn E' M' nx' σ' a' w' hk hs
  · rename_i j want hgd
    split at hg
    · exact hg.elim
    · rename_i d hj
      split at hg
      · rename_i t heq
        have he := h.env d
        rw [heq] at he
        have hy := yielded_of hj he (lt_of_bool he)
        by_cases ht : t = want
        · subst ht
          rw [if_pos rfl] at hg
          rw [if_pos (by simp [Region.wanted, hgd, hy])]
          exact grun_sound hT (upd_env h he) hg fun E' M' nx' σ' a' w' hk hs => hn E' M' nx' σ' a' w' hk hs
        · rw [if_neg ht] at hg
          have hb : t = !want := by cases t <;> cases want <;> simp_all
          rw [if_neg (by simp [Region.wanted, hgd, hy, ht])]
          rw [hb] at he
          exact hn _ _ _ _ _ _ hg.2 (St.put (upd_env h he) hg.1 undef_v)
      · rename_i x hnb heq
        have he := h.env d
        rw [heq] at he
        rw [if_neg (by simp [Region.wanted, hgd, yielded_non hj he hnb])]
        exact hn _ _ _ _ _ _ hg.2 (St.put h hg.1 undef_v)
      · exact hg.elim
end
end Go.Gx
