/-
  A region that leaves its order open: the theorem.
-/
import Derived.Test.YtaggojedpkddjaaGs
set_option linter.unusedVariables false
set_option linter.unusedSimpArgs false
namespace Go.Gx
open Go.RowKit

structure StF (B W : Nat → Prop) (w0 : World) (N : Nat) (σ : Sig) (E : Env) (M : Mem) (F : Nat → Prop) (a : Act) (w : World) : Prop where
  env : EOK σ (Zof B σ M w) w E a
  mem : MOK B W w0.heap.size σ M F w
  fr : Fr W w0 w
  defers : a.defers = []
  size : a.tmps.size = N

section
variable {P : Program} {T : Tab} {B W F : Nat → Prop} {w0 : World} {N : Nat} {n0 : Nat} {σ σ' : Sig} {M M' : Mem} {nx : Nat} {w w' : World} {a : Act} {E E' : Env} {ops : Array Oper}

theorem StF.put (h : StF B W w0 N σ E M F a w) {d : Option Tmp} {s : SV} {y : Value} (hd : dOK N d) (hs : s.rel σ (Zof B σ M w) w y) : StF B W w0 N σ (envPut E d s) M F (a.put d y) w :=
  ⟨h.env.put (by rw [h.size]; exact hd) hs, h.mem, h.fr, by rw [put_defers]; exact h.defers, by rw [put_size]; exact h.size⟩
theorem StF.go (h : StF B W w0 N σ E M F a w) {σ' : Sig} {M' : Mem} {F' : Nat → Prop} {w' : World} (hm : MOK B W w0.heap.size σ' M' F' w') (hf : FrS W w0.heap.size w w')
    (he : ∀ t z, (E t).rel σ (Zof B σ M w) w z → (E t).rel σ' (Zof B σ' M' w') w' z) : StF B W w0 N σ' E M' F' a w' :=
  ⟨fun t => he t _ (h.env t), hm, h.fr.step hf, h.defers, h.size⟩
theorem StF.weak (h : StF B W w0 N σ E M F a w) {F' : Nat → Prop} (hf : ∀ r, F' r → F r) : StF B W w0 N σ E M F' a w := ⟨h.env, h.mem.weaken hf, h.fr, h.defers, h.size⟩

theorem refsL_mem {r : Nat} : ∀ {l : List SV}, r ∈ SV.refsL l → ∃ s ∈ l, r ∈ s.refs
  | [], h => by simp [SV.refsL] at h
  | s :: l, h => by
    simp only [SV.refsL, List.mem_append] at h
    rcases h with h | h
    · exact ⟨s, by simp, h⟩
    · obtain ⟨s', h1, h2⟩ := refsL_mem h
      exact ⟨s', by simp [h1], h2⟩

theorem dcall_agree {f : FuncId} {args : List SV} {v : SV} (h : ∀ r ∈ SV.refsL args, M' r = M r) (hd : DCall P M f args v) : DCall P M' f args v := by
  rcases hd with ⟨h1, h2⟩ | h1
  · exact .inl ⟨(gviewL_agree args _ h).2 h1, h2⟩
  · exact .inr h1

theorem drun_sound (hT : TabOK P T) {o : Oper} {q q' : Nat} {Et : Env} {Mt : Mem} {v : SV} {u : Option Reg} {next : Act → World → Prop} {Q : Exit → Act → World → Prop} (h : StF B W w0 N σ E M F a w) (hd : dOK N o.dst)
    (hr : DRun P T o Et Mt q v u) (he : ∀ x ∈ o.op.operands.toList, ev E x = ev Et x) (hmm : ∀ r, r < q → (∃ L, σ r = some L) → M r = Mt r) (hF : F q') (hFq : u ≠ none → F q)
    (hK : ∀ σ' a' w', StF B W w0 N σ' (envPut E o.dst v) (memUp M q u) (fun r => F r ∧ (u ≠ none → r ≠ q)) a' w' → next a' w') : o.wp P a w next Q := by
  have hrefs : underL q (o.op.operands.toList.map (ev Et)) → ∀ x ∈ o.op.operands.toList, ∀ r ∈ (ev Et x).refs, M r = Mt r := fun hu x hx r hr => hmm r (hu _ (List.mem_map_of_mem hx) r hr) (by
    have := ev_rel h.env x
    rw [he x hx] at this
    exact SV.refs_rel _ _ this r hr)
  by_cases hp : ∃ c x y, o.op = .pick c x y
  · obtain ⟨c, x, y, hop⟩ := hp
    obtain ⟨hu, t, h1, rfl, rfl⟩ := (DRun_pick hop).1 hr
    have hc := ev_rel h.env c
    rw [he c (by simp [hop, Op.operands]), h1] at hc
    have hx := ev_rel h.env x
    rw [he x (by simp [hop, Op.operands])] at hx
    have hy := ev_rel h.env y
    rw [he y (by simp [hop, Op.operands])] at hy
    have e : (execOp a.eval o).run P w = .ok (.value (if t then a.eval x else a.eval y)) w := by
      simp only [execOp, hop, show a.eval c = .bool t from hc, asBool]; rfl
    unfold Oper.wp; rw [e]
    refine hK σ _ _ ((h.put hd ?_).weak fun r hr => hr.1)
    cases t
    · exact hy
    · exact hx
  · have hp' : ∀ c x y, o.op ≠ .pick c x y := fun c x y h => hp ⟨c, x, y, h⟩
    obtain ⟨hu, hr⟩ := (DRun_else hp').1 hr
    have hrefs := hrefs hu
    unfold DRun' at hr
    split at hr
    · rename_i ob s hg
      obtain ⟨hob, rfl, rfl⟩ := hr
      have hs := snd_op hT h.mem hF h.fr.size h.env o
      rw [gop_agree he hrefs, gop_nx (q := q) (by rw [hg]; intro _ _ _ h; cases h), hg] at hs
      obtain ⟨y, hy | ⟨hy, rfl⟩, hrel⟩ := hs hob
      · unfold Oper.wp; rw [hy]; exact hK σ _ _ ((h.put hd hrel).weak fun r hr => hr.1)
      · unfold Oper.wp; rw [hy]; exact hK σ _ _ ((h.put hd hrel).weak fun r hr => hr.1)
    · rename_i ob R s hg
      obtain ⟨hob, rfl, rfl⟩ := hr
      have hq := hFq (by simp)
      have hs := snd_op hT h.mem hq h.fr.size h.env o
      rw [gop_agree he hrefs, hg] at hs
      obtain ⟨y, w', L, hy, h1, h2, h3, h4⟩ := hs hob
      unfold Oper.wp; rw [hy]
      refine hK _ _ _ (StF.put (h.go (h1.weaken fun r hr => ⟨hr.1, hr.2 (by simp)⟩) h4 fun t z hz => SV.rel_mono (fun r L' hL => ?_) h2 _ _ hz) hd h3)
      by_cases hr : r = q
      · subst hr; rw [h.mem.fresh r hq] at hL; cases hL
      · rw [upd_ne _ _ hr]; exact hL
    · rename_i f args hg
      obtain ⟨hua, hdc, rfl⟩ := hr
      have hs := snd_op hT h.mem hF h.fr.size h.env o
      rw [gop_agree he hrefs, gop_nx (q := q) (by rw [hg]; intro _ _ _ h; cases h), hg] at hs
      obtain ⟨vs, h1, h2⟩ := hs
      have hdc' : DCall P M f args v := dcall_agree (fun r hr => by
        obtain ⟨s, h3, h4⟩ := refsL_mem hr
        exact hmm r (hua s h3 r h4) (SV.refsL_rel _ _ h1 r hr)) hdc
      obtain ⟨c1, c2⟩ := dcall_run h.mem h.fr.size hdc' h1
      unfold Oper.wp; rw [h2, c1]
      refine c2.mono fun e w' hp => ?_
      obtain ⟨y, rfl, p1, p2, p3, p4⟩ := hp
      exact hK _ _ _ ((StF.put (h.go p2 p4 fun t z hz => SV.rel_mono (fun _ _ h => h) p3 _ _ hz) hd p1).weak fun r hr => hr.1)
    · exact hr.elim

/-! ### the order -/
structure DK (ops : Array Oper) (m : Nat) : Prop where
  le : m ≤ ops.size
  pair : ∀ i j, i < m → j < m → i ≠ j → clashes ops i j = true → (if i < j then ahead_ ops i j else ahead_ ops j i) = true
  tail : ∀ j, m ≤ j → j < ops.size → ∀ i, i < j → ahead_ ops i j = true
  wf : ∀ j o, ops[j]? = some o → ∀ e ∈ o.after, Region.binds .any e = true → e.on < j

theorem drawOK_spec {m : Nat} (h : drawOK ops m = true) : DK ops m := by
  unfold drawOK at h
  rw [Bool.and_eq_true, Bool.and_eq_true, Bool.and_eq_true] at h
  obtain ⟨⟨⟨h1, h2⟩, h3⟩, h4⟩ := h
  refine ⟨of_decide_eq_true h1, fun i j hi hj hne hc => ?_, fun j hj hs i hi => ?_, fun j o ho e he hb => ?_⟩
  · have := List.all_eq_true.1 (List.all_eq_true.1 h2 j (List.mem_range.2 hj)) i (List.mem_range.2 hi)
    rw [Bool.or_eq_true, Bool.or_eq_true] at this
    rcases this with (h | h) | h
    · exact absurd (by simpa using h) hne
    · rw [hc] at h; cases h
    · exact h
  · have := List.all_eq_true.1 h3 j (List.mem_range.2 hs)
    rw [Bool.or_eq_true] at this
    rcases this with h | h
    · have := of_decide_eq_true h; omega
    · exact List.all_eq_true.1 h i (List.mem_range.2 hi)
  · have := List.all_eq_true.1 h4 (o, j) (by rw [List.mk_mem_zipIdx_iff_getElem?]; simpa using ho)
    simp only at this
    have := Array.all_eq_true_iff_forall_mem.1 this e he
    rw [Bool.or_eq_true] at this
    rcases this with h | h
    · rw [hb] at h; cases h
    · exact of_decide_eq_true h

def Clo (ops : Array Oper) (lf : Nat → Bool) : Prop := ∀ j o, lf j = true → ops[j]? = some o → ∀ e ∈ o.after, Region.binds .any e = true → lf e.on = true

theorem clash_dst {i k t : Nat} {o : Oper} (ho : ops[i]? = some o) (hk : (ops[k]?).bind (·.dst) = some t) (h : o.dst = some t) : clashes ops k i = true := by
  unfold clashes; rw [hk, ho]; simp [h]
theorem clash_operand {i k t : Nat} {o : Oper} (ho : ops[i]? = some o) (hk : (ops[k]?).bind (·.dst) = some t) (h : .tmp t ∈ o.op.operands.toList) : clashes ops k i = true := by
  unfold clashes; rw [hk, ho]
  simp only [Bool.or_eq_true]
  refine .inl (.inr ?_)
  rw [← Array.any_toList, List.any_eq_true]
  exact ⟨.tmp t, h, by simp⟩
theorem clash_guard {i k t g : Nat} {want : Bool} {o : Oper} (ho : ops[i]? = some o) (hk : (ops[k]?).bind (·.dst) = some t) (h : o.guard = some (g, want)) (hg : (ops[g]?).bind (·.dst) = some t) : clashes ops k i = true := by
  unfold clashes; rw [hk, ho]
  simp only [Bool.or_eq_true, h]
  exact .inr (by rw [hg]; simp)

structure Tr (P : Program) (T : Tab) (N : Nat) (ops : Array Oper) (m : Nat) (vals : Nat → SV × Option Reg) (q : Nat → Nat) (E : Env) (M : Mem) (nx : Nat) : Prop where
  ok : DK ops m
  step : ∀ k o, k < m → ops[k]? = some o → DStep P T N ops o (ESl ops vals E (fun _ => true) k) (MSl vals q M (fun _ => true) k) (q k) (vals k).1 (vals k).2
  qne : ∀ i j, i ≠ j → (vals i).2 ≠ none → (vals j).2 ≠ none → q i ≠ q j
  qfind : ∀ x j, nx ≤ x → x < q j → ∃ c, c < j ∧ (vals c).2 ≠ none ∧ q c = x
  qge : ∀ j, nx ≤ q j
  qlt : ∀ c, c < m → (vals c).2 ≠ none → q c < q m

def FS (m : Nat) (vals : Nat → SV × Option Reg) (q : Nat → Nat) (nx : Nat) (lf : Nat → Bool) : Nat → Prop := fun x => nx ≤ x ∧ ∀ c, c < m → lf c = true → (vals c).2 ≠ none → q c ≠ x

variable {m : Nat} {vals : Nat → SV × Option Reg} {q : Nat → Nat}

theorem phase_env (tr : Tr P T N ops m vals q E M nx) {lf : Nat → Bool} {i : Nat} {o : Oper} (hi : i < m) (ho : ops[i]? = some o) (hli : lf i = false)
    (hr : ∀ e ∈ o.after, Region.binds .any e = true → lf e.on = true) (hcl : Clo ops lf) {t : Nat} (hc : ∀ k, k < m → k ≠ i → (ops[k]?).bind (·.dst) = some t → clashes ops k i = true) :
    ESl ops vals E lf m t = ESl ops vals E (fun _ => true) i t := by
  rw [ESl_none m (Nat.le_of_lt hi) (i := i), ESl_agree i]
  · intro k hk hd
    have h1 := tr.ok.pair k i (by omega) hi (by omega) (hc k (by omega) (by omega) hd)
    rw [if_pos hk] at h1
    exact ahead_in (l := fun j => lf j = true) tr.ok.wf (fun j o hj ho => hcl j o hj ho) i (fun o' ho' => by rw [ho] at ho'; cases ho'; exact hr) h1
  · intro k h1 h2 hd
    by_cases hk : k = i
    · subst hk; exact hli
    · have h3 := tr.ok.pair k i h2 hi hk (hc k h2 hk hd)
      rw [if_neg (by omega)] at h3
      cases hl : lf k with
      | false => rfl
      | true =>
        have := ahead_in (l := fun j => lf j = true) tr.ok.wf (fun j o hj ho => hcl j o hj ho) k (fun o' ho' => hcl k o' hl ho') h3
        rw [hli] at this; cases this

theorem phase_mem (tr : Tr P T N ops m vals q E M nx) {lf : Nat → Bool} {i : Nat} (hi : i < m) (h : MOK B W n0 σ (MSl vals q M lf m) (FS m vals q nx lf) w) (r : Nat) (hr : r < q i) (hσ : ∃ L, σ r = some L) :
    MSl vals q M lf m r = MSl vals q M (fun _ => true) i r := by
  by_cases h1 : r < nx
  · rw [MSl_at m, MSl_at i]
    · intro k _ _ e; have := tr.qge k; omega
    · intro k _ _ e; have := tr.qge k; omega
  · obtain ⟨c, c1, c2, rfl⟩ := tr.qfind r i (by omega) hr
    have hl : lf c = true := by
      cases hl : lf c with
      | true => rfl
      | false =>
        obtain ⟨L, hL⟩ := hσ
        rw [h.fresh (q c) ⟨by omega, fun c' h1 h2 h3 => tr.qne c' c (fun e => by subst e; rw [hl] at h2; cases h2) h3 c2⟩] at hL
        cases hL
    cases hu : (vals c).2 with
    | none => exact absurd hu c2
    | some R =>
      rw [MSl_new hu m (by omega) (fun k _ hne hk => tr.qne k c hne hk c2) hl, MSl_new hu i c1 (fun k _ hne hk => tr.qne k c hne hk c2) rfl]

theorem phase_step (hT : TabOK P T) (tr : Tr P T N ops m vals q E M nx) {lf : Nat → Bool} {i : Nat} {o : Oper} (hi : i < m) (ho : ops[i]? = some o) (hli : lf i = false)
    (hr : ∀ e ∈ o.after, Region.binds .any e = true → lf e.on = true) (hcl : Clo ops lf) (h : StF B W w0 N σ (ESl ops vals E lf m) (MSl vals q M lf m) (FS m vals q nx lf) a w)
    {K : Act → World → Prop} {Q : Exit → Act → World → Prop}
    (hK : ∀ σ' a' w', StF B W w0 N σ' (ESl ops vals E (fun k => if k = i then true else lf k) m) (MSl vals q M (fun k => if k = i then true else lf k) m) (FS m vals q nx (fun k => if k = i then true else lf k)) a' w' → K a' w') : wpOp P ops Q i K a w := by
  have hdsto : (ops[i]?).bind (·.dst) = o.dst := by rw [ho]; rfl
  have hE' := ESl_put (vals := vals) (E := E) hli m hi (fun k h1 h2 hl t hti htk => by
    have h3 := tr.ok.pair k i h2 hi (by omega) (clash_dst ho htk (by rw [← hdsto]; exact hti))
    rw [if_neg (by omega)] at h3
    have := ahead_in (l := fun j => lf j = true) tr.ok.wf (fun j o hj ho => hcl j o hj ho) k (fun o' ho' => hcl k o' hl ho') h3
    rw [hli] at this; cases this)
  have hM' := MSl_put (M := M) (vals := vals) (q := q) hli m hi (fun k hk hne h1 h2 => tr.qne k i hne h1 h2)
  rw [hdsto] at hE'
  have hK' : ∀ σ' a' w', StF B W w0 N σ' (envPut (ESl ops vals E lf m) o.dst (vals i).1) (memUp (MSl vals q M lf m) (q i) (vals i).2) (fun r => FS m vals q nx lf r ∧ ((vals i).2 ≠ none → r ≠ q i)) a' w' → K a' w' := by
    intro σ' a' w' hs
    refine hK σ' a' w' ?_
    rw [hE', hM']
    refine hs.weak fun r hr => ⟨⟨hr.1, fun c h1 h2 h3 => hr.2 c h1 (by simp [h2]) h3⟩, fun h3 => ?_⟩
    exact (hr.2 i hi (by simp) h3).symm
  have hops : ∀ x ∈ o.op.operands.toList, ev (ESl ops vals E lf m) x = ev (ESl ops vals E (fun _ => true) i) x := by
    intro x hx
    cases x with
    | tmp t => exact phase_env tr hi ho hli hr hcl fun k _ _ hd => clash_operand ho hd hx
    | _ => rfl
  have hF : FS m vals q nx lf (q m) := ⟨tr.qge m, fun c h1 _ h2 => Nat.ne_of_lt (tr.qlt c h1 h2)⟩
  have hFq : (vals i).2 ≠ none → FS m vals q nx lf (q i) := fun hu => ⟨tr.qge i, fun c h1 h2 h3 => tr.qne c i (fun e => by subst e; rw [hli] at h2; cases h2) h3 hu⟩
  have run : ∀ {E' : Env}, dOK N o.dst → DRun P T o (ESl ops vals E (fun _ => true) i) (MSl vals q M (fun _ => true) i) (q i) (vals i).1 (vals i).2 → o.wp P a w K Q := fun hd hrun =>
    drun_sound hT h hd hrun hops (phase_mem tr hi h.mem) hF hFq hK'
  have hd := tr.step i o hi ho
  unfold wpOp; rw [ho]; simp only []
  cases hgd : o.guard with
  | none =>
    obtain ⟨hdst, hg⟩ := (DStep_none hgd).1 hd
    rw [if_pos (by simp [Region.wanted, hgd])]
    exact .inl (run (E' := E) hdst hg)
  | some g =>
    obtain ⟨j, want⟩ := g
    obtain ⟨hdst, d, hj, ⟨t, he, hif⟩ | ⟨x, he, hnb, hv, hu⟩⟩ := (DStep_some hgd).1 hd
    rotate_left
    · have hed := h.env d
      rw [phase_env tr hi ho hli hr hcl (fun k _ _ hd => clash_guard ho hd hgd hj), he] at hed
      rw [if_neg (by simp [Region.wanted, hgd, yielded_non hj hed hnb])]
      refine hK' σ _ _ ?_
      rw [hv, hu]
      exact (h.put hdst undef_v).weak fun r hr => hr.1
    have hed := h.env d
    rw [phase_env tr hi ho hli hr hcl (fun k _ _ hd => clash_guard ho hd hgd hj), he] at hed
    have hy := yielded_of hj hed (lt_of_bool hed)
    by_cases ht : t = want
    · subst ht
      rw [if_pos rfl] at hif
      rw [if_pos (by simp [Region.wanted, hgd, hy])]
      exact .inl (run (E' := E) hdst hif)
    · rw [if_neg ht] at hif
      rw [if_neg (by simp [Region.wanted, hgd, hy, ht])]
      refine hK' σ _ _ ?_
      rw [hif.1, hif.2]
      exact (h.put hdst undef_v).weak fun r hr => hr.1

end
end Go.Gx
