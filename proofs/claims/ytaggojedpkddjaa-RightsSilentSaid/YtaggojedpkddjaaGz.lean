/-
  Arguments that can be read as data, as ghosts: what cells a value of plain data has.
-/
import Derived.Test.YtaggojedpkddjaaGy
import Derived.ProofKit
import Derived.Deep.Slices
import Derived.Deep.Fields
import Derived.OpenShut
set_option linter.unusedVariables false
set_option linter.unusedSimpArgs false
namespace Go.Gx
open Go.RowKit Go.WideShapes Go.ChangeShapes Go.Deep

/-- The shape of a cell: a scalar, or a slice of rows of cells. -/
inductive CS where
  | sc (c : CK)
  | sl (k : Nat) (fs : Nat → CS)
def CK.okv : CK → Value → Prop
  | .int k, v => ∃ n, v = .int k n ∧ (Lit.int k n).wf = true
  | .bool, v => ∃ b, v = .bool b
def CSok (w : World) : CS → Value → Prop
  | .sc c, v => c.okv v
  | .sl k fs, v => ∃ A n c, v = .slice A n c ∧ n ≤ c ∧ c ≤ maxLen ∧ (0 < n → ∃ b o, A = some ⟨b, o, none⟩ ∧ b < w.heap.size ∧ ∀ i j, i < n → j < k → ∃ u, w.cell? ⟨b, o + (i * k + j), none⟩ = some u ∧ CSok w (fs j) u)
def CSokL (w : World) : List CS → List Value → Prop
  | [], vs => vs = []
  | s :: l, vs => ∃ v vs', vs = v :: vs' ∧ CSok w s v ∧ CSokL w l vs'

def flatL (f : TypeId → Option (List CS)) (P : Program) : List Field → Nat → Option (List CS)
  | [], _ => some []
  | fd :: fs, o => match f fd.type with
    | none => none
    | some l => if fd.offset = o ∧ P.cellsOf fd.type = l.length then (flatL f P fs (o + l.length)).map (l ++ ·) else none
def repC (l : List CS) : Nat → List CS
  | 0 => []
  | n + 1 => l ++ repC l n
def flatT (P : Program) : Nat → TypeId → Option (List CS)
  | 0, _ => none
  | n + 1, t => match P.underlying t with
    | some (.int k) => some [.sc (.int k)]
    | some .bool => some [.sc .bool]
    | some (.slice e) => match flatT P n e with
      | none => none
      | some l => if P.cellsOf e = l.length ∧ 0 < l.length then some [.sl l.length fun j => l.getD j (.sc .bool)] else none
    | some (.struct fa) => match flatL (flatT P n) P fa.toList 0 with
      | none => none
      | some l => if P.cellsOf t = l.length then some l else none
    | some (.array m e) => match flatT P n e with
      | none => none
      | some l => if P.cellsOf e = l.length ∧ P.cellsOf t = m * l.length then some (repC l m) else none
    | _ => none
theorem repC_length (l : List CS) : ∀ n, (repC l n).length = n * l.length
  | 0 => by simp [repC]
  | n + 1 => by simp [repC, repC_length l n, Nat.add_mul, Nat.add_comm]

section
variable {H : Type} {enc : TypeId × Value → H} {P : Program} {w : World} {base : Nat} {spare : Nat → Bool} {held : Bool}

theorem CSokL_append : ∀ {l l' : List CS} {xs ys : List Value}, CSokL w l xs → CSokL w l' ys → CSokL w (l ++ l') (xs ++ ys)
  | [], l', xs, ys, h, h' => by cases h; exact h'
  | s :: l, l', xs, ys, h, h' => by
    obtain ⟨v, vs, rfl, h1, h2⟩ := h
    exact ⟨v, vs ++ ys, rfl, h1, CSokL_append h2 h'⟩
theorem CSokL_get : ∀ {l : List CS} {vs : List Value}, CSokL w l vs → l.length = vs.length ∧ ∀ (j : Nat) (d : CS) (v : Value), vs[j]? = some v → CSok w (l.getD j d) v
  | [], vs, h => by cases h; exact ⟨rfl, by simp⟩
  | s :: l, vs, h => by
    obtain ⟨v, vs', rfl, h1, h2⟩ := h
    obtain ⟨e1, e2⟩ := CSokL_get h2
    refine ⟨by simp [e1], fun j d u hu => ?_⟩
    cases j with
    | zero => simp at hu; subst hu; exact h1
    | succ j => simpa using e2 j d u (by simpa using hu)

theorem flat_ok : ∀ (n : Nat) (t : TypeId) (l : List CS) (fuel : Nat) (cs : List Value) (x : DataW H × List MemPlace), flatT P n t = some l → DataW.trod enc P w base spare held fuel t cs = some x → CSokL w l cs := by
  intro n
  induction n with
  | zero => intro t l fuel cs x h; simp [flatT] at h
  | succ n ih =>
    intro t l fuel cs x hl h
    unfold flatT at hl
    split at hl
    · rename_i k hu
      cases hl
      obtain ⟨m, rfl, _, hw⟩ := DataW.trod_int hu h
      exact ⟨_, [], rfl, ⟨m, rfl, hw⟩, rfl⟩
    · rename_i hu
      cases hl
      obtain ⟨b, rfl, _⟩ := DataW.trod_bool hu h
      exact ⟨_, [], rfl, ⟨b, rfl⟩, rfl⟩
    · rename_i e hu
      split at hl
      · cases hl
      rename_i le hle
      split at hl
      · rename_i hc
        cases hl
        rcases open_slice hu h with ⟨rfl, _⟩ | ⟨a, len, cap, m, nn, D, Pl, rfl, hb, hlc, hcm, hm, hx, hi⟩
        · exact ⟨_, [], rfl, ⟨none, 0, 0, rfl, Nat.le_refl _, by simp [maxLen], by simp⟩, rfl⟩
        · refine ⟨_, [], rfl, ⟨some a, len, cap, rfl, hlc, hcm, fun h0 => ?_⟩, rfl⟩
          have hlm : len ≤ m := by rw [hm]; split <;> omega
          have cell : ∀ i, i < m → ∃ cs', CSokL w le cs' ∧ ∀ j, j < le.length → w.cell? (a.add (i * le.length + j)) = cs'[j]? := by
            intro i him
            obtain ⟨cs', hcs, ht⟩ := hi i him
            obtain ⟨_, hcl, hat⟩ := World.cells?_some hcs
            refine ⟨cs', ih e le nn cs' _ hle ht, fun j hj => ?_⟩
            rw [← Go.Deep.add_add, ← hc.1]
            exact hat j (by rw [hc.1]; exact hj)
          have sp : a.spot = none ∧ a.block < w.heap.size := by
            obtain ⟨cs', h1, h2⟩ := cell 0 (by omega)
            have e1 := (CSokL_get h1).1
            have h3 := h2 0 hc.2
            rw [List.getElem?_eq_getElem (by omega)] at h3
            have hs := World.cell?_spot h3
            have hs' : a.spot = none := by simpa [Addr.add] using hs
            refine ⟨hs', ?_⟩
            have hbl : (a.add (0 * le.length + 0)).block = a.block := by unfold Addr.add; split <;> rfl
            unfold World.cell? at h3
            rw [hbl] at h3
            rcases Nat.lt_or_ge a.block w.heap.size with hlt | hge
            · exact hlt
            · rw [Array.getElem?_eq_none hge] at h3
              simp at h3
          obtain ⟨b, o, s⟩ := a
          simp only at sp
          obtain ⟨rfl, hblk⟩ := sp
          refine ⟨b, o, rfl, hblk, fun i j hi' hj => ?_⟩
          obtain ⟨cs', h1, h2⟩ := cell i (by omega)
          obtain ⟨e1, e2⟩ := CSokL_get h1
          have h3 := h2 j hj
          rw [add_none, List.getElem?_eq_getElem (by omega)] at h3
          exact ⟨_, h3, e2 j _ _ (List.getElem?_eq_getElem (by omega))⟩
      · cases hl
    · rename_i fa hu
      split at hl
      · cases hl
      rename_i lf0 hl0
      split at hl
      rotate_left
      · cases hl
      rename_i hct
      cases hl
      obtain ⟨xs, m, rfl, _, hcl, hxl, hf⟩ := DataW.trod_struct hu h
      -- field by field
      have key : ∀ (fs : List Field) (o : Nat) (l' : List CS), flatL (flatT P n) P fs o = some l' → (∀ fd ∈ fs, ∃ y, DataW.trod enc P w base spare held m fd.type ((cs.drop fd.offset).take (P.cellsOf fd.type)) = some y) →
          CSokL w l' ((cs.drop o).take l'.length) := by
        intro fs
        induction fs with
        | nil =>
          intro o l' h1 _
          simp [flatL] at h1; subst h1
          simp [CSokL]
        | cons fd fs ihf =>
          intro o l' h1 h2
          simp only [flatL] at h1
          split at h1
          · cases h1
          rename_i lf hlf
          split at h1
          · rename_i hc
            obtain ⟨rfl, hc2⟩ := hc
            cases hq : flatL (flatT P n) P fs (fd.offset + lf.length) with
            | none => rw [hq] at h1; simp at h1
            | some lr =>
              rw [hq] at h1
              simp at h1
              subst h1
              obtain ⟨y, hy⟩ := h2 fd (by simp)
              have g1 := ih _ _ _ _ _ hlf hy
              have g2 := ihf _ _ hq fun fd' hfd' => h2 fd' (by simp [hfd'])
              rw [hc2] at g1
              have g3 := CSokL_append g1 g2
              rw [List.length_append, List.take_add, List.drop_drop]
              exact g3
          · cases h1
      have hlen : ∀ fd ∈ fa.toList, ∃ y, DataW.trod enc P w base spare held m fd.type ((cs.drop fd.offset).take (P.cellsOf fd.type)) = some y := by
        intro fd hfd
        obtain ⟨i, hi, rfl⟩ := List.getElem_of_mem hfd
        have hi' : i < fa.size := by simpa using hi
        have := hf i fa[i] (Array.getElem?_eq_getElem hi')
        rw [List.getElem?_eq_getElem (by omega)] at this
        exact ⟨_, by simpa using this⟩
      have := key fa.toList 0 l hl0 hlen
      simp only [List.drop_zero] at this
      rwa [List.take_of_length_le (by omega)] at this
    · rename_i m e hu
      split at hl
      · cases hl
      rename_i le hle
      split at hl
      rotate_left
      · cases hl
      rename_i hc
      cases hl
      obtain ⟨xs, q, rfl, _, hcl, hxl, hf⟩ := DataW.trod_array hu h
      have key : ∀ d k, k + d = m → CSokL w (repC le d) (cs.drop (k * le.length)) := by
        intro d
        induction d with
        | zero =>
          intro k hk
          rw [List.drop_of_length_le (by rw [hcl, hc.2]; exact Nat.mul_le_mul_right _ (by omega))]
          rfl
        | succ d ihd =>
          intro k hk
          have h1 := hf k (by omega)
          rw [List.getElem?_eq_getElem (by omega)] at h1
          have g1 := ih _ _ _ _ _ hle h1
          rw [hc.1] at g1
          have g2 := ihd (k + 1) (by omega)
          have g3 := CSokL_append g1 g2
          have e : cs.drop (k * le.length) = (cs.drop (k * le.length)).take le.length ++ cs.drop ((k + 1) * le.length) := by
            rw [show (k + 1) * le.length = k * le.length + le.length from by rw [Nat.add_mul]; omega, ← List.drop_drop, List.take_append_drop]
          rw [e]
          exact g3
      simpa using key m 0 (by omega)
    · cases hl
theorem open_flat {n : Nat} {t : TypeId} {l : List CS} {v : Value} {d : DataW H} {p : List MemPlace} (hf : flatT P n t = some l) (h : DataW.Trod enc P w base spare held t v d p) : CSokL w l v.cells.toList := by
  obtain ⟨fuel, hf'⟩ := h
  exact flat_ok n t l fuel _ _ hf hf'

/-! ### the frame of a law's row -/
theorem trodAll_stays (hl : laidOutB P = true) {W W' : World} {sp : Nat → Bool} (hb : Below W.heap.size W W') : ∀ (ts : List TypeId) (vs : List Value) (ds : List (DataW H)) (ps : List MemPlace),
    (∀ t ∈ ts, P.readableRec t = true ∧ t < P.types.size) → DataW.TrodAll enc P W 0 (fun _ => true) true ts vs ds ps → (∀ p ∈ ps, p.block < W.heap.size) → (∀ p ∈ ps, sp p.block = true) → DataW.TrodAll enc P W' 0 sp true ts vs ds ps
  | [], vs, ds, ps, _, h, _, _ => by
    obtain ⟨rfl, rfl, rfl⟩ := trodAll_nil h
    exact rfl
  | t :: ts, vs, ds, ps, hr, h, hlt, hsp => by
    obtain ⟨v, vs', d, ds', p, q, rfl, rfl, rfl, h1, h2⟩ := trodAll_cons h
    obtain ⟨r1, r2⟩ := hr t (by simp)
    exact ⟨p, q, WideElems.Trod_stays hl r1 r2 h1 (fun x hx => hb.same (hlt x (by simp [hx]))) (fun x hx => hsp x (by simp [hx])), trodAll_stays hl hb ts vs' ds' q (fun t' ht' => hr t' (by simp [ht'])) h2 (fun x hx => hlt x (by simp [hx])) (fun x hx => hsp x (by simp [hx])), rfl⟩

theorem post_law {f : Func} {s : ChangeSpec} {W W' : World} {args : Array Value} {ds : List (DataW H)} {p : List MemPlace} {ts : List TypeId} {tb : TypeId} (hl : laidOutB P = true) (hts : f.params.toList = ts) (hrec : ∀ t ∈ ts, P.readableRec t = true ∧ t < P.types.size)
    (hres : f.resultTypes = #[tb]) (htb : P.underlying tb = some .bool) (hv : s.vars = []) (hs : s.fn H (ds ++ []) = { results := [.lit (.bool true)], args := ds }) (hW : DataW.Whole enc P f.params.toList s.vars false W args.toList ds [] p) (hb : Below W.heap.size W W') :
    s.post enc P f false true false false W args (.bool true) W' := by
  have hlt : ∀ x ∈ p, x.block < W.heap.size := fun x hx => hW.lt x hx
  have hold : ∀ x ∈ p, (fun b => decide (b < W.heap.size)) x.block = true := fun x hx => by simpa using hlt x hx
  have hA : DataW.TrodAll enc P W 0 (fun _ => true) true ts args.toList ds p := by
    obtain ⟨p', q, h1, h2, h3, _, _⟩ := hW
    rw [hv] at h2
    obtain ⟨_, rfl⟩ := trodVars_none h2
    rw [hts] at h1
    simpa [h3] using h1
  have hargs : ∀ sp : Nat → Bool, (∀ x ∈ p, sp x.block = true) → DataW.TrodAll enc P W' 0 sp true f.params.toList args.toList (s.fn H (ds ++ [])).args p := fun sp hsp => by
    rw [hts, hs]
    exact trodAll_stays hl hb ts _ _ _ hrec hA hlt hsp
  have hvars : ∀ sp : Nat → Bool, DataW.TrodVars enc P W' sp s.vars (s.fn H (ds ++ [])).vars [] := fun sp => by
    rw [hv, hs]; rfl
  have hbool : ∀ (b : Nat) (sp : Nat → Bool) (hd : Bool), DataW.TrodAll enc P W' b sp hd f.resultTypes.toList ((Value.bool true).resultList f.resultTypes.size) (s.fn H (ds ++ [])).results [] := fun b sp hd => by
    rw [hres, hs]
    exact trodAll_mk1 ⟨1, by simp [DataW.trod, Value.cells, htb]⟩
  refine ⟨ds, [], p, [], p, [], hW, hbool _ _ _, hargs _ hold, hvars _, World.keptBut_mono (fun x hx => ⟨hx, by simpa using hx⟩) (hb.frame (· ∈ p)), fun _ => ?_⟩
  obtain ⟨_, _, _, _, _, hz, hn⟩ := hW
  refine ⟨ok_one hres rfl (by simp [Value.okWide, htb, Cell.okWide, Cell.ok]), _, _, ([] ++ p) ++ [], ⟨[] ++ p, [], trodAll_append (hargs _ (fun _ _ => rfl)) (hbool _ _ _), hvars _, rfl, ?_, ?_⟩, ?_⟩
  · intro b off hp
    have hin : MemPlace.cell b off ∈ p := by simpa using hp
    rw [hb.frozen (hlt _ hin)]
    exact hz b off hin
  · intro ha; cases ha
  · intro x hx _
    simpa using hx

theorem trodAll_len : ∀ {ts : List TypeId} {vs : List Value} {ds : List (DataW H)} {ps : List MemPlace}, DataW.TrodAll enc P w base spare held ts vs ds ps → ds.length = ts.length
  | [], vs, ds, ps, h => by
    obtain ⟨rfl, rfl, rfl⟩ := trodAll_nil h
    rfl
  | t :: ts, vs, ds, ps, h => by
    obtain ⟨v, vs', d, ds', p, q, rfl, rfl, rfl, h1, h2⟩ := trodAll_cons h
    simp [trodAll_len h2]
theorem law_contract {f : FuncId} {fn : Func} {s : ChangeSpec} {ts : List TypeId} {tb : TypeId} (hl : laidOutB P = true) (hts : fn.params.toList = ts) (hrec : ∀ t ∈ ts, P.readableRec t = true ∧ t < P.types.size)
    (hres : fn.resultTypes = #[tb]) (htb : P.underlying tb = some .bool) (hv : s.vars = []) (hs : ∀ ds : List (DataW H), ds.length = ts.length → s.fn H (ds ++ []) = { results := [.lit (.bool true)], args := ds })
    (K : ∀ (W : World) (vs : List Value), (∃ base, ∀ (j : Nat) t v, ts[j]? = some t → vs[j]? = some v → Value.okWide P W .any base t v) → (∃ ds p, DataW.TrodAll enc P W 0 (fun _ => true) true ts vs ds p) →
      ∃ l, SV.relL (fun _ => none) (fun b => b < W.heap.size) W l vs ∧ Pure P f l (· = .b true)) :
    ∀ (W : World) (base : Nat) (args : Array Value) (ds gs : List (DataW H)) (before : List MemPlace), (∀ (j : Nat) t v, fn.params[j]? = some t → args[j]? = some v → Value.okWide P W .any base t v) →
      DataW.Whole enc P fn.params.toList s.vars false W args.toList ds gs before → Calls P f args W fun e W' => ∃ v, e = .returned v ∧ s.post enc P fn false true false false W args v W' := by
  intro W base args ds gs before hval hW
  have hW0 := hW
  obtain ⟨p, q, hA, hV, rfl, hfz, hnd⟩ := hW
  rw [hv] at hV
  obtain ⟨rfl, rfl⟩ := trodVars_none hV
  rw [hts] at hA
  simp only [List.append_nil] at hW0
  obtain ⟨l, hrel, hp⟩ := K W args.toList ⟨base, fun j t v h1 h2 => hval j t v (by rw [← Array.getElem?_toList, hts]; exact h1) (by rw [← Array.getElem?_toList]; exact h2)⟩ ⟨ds, p, hA⟩
  obtain ⟨_, hc⟩ := hp (fun b => b < W.heap.size) W args.toList (fun b hb => hb) hrel
  refine hc.mono fun e W' h => ?_
  obtain ⟨y, s', rfl, rfl, hr, hf⟩ := h
  have hy : y = .bool true := hr
  subst hy
  exact ⟨_, rfl, post_law hl hts hrec hres htb hv (hs ds (trodAll_len hA)) hW0 ⟨hf.os, hf.tape, hf.output, hf.size, fun b hb => hf.block b hb fun h => h⟩⟩

/-! ### ghosts of what has been read -/
def vi : Value → Int
  | .int _ n => n
  | _ => 0
theorem ok_int {k : IntKind} {v : Value} (h : CSok w (.sc (.int k)) v) : v = .int k (vi v) := by
  obtain ⟨n, rfl, _⟩ := h; rfl
theorem ok_u8 {v : Value} (h : CSok w (.sc (.int .u8)) v) : 0 ≤ vi v ∧ vi v < 256 := by
  obtain ⟨n, rfl, hw⟩ := h
  simp [Lit.wf, IntKind.min, IntKind.max, IntKind.bits, IntKind.signed] at hw
  simp only [vi]; omega
theorem rows_of {k : Nat} {fs : Nat → CS} {v : Value} (h : CSok w (.sl k fs) v) : ∃ (n : Nat) (cv : Nat → Nat → Value), n ≤ maxLen ∧ (∀ i j, i < n → j < k → CSok w (fs j) (cv i j)) ∧
    ∀ get : Nat → Nat → RV, (∀ i j, i < n → j < k → (cv i j).oneCell' = true ∧ (get i j).rel (fun b => b < w.heap.size) w (cv i j)) → ∀ σ, (SV.r (.rs k n get)).rel σ (fun b => b < w.heap.size) w v := by
  obtain ⟨A, n, c, rfl, hnc, hcm, hA⟩ := h
  rcases Nat.eq_zero_or_pos n with h0 | h0
  · subst h0
    exact ⟨0, fun _ _ => undef, Nat.zero_le _, fun i j hi => by omega, fun get _ σ => ⟨A, c, rfl, Nat.zero_le _, fun h => by omega⟩⟩
  · obtain ⟨b, o, rfl, hb, hc⟩ := hA h0
    refine ⟨n, fun i j => (w.cell? ⟨b, o + (i * k + j), none⟩).getD undef, by omega, fun i j hi hj => ?_, fun get hg σ => ⟨_, c, rfl, hnc, fun _ => ⟨b, o, rfl, hb, fun i j hi hj => ?_⟩⟩⟩
    · obtain ⟨u, h1, h2⟩ := hc i j hi hj
      simp only [h1, Option.getD_some]; exact h2
    · obtain ⟨u, h1, h2⟩ := hc i j hi hj
      have := hg i j hi hj
      simp only [h1, Option.getD_some] at this
      exact ⟨u, h1, this.1, this.2⟩
end
end Go.Gx
