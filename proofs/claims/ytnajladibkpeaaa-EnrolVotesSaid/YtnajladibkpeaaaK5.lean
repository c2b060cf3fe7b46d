/-
  Contracts whose result is said with less.
-/
import Derived.Test.YtnajladibkpeaaaK4
import Derived.ProofKit
import Derived.Deep.Slices
import Derived.Deep.Fields
import Derived.OpenShut
import Derived.Lib.Overlaps
set_option linter.unusedVariables false
set_option linter.unusedSimpArgs false
namespace Go.Gx
open Go.RowKit

theorem Pure.ofSub {P : Program} {f : FuncId} {args : List SV} {v : SV} (h : Pure P f args fun s => s.sub v) : Pure P f args (· = v) := by
  intro Z w vs hz ha
  obtain ⟨h1, h2⟩ := h Z w vs hz ha
  refine ⟨h1, h2.mono fun e w' h => ?_⟩
  obtain ⟨y, s, a, b, c, d⟩ := h
  exact ⟨y, v, a, rfl, SV.sub_rel _ _ _ b c, d⟩
section
variable {P : Program} {T : Tab} {N : Cfg} {k : List It} {Q : GQ} {E : Env} {M : Mem} {nx : Nat}
@[go_sem] theorem KC_up (all : Array Oper) (rest : List Oper) (d : Option Tmp) (s : SV) (M' : Mem) (nx' : Nat) (up : SV → SV) : KC P T N all rest k Q d E s M' nx' up = GO P T N all rest k Q (envPut (fun t => up (E t)) d s) M' nx' := (rfl)
theorem fzL_map (ref : Nat) (R : Reg) : ∀ l : List SV, SV.fzL ref R l = l.map (SV.fz ref R)
  | [] => rfl
  | s :: l => by simp [SV.fzL, fzL_map ref R l]
/-- A region that is made read-only ahead of a call. -/
theorem callK_freeze {np : Nat} (ref : Nat) {R : Reg} {f : FuncId} {args : List SV} {K : SV → Mem → Nat → (SV → SV) → Prop} (hM : M ref = some R)
    (h : CallK P np f (SV.fzL ref R args) (fzM ref R M) nx fun s M' nx' up => K s M' nx' fun t => up (t.fz ref R)) : CallK P np f args M nx K := by
  intro B W n0 σ w vs hm hn hl ha
  obtain ⟨m1, m2⟩ := hm.freeze hM
  have hz : Keep (Zof B σ M w) (Zof B σ (fzM ref R M) w) w w := fun b hb => by
    refine ⟨⟨hb.1, fun r R' L' h1 h2 h3 => ?_⟩, rfl⟩
    unfold fzM at h1
    split at h1
    · cases h1
    · cases hq : M r with
      | none => rw [hq] at h1; cases h1
      | some R1 => exact hb.2 r R1 L' hq h2 h3
  have ha' : SV.relL σ (Zof B σ (fzM ref R M) w) w (SV.fzL ref R args) vs := by
    have : ∀ (l : List SV) (ys : List Value), SV.relL σ (Zof B σ M w) w l ys → SV.relL σ (Zof B σ (fzM ref R M) w) w (SV.fzL ref R l) ys := by
      intro l
      induction l with
      | nil => exact fun ys h => h
      | cons s l ih =>
        rintro ys ⟨v, vs', e, h1, h2⟩
        exact ⟨v, vs', e, m2 s v h1, ih vs' h2⟩
    exact this _ _ ha
  have conv : ∀ e w', CallPost np B W n0 σ (fzM ref R M) w (fun s M' nx' up => K s M' nx' fun t => up (t.fz ref R)) e w' → CallPost np B W n0 σ M w K e w' := by
    rintro e w' ⟨y, s, M', nx', σ', up, rfl, p1, p2, p3, p4, p5, p6⟩
    exact ⟨y, s, M', nx', σ', _, rfl, p1, p2, fun b hb => ⟨(p3 b (hz b hb).1).1, (p3 b (hz b hb).1).2⟩, p4, fun t z hz' => p5 _ _ (m2 t z hz'), p6⟩
  rcases h B W n0 σ w vs m1 hn hl ha' with ⟨c1, c2⟩ | ⟨y, w', c1, c2⟩
  · exact .inl ⟨c1, c2.mono fun e w' hp => conv e w' hp⟩
  · exact .inr ⟨y, w', c1, conv _ _ c2⟩
end

/-- A list of naturals as rows. -/
abbrev natRow : Nat → Nat → RV := fun n _ => .i (n : Int)
abbrev natS (l : List Nat) : SV := .r (.rs 1 l.length (rowsL natRow l))
end Go.Gx
/-
  Arguments that can be read as data, as ghosts: what cells a value of plain data has.
-/
set_option linter.unusedVariables false
set_option linter.unusedSimpArgs false
namespace Go.Gx
open Go.RowKit Go.WideShapes Go.ChangeShapes Go.Deep

/-- The shape of a cell: a scalar, or a slice of rows of cells. -/
inductive CS where
  | sc (c : CK)
  | sl (k : Nat) (fs : Nat → CS)
def CK.okv : CK → Value → Prop
  | .int k, v => ∃ n, v = .int k n ∧ (Lit.int k n).wf = true
  | .bool, v => ∃ b, v = .bool b
def CSok (w : World) : CS → Value → Prop
  | .sc c, v => c.okv v
  | .sl k fs, v => ∃ A n c, v = .slice A n c ∧ n ≤ c ∧ c ≤ maxLen ∧ (0 < n → ∃ b o, A = some ⟨b, o, none⟩ ∧ b < w.heap.size ∧ ∀ i j, i < n → j < k → ∃ u, w.cell? ⟨b, o + (i * k + j), none⟩ = some u ∧ CSok w (fs j) u)
def CSokL (w : World) : List CS → List Value → Prop
  | [], vs => vs = []
  | s :: l, vs => ∃ v vs', vs = v :: vs' ∧ CSok w s v ∧ CSokL w l vs'

def flatL (f : TypeId → Option (List CS)) (P : Program) : List Field → Nat → Option (List CS)
  | [], _ => some []
  | fd :: fs, o => match f fd.type with
    | none => none
    | some l => if fd.offset = o ∧ P.cellsOf fd.type = l.length then (flatL f P fs (o + l.length)).map (l ++ ·) else none
def repC (l : List CS) : Nat → List CS
  | 0 => []
  | n + 1 => l ++ repC l n
def flatT (P : Program) : Nat → TypeId → Option (List CS)
  | 0, _ => none
  | n + 1, t => match P.underlying t with
    | some (.int k) => some [.sc (.int k)]
    | some .bool => some [.sc .bool]
    | some (.slice e) => match flatT P n e with
      | none => none
      | some l => if P.cellsOf e = l.length ∧ 0 < l.length then some [.sl l.length fun j => l.getD j (.sc .bool)] else none
    | some (.struct fa) => match flatL (flatT P n) P fa.toList 0 with
      | none => none
      | some l => if P.cellsOf t = l.length then some l else none
    | some (.array m e) => match flatT P n e with
      | none => none
      | some l => if P.cellsOf e = l.length ∧ P.cellsOf t = m * l.length then some (repC l m) else none
    | _ => none
theorem repC_length (l : List CS) : ∀ n, (repC l n).length = n * l.length
  | 0 => by simp [repC]
  | n + 1 => by simp [repC, repC_length l n, Nat.add_mul, Nat.add_comm]

section
variable {H : Type} {enc : TypeId × Value → H} {P : Program} {w : World} {base : Nat} {spare : Nat → Bool} {held : Bool}

theorem CSokL_append : ∀ {l l' : List CS} {xs ys : List Value}, CSokL w l xs → CSokL w l' ys → CSokL w (l ++ l') (xs ++ ys)
  | [], l', xs, ys, h, h' => by cases h; exact h'
  | s :: l, l', xs, ys, h, h' => by
    obtain ⟨v, vs, rfl, h1, h2⟩ := h
    exact ⟨v, vs ++ ys, rfl, h1, CSokL_append h2 h'⟩
theorem CSokL_get : ∀ {l : List CS} {vs : List Value}, CSokL w l vs → l.length = vs.length ∧ ∀ (j : Nat) (d : CS) (v : Value), vs[j]? = some v → CSok w (l.getD j d) v
  | [], vs, h => by cases h; exact ⟨rfl, by simp⟩
  | s :: l, vs, h => by
    obtain ⟨v, vs', rfl, h1, h2⟩ := h
    obtain ⟨e1, e2⟩ := CSokL_get h2
    refine ⟨by simp [e1], fun j d u hu => ?_⟩
    cases j with
    | zero => simp at hu; subst hu; exact h1
    | succ j => simpa using e2 j d u (by simpa using hu)

theorem flat_ok : ∀ (n : Nat) (t : TypeId) (l : List CS) (fuel : Nat) (cs : List Value) (x : DataW H × List MemPlace), flatT P n t = some l → DataW.trod enc P w base spare held fuel t cs = some x → CSokL w l cs := by
  intro n
  induction n with
  | zero => intro t l fuel cs x h; simp [flatT] at h
  | succ n ih =>
    intro t l fuel cs x hl h
    unfold flatT at hl
    split at hl
    · rename_i k hu
      cases hl
      obtain ⟨m, rfl, _, hw⟩ := DataW.trod_int hu h
      exact ⟨_, [], rfl, ⟨m, rfl, hw⟩, rfl⟩
    · rename_i hu
      cases hl
      obtain ⟨b, rfl, _⟩ := DataW.trod_bool hu h
      exact ⟨_, [], rfl, ⟨b, rfl⟩, rfl⟩
    · rename_i e hu
      split at hl
      · cases hl
      rename_i le hle
      split at hl
      · rename_i hc
        cases hl
        rcases open_slice hu h with ⟨rfl, _⟩ | ⟨a, len, cap, m, nn, D, Pl, rfl, hb, hlc, hcm, hm, hx, hi⟩
        · exact ⟨_, [], rfl, ⟨none, 0, 0, rfl, Nat.le_refl _, by simp [maxLen], by simp⟩, rfl⟩
        · refine ⟨_, [], rfl, ⟨some a, len, cap, rfl, hlc, hcm, fun h0 => ?_⟩, rfl⟩
          have hlm : len ≤ m := by rw [hm]; split <;> omega
          have cell : ∀ i, i < m → ∃ cs', CSokL w le cs' ∧ ∀ j, j < le.length → w.cell? (a.add (i * le.length + j)) = cs'[j]? := by
            intro i him
            obtain ⟨cs', hcs, ht⟩ := hi i him
            obtain ⟨_, hcl, hat⟩ := World.cells?_some hcs
            refine ⟨cs', ih e le nn cs' _ hle ht, fun j hj => ?_⟩
            rw [← Go.Deep.add_add, ← hc.1]
            exact hat j (by rw [hc.1]; exact hj)
          have sp : a.spot = none ∧ a.block < w.heap.size := by
            obtain ⟨cs', h1, h2⟩ := cell 0 (by omega)
            have e1 := (CSokL_get h1).1
            have h3 := h2 0 hc.2
            rw [List.getElem?_eq_getElem (by omega)] at h3
            have hs := World.cell?_spot h3
            have hs' : a.spot = none := by simpa [Addr.add] using hs
            refine ⟨hs', ?_⟩
            have hbl : (a.add (0 * le.length + 0)).block = a.block := by unfold Addr.add; split <;> rfl
            unfold World.cell? at h3
            rw [hbl] at h3
            rcases Nat.lt_or_ge a.block w.heap.size with hlt | hge
            · exact hlt
            · rw [Array.getElem?_eq_none hge] at h3
              simp at h3
          obtain ⟨b, o, s⟩ := a
          simp only at sp
          obtain ⟨rfl, hblk⟩ := sp
          refine ⟨b, o, rfl, hblk, fun i j hi' hj => ?_⟩
          obtain ⟨cs', h1, h2⟩ := cell i (by omega)
          obtain ⟨e1, e2⟩ := CSokL_get h1
          have h3 := h2 j hj
          rw [add_none, List.getElem?_eq_getElem (by omega)] at h3
          exact ⟨_, h3, e2 j _ _ (List.getElem?_eq_getElem (by omega))⟩
      · cases hl
    · rename_i fa hu
      split at hl
      · cases hl
      rename_i lf0 hl0
      split at hl
      rotate_left
      · cases hl
      rename_i hct
      cases hl
      obtain ⟨xs, m, rfl, _, hcl, hxl, hf⟩ := DataW.trod_struct hu h
      -- field by field
      have key : ∀ (fs : List Field) (o : Nat) (l' : List CS), flatL (flatT P n) P fs o = some l' → (∀ fd ∈ fs, ∃ y, DataW.trod enc P w base spare held m fd.type ((cs.drop fd.offset).take (P.cellsOf fd.type)) = some y) →
          CSokL w l' ((cs.drop o).take l'.length) := by
        intro fs
        induction fs with
        | nil =>
          intro o l' h1 _
          simp [flatL] at h1; subst h1
          simp [CSokL]
        | cons fd fs ihf =>
          intro o l' h1 h2
          simp only [flatL] at h1
          split at h1
          · cases h1
          rename_i lf hlf
          split at h1
          · rename_i hc
            obtain ⟨rfl, hc2⟩ := hc
            cases hq : flatL (flatT P n) P fs (fd.offset + lf.length) with
            | none => rw [hq] at h1; simp at h1
            | some lr =>
              rw [hq] at h1
              simp at h1
              subst h1
              obtain ⟨y, hy⟩ := h2 fd (by simp)
              have g1 := ih _ _ _ _ _ hlf hy
              have g2 := ihf _ _ hq fun fd' hfd' => h2 fd' (by simp [hfd'])
              rw [hc2] at g1
              have g3 := CSokL_append g1 g2
              rw [List.length_append, List.take_add, List.drop_drop]
              exact g3
          · cases h1
      have hlen : ∀ fd ∈ fa.toList, ∃ y, DataW.trod enc P w base spare held m fd.type ((cs.drop fd.offset).take (P.cellsOf fd.type)) = some y := by
        intro fd hfd
        obtain ⟨i, hi, rfl⟩ := List.getElem_of_mem hfd
        have hi' : i < fa.size := by simpa using hi
        have := hf i fa[i] (Array.getElem?_eq_getElem hi')
        rw [List.getElem?_eq_getElem (by omega)] at this
        exact ⟨_, by simpa using this⟩
      have := key fa.toList 0 l hl0 hlen
      simp only [List.drop_zero] at this
      rwa [List.take_of_length_le (by omega)] at this
    · rename_i m e hu
      split at hl
      · cases hl
      rename_i le hle
      split at hl
      rotate_left
      · cases hl
      rename_i hc
      cases hl
      obtain ⟨xs, q, rfl, _, hcl, hxl, hf⟩ := DataW.trod_array hu h
      have key : ∀ d k, k + d = m → CSokL w (repC le d) (cs.drop (k * le.length)) := by
        intro d
        induction d with
        | zero =>
          intro k hk
          rw [List.drop_of_length_le (by rw [hcl, hc.2]; exact Nat.mul_le_mul_right _ (by omega))]
          rfl
        | succ d ihd =>
          intro k hk
          have h1 := hf k (by omega)
          rw [List.getElem?_eq_getElem (by omega)] at h1
          have g1 := ih _ _ _ _ _ hle h1
          rw [hc.1] at g1
          have g2 := ihd (k + 1) (by omega)
          have g3 := CSokL_append g1 g2
          have e : cs.drop (k * le.length) = (cs.drop (k * le.length)).take le.length ++ cs.drop ((k + 1) * le.length) := by
            rw [show (k + 1) * le.length = k * le.length + le.length from by rw [Nat.add_mul]; omega, ← List.drop_drop, List.take_append_drop]
          rw [e]
          exact g3
      simpa using key m 0 (by omega)
    · cases hl
theorem open_flat {n : Nat} {t : TypeId} {l : List CS} {v : Value} {d : DataW H} {p : List MemPlace} (hf : flatT P n t = some l) (h : DataW.Trod enc P w base spare held t v d p) : CSokL w l v.cells.toList := by
  obtain ⟨fuel, hf'⟩ := h
  exact flat_ok n t l fuel _ _ hf hf'

/-! ### the frame of a law's row -/
theorem trodAll_stays (hl : laidOutB P = true) {W W' : World} {sp : Nat → Bool} (hb : Below W.heap.size W W') : ∀ (ts : List TypeId) (vs : List Value) (ds : List (DataW H)) (ps : List MemPlace),
    (∀ t ∈ ts, P.readableRec t = true ∧ t < P.types.size) → DataW.TrodAll enc P W 0 (fun _ => true) true ts vs ds ps → (∀ p ∈ ps, p.block < W.heap.size) → (∀ p ∈ ps, sp p.block = true) → DataW.TrodAll enc P W' 0 sp true ts vs ds ps
  | [], vs, ds, ps, _, h, _, _ => by
    obtain ⟨rfl, rfl, rfl⟩ := trodAll_nil h
    exact rfl
  | t :: ts, vs, ds, ps, hr, h, hlt, hsp => by
    obtain ⟨v, vs', d, ds', p, q, rfl, rfl, rfl, h1, h2⟩ := trodAll_cons h
    obtain ⟨r1, r2⟩ := hr t (by simp)
    exact ⟨p, q, WideElems.Trod_stays hl r1 r2 h1 (fun x hx => hb.same (hlt x (by simp [hx]))) (fun x hx => hsp x (by simp [hx])), trodAll_stays hl hb ts vs' ds' q (fun t' ht' => hr t' (by simp [ht'])) h2 (fun x hx => hlt x (by simp [hx])) (fun x hx => hsp x (by simp [hx])), rfl⟩

theorem post_law {f : Func} {s : ChangeSpec} {W W' : World} {args : Array Value} {ds : List (DataW H)} {p : List MemPlace} {ts : List TypeId} {tb : TypeId} (hl : laidOutB P = true) (hts : f.params.toList = ts) (hrec : ∀ t ∈ ts, P.readableRec t = true ∧ t < P.types.size)
    (hres : f.resultTypes = #[tb]) (htb : P.underlying tb = some .bool) (hv : s.vars = []) (hs : s.fn H (ds ++ []) = { results := [.lit (.bool true)], args := ds }) (hW : DataW.Whole enc P f.params.toList s.vars false W args.toList ds [] p) (hb : Below W.heap.size W W') :
    s.post enc P f false true false false W args (.bool true) W' := by
  have hlt : ∀ x ∈ p, x.block < W.heap.size := fun x hx => hW.lt x hx
  have hold : ∀ x ∈ p, (fun b => decide (b < W.heap.size)) x.block = true := fun x hx => by simpa using hlt x hx
  have hA : DataW.TrodAll enc P W 0 (fun _ => true) true ts args.toList ds p := by
    obtain ⟨p', q, h1, h2, h3, _, _⟩ := hW
    rw [hv] at h2
    obtain ⟨_, rfl⟩ := trodVars_none h2
    rw [hts] at h1
    simpa [h3] using h1
  have hargs : ∀ sp : Nat → Bool, (∀ x ∈ p, sp x.block = true) → DataW.TrodAll enc P W' 0 sp true f.params.toList args.toList (s.fn H (ds ++ [])).args p := fun sp hsp => by
    rw [hts, hs]
    exact trodAll_stays hl hb ts _ _ _ hrec hA hlt hsp
  have hvars : ∀ sp : Nat → Bool, DataW.TrodVars enc P W' sp s.vars (s.fn H (ds ++ [])).vars [] := fun sp => by
    rw [hv, hs]; rfl
  have hbool : ∀ (b : Nat) (sp : Nat → Bool) (hd : Bool), DataW.TrodAll enc P W' b sp hd f.resultTypes.toList ((Value.bool true).resultList f.resultTypes.size) (s.fn H (ds ++ [])).results [] := fun b sp hd => by
    rw [hres, hs]
    exact trodAll_mk1 ⟨1, by simp [DataW.trod, Value.cells, htb]⟩
  refine ⟨ds, [], p, [], p, [], hW, hbool _ _ _, hargs _ hold, hvars _, World.keptBut_mono (fun x hx => ⟨hx, by simpa using hx⟩) (hb.frame (· ∈ p)), fun _ => ?_⟩
  obtain ⟨_, _, _, _, _, hz, hn⟩ := hW
  refine ⟨ok_one hres rfl (by simp [Value.okWide, htb, Cell.okWide, Cell.ok]), _, _, ([] ++ p) ++ [], ⟨[] ++ p, [], trodAll_append (hargs _ (fun _ _ => rfl)) (hbool _ _ _), hvars _, rfl, ?_, ?_⟩, ?_⟩
  · intro b off hp
    have hin : MemPlace.cell b off ∈ p := by simpa using hp
    rw [hb.frozen (hlt _ hin)]
    exact hz b off hin
  · intro ha; cases ha
  · intro x hx _
    simpa using hx

theorem trodAll_len : ∀ {ts : List TypeId} {vs : List Value} {ds : List (DataW H)} {ps : List MemPlace}, DataW.TrodAll enc P w base spare held ts vs ds ps → ds.length = ts.length
  | [], vs, ds, ps, h => by
    obtain ⟨rfl, rfl, rfl⟩ := trodAll_nil h
    rfl
  | t :: ts, vs, ds, ps, h => by
    obtain ⟨v, vs', d, ds', p, q, rfl, rfl, rfl, h1, h2⟩ := trodAll_cons h
    simp [trodAll_len h2]
theorem law_contract {f : FuncId} {fn : Func} {s : ChangeSpec} {ts : List TypeId} {tb : TypeId} (hl : laidOutB P = true) (hts : fn.params.toList = ts) (hrec : ∀ t ∈ ts, P.readableRec t = true ∧ t < P.types.size)
    (hres : fn.resultTypes = #[tb]) (htb : P.underlying tb = some .bool) (hv : s.vars = []) (hs : ∀ ds : List (DataW H), ds.length = ts.length → s.fn H (ds ++ []) = { results := [.lit (.bool true)], args := ds })
    (K : ∀ (W : World) (vs : List Value), (∃ base, ∀ (j : Nat) t v, ts[j]? = some t → vs[j]? = some v → Value.okWide P W .any base t v) → (∃ ds p, DataW.TrodAll enc P W 0 (fun _ => true) true ts vs ds p) →
      ∃ l, SV.relL (fun _ => none) (fun b => b < W.heap.size) W l vs ∧ Pure P f l (· = .b true)) :
    ∀ (W : World) (base : Nat) (args : Array Value) (ds gs : List (DataW H)) (before : List MemPlace), (∀ (j : Nat) t v, fn.params[j]? = some t → args[j]? = some v → Value.okWide P W .any base t v) →
      DataW.Whole enc P fn.params.toList s.vars false W args.toList ds gs before → Calls P f args W fun e W' => ∃ v, e = .returned v ∧ s.post enc P fn false true false false W args v W' := by
  intro W base args ds gs before hval hW
  have hW0 := hW
  obtain ⟨p, q, hA, hV, rfl, hfz, hnd⟩ := hW
  rw [hv] at hV
  obtain ⟨rfl, rfl⟩ := trodVars_none hV
  rw [hts] at hA
  simp only [List.append_nil] at hW0
  obtain ⟨l, hrel, hp⟩ := K W args.toList ⟨base, fun j t v h1 h2 => hval j t v (by rw [← Array.getElem?_toList, hts]; exact h1) (by rw [← Array.getElem?_toList]; exact h2)⟩ ⟨ds, p, hA⟩
  obtain ⟨_, hc⟩ := hp (fun b => b < W.heap.size) W args.toList (fun b hb => hb) hrel
  refine hc.mono fun e W' h => ?_
  obtain ⟨y, s', rfl, rfl, hr, hf⟩ := h
  have hy : y = .bool true := hr
  subst hy
  exact ⟨_, rfl, post_law hl hts hrec hres htb hv (hs ds (trodAll_len hA)) hW0 ⟨hf.os, hf.tape, hf.output, hf.size, fun b hb => hf.block b hb fun h => h⟩⟩

/-! ### ghosts of what has been read -/
def vi : Value → Int
  | .int _ n => n
  | _ => 0
theorem ok_int {k : IntKind} {v : Value} (h : CSok w (.sc (.int k)) v) : v = .int k (vi v) := by
  obtain ⟨n, rfl, _⟩ := h; rfl
theorem ok_u8 {v : Value} (h : CSok w (.sc (.int .u8)) v) : 0 ≤ vi v ∧ vi v < 256 := by
  obtain ⟨n, rfl, hw⟩ := h
  simp [Lit.wf, IntKind.min, IntKind.max, IntKind.bits, IntKind.signed] at hw
  simp only [vi]; omega
theorem rows_of {k : Nat} {fs : Nat → CS} {v : Value} (h : CSok w (.sl k fs) v) : ∃ (n : Nat) (cv : Nat → Nat → Value), n ≤ maxLen ∧ (∀ i j, i < n → j < k → CSok w (fs j) (cv i j)) ∧
    ∀ get : Nat → Nat → RV, (∀ i j, i < n → j < k → (cv i j).oneCell' = true ∧ (get i j).rel (fun b => b < w.heap.size) w (cv i j)) → ∀ σ, (SV.r (.rs k n get)).rel σ (fun b => b < w.heap.size) w v := by
  obtain ⟨A, n, c, rfl, hnc, hcm, hA⟩ := h
  rcases Nat.eq_zero_or_pos n with h0 | h0
  · subst h0
    exact ⟨0, fun _ _ => undef, Nat.zero_le _, fun i j hi => by omega, fun get _ σ => ⟨A, c, rfl, Nat.zero_le _, fun h => by omega⟩⟩
  · obtain ⟨b, o, rfl, hb, hc⟩ := hA h0
    refine ⟨n, fun i j => (w.cell? ⟨b, o + (i * k + j), none⟩).getD undef, by omega, fun i j hi hj => ?_, fun get hg σ => ⟨_, c, rfl, hnc, fun _ => ⟨b, o, rfl, hb, fun i j hi hj => ?_⟩⟩⟩
    · obtain ⟨u, h1, h2⟩ := hc i j hi hj
      simp only [h1, Option.getD_some]; exact h2
    · obtain ⟨u, h1, h2⟩ := hc i j hi hj
      have := hg i j hi hj
      simp only [h1, Option.getD_some] at this
      exact ⟨u, h1, this.1, this.2⟩
end
end Go.Gx
/-
  Contracts of functions that are handed memory of the caller's own: what goes in is given up, what comes out is new.
-/
set_option linter.unusedVariables false
set_option linter.unusedSimpArgs false
namespace Go.Gx
open Go.RowKit

mutual
def SV.ren (ρ : Nat → Nat) : SV → SV
  | .r x => .r x
  | .ptr q row k fld => .ptr (ρ q) row k fld
  | .sl q k lo n c => .sl (ρ q) k lo n c
  | .mp q => .mp (ρ q)
  | .fn f fi ca => .fn f (SV.renL ρ fi) (SV.renL ρ ca)
  | .agg l => .agg (SV.renL ρ l)
  | .tup l => .tup (SV.renL ρ l)
def SV.renL (ρ : Nat → Nat) : List SV → List SV
  | [] => []
  | s :: l => s.ren ρ :: SV.renL ρ l
end
def Reg.ren (ρ : Nat → Nat) : Reg → Reg
  | .box l => .box (SV.renL ρ l)
  | .vec e k n g => .vec e k n fun i j => (g i j).ren ρ
  | .map has val st => .map has (fun a => (val a).ren ρ) st
  | .iter m f c all left la => .iter (m.ren ρ) f c all left la

section
variable {σ : Sig} {Z : Nat → Prop} {w : World} {ρ : Nat → Nat}
mutual
theorem SV.rel_ren : ∀ (s : SV) (y : Value), (s.ren ρ).rel σ Z w y ↔ s.rel (fun i => σ (ρ i)) Z w y
  | .r x, y => Iff.rfl
  | .ptr .., y => Iff.rfl
  | .sl .., y => Iff.rfl
  | .mp .., y => Iff.rfl
  | .fn f fi ca, y => by
    simp only [SV.ren, SV.rel]
    exact ⟨fun ⟨vs, ws, e, h1, h2⟩ => ⟨vs, ws, e, (SV.relL_ren fi vs).1 h1, (SV.relL_ren ca ws).1 h2⟩, fun ⟨vs, ws, e, h1, h2⟩ => ⟨vs, ws, e, (SV.relL_ren fi vs).2 h1, (SV.relL_ren ca ws).2 h2⟩⟩
  | .agg l, y => by
    simp only [SV.ren, SV.rel]
    exact ⟨fun ⟨vs, e, h1, h2⟩ => ⟨vs, e, h1, (SV.relL_ren l vs).1 h2⟩, fun ⟨vs, e, h1, h2⟩ => ⟨vs, e, h1, (SV.relL_ren l vs).2 h2⟩⟩
  | .tup l, y => by
    simp only [SV.ren, SV.rel]
    exact ⟨fun ⟨vs, e, h2⟩ => ⟨vs, e, (SV.relL_ren l vs).1 h2⟩, fun ⟨vs, e, h2⟩ => ⟨vs, e, (SV.relL_ren l vs).2 h2⟩⟩
theorem SV.relL_ren : ∀ (l : List SV) (ys : List Value), SV.relL σ Z w (SV.renL ρ l) ys ↔ SV.relL (fun i => σ (ρ i)) Z w l ys
  | [], ys => Iff.rfl
  | s :: l, ys => by
    simp only [SV.renL, SV.relL]
    exact ⟨fun ⟨v, vs', e, h1, h2⟩ => ⟨v, vs', e, (SV.rel_ren s v).1 h1, (SV.relL_ren l vs').1 h2⟩, fun ⟨v, vs', e, h1, h2⟩ => ⟨v, vs', e, (SV.rel_ren s v).2 h1, (SV.relL_ren l vs').2 h2⟩⟩
end
theorem RegOK_ren {L : Loc} {R : Reg} : RegOK σ Z w L (R.ren ρ) ↔ RegOK (fun i => σ (ρ i)) Z w L R := by
  cases R with
  | box l =>
    simp only [Reg.ren, RegOK]
    exact ⟨fun ⟨b, cs, ty, h1, h2, h3, h4⟩ => ⟨b, cs, ty, h1, h2, h3, (SV.relL_ren l cs).1 h4⟩, fun ⟨b, cs, ty, h1, h2, h3, h4⟩ => ⟨b, cs, ty, h1, h2, h3, (SV.relL_ren l cs).2 h4⟩⟩
  | vec e k n g => simp only [Reg.ren, RegOK, SV.rel_ren]
  | map has val st => simp only [Reg.ren, RegOK, SV.rel_ren]
  | iter m f c all left la => simp only [Reg.ren, RegOK, SV.rel_ren]
end

/-- The blocks of the regions. -/
def Wof (σ : Sig) (M : Mem) (b : Nat) : Prop := ∃ r R L, M r = some R ∧ σ r = some L ∧ L.at_ = some b
abbrev memR (l : List Reg) : Mem := memL (l.map some)

/-- A contract: the regions Rs (refs 0, 1, ..) go in, what comes back is S with the regions Rs' (refs 0, 1, ..); the first np of them are where they were. -/
def OwnS (P : Program) (np : Nat) (f : FuncId) (Rs : List Reg) (args : List SV) (S : SV) (Rs' : List Reg) : Prop :=
  ∀ (B : Nat → Prop) (σ : Sig) (w : World) (vs : List Value), MOK B (Wof σ (memR Rs)) w.heap.size σ (memR Rs) (From Rs.length) w → SV.relL σ (Zof B σ (memR Rs) w) w args vs →
    (callFunc f vs.toArray).run P w = .ok (.enter f vs.toArray) w ∧
    Calls P f vs.toArray w fun e w' => ∃ y σ', e = .returned y ∧ MOK B (Wof σ (memR Rs)) w.heap.size σ' (memR Rs') (From Rs'.length) w' ∧ S.rel σ' (Zof B σ' (memR Rs') w') w' y ∧ FrS (Wof σ (memR Rs)) w.heap.size w w' ∧
      ∀ r, r < np → σ' r = σ r
abbrev Own (P : Program) (f : FuncId) (Rs : List Reg) (args : List SV) (S : SV) (Rs' : List Reg) : Prop := OwnS P 0 f Rs args S Rs'

theorem memR_get (l : List Reg) (r : Nat) : memR l r = l[r]? := by
  simp only [memR, memL, List.getElem?_map]
  cases l[r]? <;> rfl

/-- The regions that are handed out, found in the memory that is left. -/
def gexpR (M : Mem) (ρ : Nat → Nat) : List Nat → List Reg → Prop
  | [], [] => True
  | q :: l, R :: Rs => Reg.sub (M q) (some (R.ren ρ)) ∧ gexpR M ρ l Rs
  | _, _ => False
def gexp (M : Mem) (s : SV) (ρl : List Nat) (S : SV) (Rs' : List Reg) : Prop :=
  ρl.Nodup ∧ ∀ N : Nat, s.sub (S.ren fun i => (ρl[i]?).getD N) ∧ gexpR M (fun i => (ρl[i]?).getD N) ρl Rs'
theorem gexpR_get {M : Mem} {ρ : Nat → Nat} : ∀ {ρl : List Nat} {Rs : List Reg}, gexpR M ρ ρl Rs → ρl.length = Rs.length ∧ ∀ (i : Nat) (R : Reg), Rs[i]? = some R → ∃ q, ρl[i]? = some q ∧ Reg.sub (M q) (some (R.ren ρ))
  | [], [], _ => ⟨rfl, by simp⟩
  | [], _ :: _, h => h.elim
  | _ :: _, [], h => h.elim
  | q :: l, R :: Rs, h => by
    obtain ⟨h1, h2⟩ := gexpR_get h.2
    refine ⟨by simp [h1], fun i R' hi => ?_⟩
    cases i with
    | zero => simp at hi; subst hi; exact ⟨q, by simp, h.1⟩
    | succ i => simpa using h2 i R' (by simpa using hi)

theorem nodup_inj {l : List Nat} (h : l.Nodup) {i j : Nat} (hi : i < l.length) (hj : j < l.length) (e : l[i] = l[j]) : i = j := by
  have hp := List.pairwise_iff_getElem.1 h
  rcases Nat.lt_trichotomy i j with h1 | h1 | h1
  · exact absurd e (hp i j hi hj h1)
  · exact h1
  · exact absurd e.symm (hp j i hj hi h1)

section
variable {P : Program} {T : Tab}

/-- Some regions are taken out under other numbers, the others are let go. -/
theorem MOK.export {B W F : Nat → Prop} {n0 : Nat} {σ : Sig} {M : Mem} {w : World} (hm : MOK B W n0 σ M F w) {ρl : List Nat} {Rs : List Reg} {N : Nat} (hN : σ N = none) (hnd : ρl.Nodup) (hx : gexpR M (fun i => (ρl[i]?).getD N) ρl Rs) :
    MOK B W n0 (fun i => σ ((ρl[i]?).getD N)) (memR Rs) (From Rs.length) w ∧ ∀ b, Zof B σ M w b → Zof B (fun i => σ ((ρl[i]?).getD N)) (memR Rs) w b := by
  obtain ⟨hlen, hget⟩ := gexpR_get hx
  have hk : ∀ r R, memR Rs r = some R → ∃ q R1, ρl[r]? = some q ∧ M q = some R1 ∧ Reg.sub (some R1) (some (R.ren fun i => (ρl[i]?).getD N)) := by
    intro r R h
    rw [memR_get] at h
    obtain ⟨q, h1, h2⟩ := hget r R h
    cases hq : M q with
    | none => rw [hq] at h2; simp [Reg.sub] at h2
    | some R1 => rw [hq] at h2; exact ⟨q, R1, h1, hq, h2⟩
  have hz : ∀ b, Zof B σ M w b → Zof B (fun i => σ ((ρl[i]?).getD N)) (memR Rs) w b := fun b hb => ⟨hb.1, fun r R L h1 h2 h3 => by
    obtain ⟨q, R1, e1, e2, _⟩ := hk r R h1
    simp only [e1, Option.getD_some] at h2
    exact hb.2 q R1 L e2 h2 h3⟩
  refine ⟨⟨hm.newB, fun r hr => ?_, fun r R h => ?_, fun r r' R R' L L' b h1 h2 h3 h4 h5 h6 => ?_, fun r R L b h1 h2 h3 => ?_⟩, hz⟩
  · have : ρl[r]? = none := List.getElem?_eq_none (by have : Rs.length ≤ r := hr; omega)
    simp [this, hN]
  · obtain ⟨q, R1, e1, e2, e3⟩ := hk r R h
    obtain ⟨L, g1, g2⟩ := hm.reg q R1 e2
    refine ⟨L, by simp [e1, g1], ?_⟩
    exact RegOK_ren.1 (Reg.sub_ok e3 hz g2)
  · obtain ⟨q, R1, e1, e2, _⟩ := hk r R h1
    obtain ⟨q', R2, e3, e4, _⟩ := hk r' R' h2
    simp only [e1, Option.getD_some] at h3
    simp only [e3, Option.getD_some] at h4
    have := hm.inj q q' R1 R2 L L' b e2 e4 h3 h4 h5 h6
    subst this
    obtain ⟨l1, l2⟩ := List.getElem?_eq_some_iff.1 e1
    obtain ⟨l3, l4⟩ := List.getElem?_eq_some_iff.1 e3
    exact nodup_inj hnd l1 l3 (l2.trans l4.symm)
  · obtain ⟨q, R1, e1, e2, _⟩ := hk r R h1
    simp only [e1, Option.getD_some] at h2
    exact hm.own q R1 L b e2 h2 h3

def keepsL : Nat → Nat → List Nat → Prop
  | 0, _, _ => True
  | np + 1, i, q :: l => q = i ∧ keepsL np (i + 1) l
  | _ + 1, _, [] => False
theorem keepsL_get : ∀ {np i : Nat} {l : List Nat}, keepsL np i l → ∀ j, j < np → l[j]? = some (i + j)
  | 0, _, _, _, j, hj => by omega
  | np + 1, i, q :: l, h, 0, _ => by simp [h.1]
  | np + 1, i, q :: l, h, j + 1, hj => by
    have := keepsL_get h.2 j (by omega)
    simp [this]; omega
  | _ + 1, _, [], h, _, _ => h.elim
theorem ownS_of_GC (hT : TabOK P T) {f : FuncId} {fn : Func} (hf : P.funcs[f]? = some fn) {c : Code} (hb : fn.body = some c) (hn : (fn.name == "runtime.NumGoroutine") = false) {args : List SV} (hlen : args.length ≤ fn.ntmps) {Rs Rs' : List Reg} {S : SV}
    {N : Nat} {rs : List ResultVar} (hN : fn.ntmps = N) (hrs : fn.results.toList = rs) (np : Nat) (hnp : np ≤ Rs.length) (h : GC P T ⟨N, np⟩ c [] (gret T rs fun s M => ∃ ρl, keepsL np 0 ρl ∧ gexp M s ρl S Rs') (env0 args) (memR Rs) Rs.length) : OwnS P np f Rs args S Rs' := by
  subst hN; subst hrs
  intro B σ w vs hm ha
  refine ⟨enter_run hf hb hn _, ?_⟩
  refine (calls_of_gexec hT hf hb hlen hnp hm ha h).mono fun e w' h' => ?_
  obtain ⟨s, y, σ', M', nx', rfl, ⟨ρl, hk, h1, h2⟩, hrel, hm', hfr, hpin⟩ := h'
  obtain ⟨h3, h4⟩ := h2 nx'
  obtain ⟨m1, m2⟩ := hm'.export (hm'.fresh nx' (Nat.le_refl nx')) h1 h4
  refine ⟨y, _, rfl, m1, SV.rel_mono (fun _ _ h => h) (fun b hb => ⟨m2 b hb, rfl⟩) _ _ ((SV.rel_ren _ _).1 (SV.sub_rel _ _ _ h3 hrel)), ⟨hfr.os, hfr.tape, hfr.output, hfr.size, hfr.block⟩, fun r hr => ?_⟩
  have := keepsL_get hk r hr
  simp only [this, Nat.zero_add, Option.getD_some]
  exact hpin r hr
theorem own_of_GC (hT : TabOK P T) {f : FuncId} {fn : Func} (hf : P.funcs[f]? = some fn) {c : Code} (hb : fn.body = some c) (hn : (fn.name == "runtime.NumGoroutine") = false) {args : List SV} (hlen : args.length ≤ fn.ntmps) {Rs Rs' : List Reg} {S : SV}
    {N : Nat} {rs : List ResultVar} (hN : fn.ntmps = N) (hrs : fn.results.toList = rs) (h : GC P T ⟨N, 0⟩ c [] (gret T rs fun s M => ∃ ρl, gexp M s ρl S Rs') (env0 args) (memR Rs) Rs.length) : Own P f Rs args S Rs' := by
  subst hN; subst hrs
  intro B σ w vs hm ha
  refine ⟨enter_run hf hb hn _, ?_⟩
  refine (calls_of_gexec hT hf hb hlen (Nat.zero_le _) hm ha h).mono fun e w' h' => ?_
  obtain ⟨s, y, σ', M', nx', rfl, ⟨ρl, h1, h2⟩, hrel, hm', hfr, hpin⟩ := h'
  obtain ⟨h3, h4⟩ := h2 nx'
  obtain ⟨m1, m2⟩ := hm'.export (hm'.fresh nx' (Nat.le_refl nx')) h1 h4
  exact ⟨y, _, rfl, m1, SV.rel_mono (fun _ _ h => h) (fun b hb => ⟨m2 b hb, rfl⟩) _ _ ((SV.rel_ren _ _).1 (SV.sub_rel _ _ _ h3 hrel)), ⟨hfr.os, hfr.tape, hfr.output, hfr.size, hfr.block⟩, fun r hr => absurd hr (Nat.not_lt_zero r)⟩

/-- The regions of the caller that are given up; the new ones. -/
def dropM : List Nat → Mem → Mem
  | [], M => M
  | q :: l, M => dropM l (upd M q none)
def addM : Nat → List Reg → (Nat → Nat) → Mem → Mem
  | _, [], _, M => M
  | nx, R :: l, ρ, M => addM (nx + 1) l ρ (upd M nx (some (R.ren ρ)))
theorem dropM_at : ∀ (l : List Nat) (M : Mem) (r : Nat), dropM l M r = if r ∈ l then none else M r
  | [], M, r => by simp [dropM]
  | q :: l, M, r => by
    simp only [dropM, dropM_at l, upd_app, List.mem_cons]
    by_cases h1 : r ∈ l <;> by_cases h2 : r = q <;> simp [h1, h2]
theorem addM_at (ρ : Nat → Nat) : ∀ (l : List Reg) (nx : Nat) (M : Mem) (r : Nat), addM nx l ρ M r = if nx ≤ r ∧ r < nx + l.length then (l[r - nx]?).map (Reg.ren ρ) else M r
  | [], nx, M, r => by simp [addM]; omega
  | R :: l, nx, M, r => by
    simp only [addM, addM_at ρ l, upd_app, List.length_cons]
    by_cases h1 : nx + 1 ≤ r ∧ r < nx + 1 + l.length
    · rw [if_pos h1, if_pos (by omega), show r - nx = (r - (nx + 1)) + 1 from by omega]
      simp
    · rw [if_neg h1]
      by_cases h2 : r = nx
      · subst h2; simp
      · rw [if_neg h2, if_neg (by omega)]
def atM (M : Mem) (ρ : Nat → Nat) : List Nat → List Reg → Prop
  | [], [] => True
  | q :: l, R :: Rs => M q = some (R.ren ρ) ∧ atM M ρ l Rs
  | _, _ => False
theorem atM_get {M : Mem} {ρ : Nat → Nat} : ∀ {ρl : List Nat} {Rs : List Reg}, atM M ρ ρl Rs → ρl.length = Rs.length ∧ ∀ (i : Nat) (R : Reg), Rs[i]? = some R → ∃ q, ρl[i]? = some q ∧ M q = some (R.ren ρ)
  | [], [], _ => ⟨rfl, by simp⟩
  | [], _ :: _, h => h.elim
  | _ :: _, [], h => h.elim
  | q :: l, R :: Rs, h => by
    obtain ⟨h1, h2⟩ := atM_get h.2
    refine ⟨by simp [h1], fun i R' hi => ?_⟩
    cases i with
    | zero => simp at hi; subst hi; exact ⟨q, by simp, h.1⟩
    | succ i => simpa using h2 i R' (by simpa using hi)

/-- The regions that come back: the first ones where they were, the others new. -/
def addS (ρ : Nat → Nat) : Nat → List Reg → Mem → Mem
  | _, [], M => M
  | i, R :: l, M => addS ρ (i + 1) l (upd M (ρ i) (some (R.ren ρ)))
theorem addS_get (ρ : Nat → Nat) : ∀ (l : List Reg) (i : Nat) (M : Mem) (r : Nat) (R : Reg), addS ρ i l M r = some R →
    (∃ j R', l[j]? = some R' ∧ r = ρ (i + j) ∧ R = R'.ren ρ) ∨ (M r = some R ∧ ∀ j, j < l.length → r ≠ ρ (i + j))
  | [], i, M, r, R, h => .inr ⟨h, by simp⟩
  | R0 :: l, i, M, r, R, h => by
    rcases addS_get ρ l (i + 1) _ r R h with ⟨j, R', h1, h2, h3⟩ | ⟨h1, h2⟩
    · exact .inl ⟨j + 1, R', by simpa using h1, by rw [h2]; congr 1; omega, h3⟩
    · by_cases hr : r = ρ i
      · subst hr
        rw [upd_same] at h1; cases h1
        exact .inl ⟨0, R0, by simp, by simp, rfl⟩
      · rw [upd_ne _ _ hr] at h1
        refine .inr ⟨h1, fun j hj => ?_⟩
        cases j with
        | zero => simpa using hr
        | succ j =>
          have := h2 j (by simpa using hj)
          rwa [show i + (j + 1) = i + 1 + j from by omega]
/-- The callee's numbers of regions, in the caller's. -/
def renS (cp nx : Nat) (ρl : List Nat) (i : Nat) : Nat := if i < cp then (ρl[i]?).getD nx else nx + i

/-- A call under such a contract. -/
theorem callK_ownS {np cp : Nat} {f : FuncId} {Rs Rs' : List Reg} {args0 args : List SV} {S : SV} {M : Mem} {nx : Nat} {K : SV → Mem → Nat → (SV → SV) → Prop} (ρl : List Nat) (hp : OwnS P cp f Rs args0 S Rs') (hcp : cp ≤ Rs.length) (hnd : ρl.Nodup)
    (ha : args = SV.renL (fun i => (ρl[i]?).getD nx) args0) (hM : atM M (fun i => (ρl[i]?).getD nx) ρl Rs)
    (hK : K (S.ren (renS cp nx ρl)) (addS (renS cp nx ρl) 0 Rs' (dropM ρl M)) (nx + Rs'.length) id) : CallK P np f args M nx K := by
  intro B W n0 σ w vs hm hn0 hnp hrel
  obtain ⟨hlen, hget⟩ := atM_get hM
  have hget' : ∀ (i : Nat) (R : Reg), memR Rs i = some R → ∃ q, ρl[i]? = some q ∧ M q = some (R.ren fun i => (ρl[i]?).getD nx) := fun i R h => hget i R (by rw [← memR_get]; exact h)
  let σ1 : Sig := fun i => σ ((ρl[i]?).getD nx)
  have hσ1 : ∀ i q, ρl[i]? = some q → σ1 i = σ q := fun i q h => by simp [σ1, h]
  have hW : ∀ b, Wof σ1 (memR Rs) b → ∃ q R L, q ∈ ρl ∧ M q = some R ∧ σ q = some L ∧ L.at_ = some b := by
    rintro b ⟨r, R, L, h1, h2, h3⟩
    obtain ⟨q, e1, e2⟩ := hget' r R h1
    rw [hσ1 r q e1] at h2
    exact ⟨q, _, L, List.mem_of_getElem? e1, e2, h2, h3⟩
  have hW' : ∀ q R L b, q ∈ ρl → M q = some R → σ q = some L → L.at_ = some b → Wof σ1 (memR Rs) b := by
    intro q R L b h1 h2 h3 h4
    obtain ⟨i, hi, rfl⟩ := List.getElem_of_mem h1
    have e0 : ρl[i]? = some ρl[i] := List.getElem?_eq_getElem hi
    exact ⟨i, Rs[i]'(by omega), L, by rw [memR_get]; exact List.getElem?_eq_getElem (by omega), by rw [hσ1 i _ e0]; exact h3, h4⟩
  let B1 : Nat → Prop := fun b => Zof B σ M w b ∨ Wof σ1 (memR Rs) b ∨ w.heap.size ≤ b
  have hz1 : ∀ b, Zof B σ M w b → Zof B1 σ1 (memR Rs) w b := fun b hb => ⟨⟨hb.1.1, .inl hb⟩, fun r R L h1 h2 h3 => by
    obtain ⟨q, e1, e2⟩ := hget' r R h1
    rw [hσ1 r q e1] at h2
    exact hb.2 q _ L e2 h2 h3⟩
  have hm1 : MOK B1 (Wof σ1 (memR Rs)) w.heap.size σ1 (memR Rs) (From Rs.length) w := by
    refine ⟨fun b hb => .inr (hb.symm), fun r hr => ?_, fun r R h => ?_, fun r r' R R' L L' b h1 h2 h3 h4 h5 h6 => ?_, fun r R L b h1 h2 h3 => .inl ⟨r, R, L, h1, h2, h3⟩⟩
    · have : ρl[r]? = none := List.getElem?_eq_none (by have : Rs.length ≤ r := hr; omega)
      simp [σ1, this, hm.fresh nx (Nat.le_refl nx)]
    · obtain ⟨q, e1, e2⟩ := hget' r R h
      obtain ⟨L, g1, g2⟩ := hm.reg q _ e2
      refine ⟨L, by rw [hσ1 r q e1]; exact g1, ?_⟩
      exact (RegOK_ren.1 g2).mono (fun _ _ h => h) (fun b hb => ⟨hz1 b hb, rfl⟩) (fun _ _ => rfl)
    · obtain ⟨q, e1, e2⟩ := hget' r R h1
      obtain ⟨q', e3, e4⟩ := hget' r' R' h2
      rw [hσ1 r q e1] at h3
      rw [hσ1 r' q' e3] at h4
      have := hm.inj q q' _ _ L L' b e2 e4 h3 h4 h5 h6
      subst this
      obtain ⟨l1, l2⟩ := List.getElem?_eq_some_iff.1 e1
      obtain ⟨l3, l4⟩ := List.getElem?_eq_some_iff.1 e3
      exact nodup_inj hnd l1 l3 (l2.trans l4.symm)
  have ha1 : SV.relL σ1 (Zof B1 σ1 (memR Rs) w) w args0 vs := by
    rw [ha] at hrel
    exact SV.relL_mono (fun _ _ h => h) (fun b hb => ⟨hz1 b hb, rfl⟩) _ _ ((SV.relL_ren _ _).1 hrel)
  obtain ⟨c1, c2⟩ := hp B1 σ1 w vs hm1 ha1
  refine .inl ⟨c1, c2.mono fun e w' h' => ?_⟩
  obtain ⟨y, σ', rfl, hm', hr, hf, hpin⟩ := h'
  have hBW : ∀ b, Wof σ1 (memR Rs) b → W b ∨ n0 ≤ b := fun b hb => by
    obtain ⟨q, R, L, h1, h2, h3, h4⟩ := hW b hb
    exact hm.own q R L b h2 h3 h4
  have hB : ∀ b, B1 b → B b := fun b hb => by
    rcases hb with hb | hb | hb
    · exact hb.1.2
    · exact hm.newB b (hBW b hb).symm
    · exact hm.newB b (.inl (by omega))
  let ρ : Nat → Nat := renS cp nx ρl
  let σ2 : Sig := fun r => if nx ≤ r then σ' (r - nx) else σ r
  let M2 : Mem := addS ρ 0 Rs' (dropM ρl M)
  have hltσ : ∀ r L, σ r = some L → r < nx := fun r L h => by
    rcases Nat.lt_or_ge r nx with h1 | h1
    · exact h1
    · rw [hm.fresh r h1] at h; cases h
  have hσ2' : ∀ i, σ2 (ρ i) = σ' i := by
    intro i
    show σ2 (renS cp nx ρl i) = _
    unfold renS
    by_cases hi : i < cp
    · rw [if_pos hi, hpin i hi]
      have hil : i < ρl.length := by omega
      have e0 : ρl[i]? = some ρl[i] := List.getElem?_eq_getElem hil
      rw [e0]
      have hR : memR Rs i = some (Rs[i]'(by omega)) := by rw [memR_get]; exact List.getElem?_eq_getElem (by omega)
      obtain ⟨q, e1, e2⟩ := hget' i _ hR
      rw [e0] at e1; cases e1
      obtain ⟨L, g1, _⟩ := hm.reg _ _ e2
      have hlt := hltσ _ _ g1
      simp only [Option.getD_some]
      rw [hσ1 i _ e0]
      exact if_neg (by omega)
    · rw [if_neg hi]
      simp [σ2]
  have hσ2 : (fun i => σ2 (ρ i)) = σ' := by
    funext i; exact hσ2' i
  have hs2 : SigLe σ σ2 := fun r L h => by
    show (if nx ≤ r then _ else _) = _
    rw [if_neg]
    · exact h
    · intro hr
      rw [hm.fresh r hr] at h; cases h
  -- what a region is now: one of those that came back, or one of the old ones that were not given up
  have hk2 : ∀ r R, M2 r = some R → (∃ i R', r = ρ i ∧ memR Rs' i = some R' ∧ R = R'.ren ρ) ∨ (r ∉ ρl ∧ M r = some R ∧ r < nx) := by
    intro r R h
    rcases addS_get ρ Rs' 0 _ r R h with ⟨j, R', h1, h2, h3⟩ | ⟨h1, h2⟩
    · exact .inl ⟨j, R', by simpa using h2, by rw [memR_get]; exact h1, h3⟩
    · rw [dropM_at] at h1
      split at h1
      · cases h1
      · rename_i hr
        obtain ⟨L, g1, _⟩ := hm.reg r R h1
        exact .inr ⟨hr, h1, hltσ r L g1⟩
  have holdW : ∀ r R L b, r ∉ ρl → M r = some R → σ r = some L → L.at_ = some b → b < w.heap.size ∧ ¬ Wof σ1 (memR Rs) b := by
    intro r R L b h1 h2 h3 h4
    obtain ⟨L', g1, g2⟩ := hm.reg r R h2
    rw [h3] at g1; cases g1
    refine ⟨g2.block h4, fun hb => ?_⟩
    obtain ⟨q, R1, L1, q1, q2, q3, q4⟩ := hW b hb
    exact h1 (by rw [hm.inj r q R R1 L L1 b h2 q2 h3 q3 h4 q4]; exact q1)
  have hnew : ∀ i R L b, memR Rs' i = some R → σ' i = some L → L.at_ = some b → Wof σ1 (memR Rs) b ∨ w.heap.size ≤ b := fun i R L b h1 h2 h3 => hm'.own i R L b h1 h2 h3
  have hZW : ∀ b, Zof B σ M w b → ¬ Wof σ1 (memR Rs) b := fun b hb h => by
    obtain ⟨q, R1, L1, q1, q2, q3, q4⟩ := hW b h
    exact hb.2 q R1 L1 q2 q3 q4
  have hz2 : ∀ b, Zof B σ M w b → Zof B σ2 M2 w' b := fun b hb => ⟨⟨Nat.lt_of_lt_of_le hb.1.1 hf.size, hb.1.2⟩, fun r R L h1 h2 h3 => by
    rcases hk2 r R h1 with ⟨i, R', rfl, e1, _⟩ | ⟨e1, e2, e3⟩
    · rw [hσ2' i] at h2
      rcases hnew i R' L b e1 h2 h3 with h | h
      · exact hZW b hb h
      · have := hb.1.1; omega
    · have : σ2 r = σ r := if_neg (by omega)
      rw [this] at h2
      exact hb.2 r R L e2 h2 h3⟩
  have hkeep : Keep (Zof B σ M w) (Zof B σ2 M2 w') w w' := fun b hb => ⟨hz2 b hb, hf.block b hb.1.1 (hZW b hb)⟩
  have hz3 : ∀ b, Zof B1 σ' (memR Rs') w' b → Zof B σ2 M2 w' b := fun b hb => ⟨⟨hb.1.1, hB b hb.1.2⟩, fun r R L h1 h2 h3 => by
    rcases hk2 r R h1 with ⟨i, R', rfl, e1, _⟩ | ⟨e1, e2, e3⟩
    · rw [hσ2' i] at h2
      exact hb.2 i R' L e1 h2 h3
    · have : σ2 r = σ r := if_neg (by omega)
      rw [this] at h2
      obtain ⟨g1, g2⟩ := holdW r R L b e1 e2 h2 h3
      rcases hb.1.2 with h | h | h
      · exact h.2 r R L e2 h2 h3
      · exact g2 h
      · omega⟩
  refine ⟨y, S.ren ρ, M2, nx + Rs'.length, σ2, id, rfl, hK, ⟨hm.newB, fun r hr => ?_, fun r R h => ?_, fun r r' R R' L L' b h1 h2 h3 h4 h5 h6 => ?_, fun r R L b h1 h2 h3 => ?_⟩, hkeep, ?_, fun t z hz => SV.rel_mono hs2 hkeep _ _ hz, ⟨hf.os, hf.tape, hf.output, hf.size, fun b hb hw => hf.block b (by omega) fun h => ?_⟩, by omega, fun r hr => if_neg (by omega)⟩
  · have hr' : nx + Rs'.length ≤ r := hr
    show (if nx ≤ r then _ else _) = _
    rw [if_pos (by omega)]
    exact hm'.fresh (r - nx) (show Rs'.length ≤ r - nx by omega)
  · rcases hk2 r R h with ⟨i, R', rfl, e1, rfl⟩ | ⟨e1, e2, e3⟩
    · obtain ⟨L, g1, g2⟩ := hm'.reg i R' e1
      refine ⟨L, by rw [hσ2' i]; exact g1, ?_⟩
      refine RegOK_ren.2 ?_
      rw [hσ2]
      exact g2.mono (fun _ _ h => h) (fun b hb => ⟨hz3 b hb, rfl⟩) (fun _ _ => rfl)
    · obtain ⟨L, g1, g2⟩ := hm.reg r R e2
      refine ⟨L, hs2 _ _ g1, g2.mono hs2 hkeep fun b hb => ?_⟩
      obtain ⟨q1, q2⟩ := holdW r R L b e1 e2 g1 hb
      exact hf.block b q1 q2
  · rcases hk2 r R h1 with ⟨i, R1, rfl, e1, _⟩ | ⟨e1, e2, e3⟩
    · have g3 : σ' i = some L := by rw [← hσ2' i]; exact h3
      rcases hk2 r' R' h2 with ⟨i', R2, rfl, e1', _⟩ | ⟨e1', e2', e3'⟩
      · have g4 : σ' i' = some L' := by rw [← hσ2' i']; exact h4
        rw [hm'.inj i i' R1 R2 L L' b e1 e1' g3 g4 h5 h6]
      · exfalso
        have : σ2 r' = σ r' := if_neg (by omega)
        rw [this] at h4
        obtain ⟨q1, q2⟩ := holdW r' R' L' b e1' e2' h4 h6
        rcases hnew i R1 L b e1 g3 h5 with h | h
        · exact q2 h
        · omega
    · have g3 : σ r = some L := by
        have : σ2 r = σ r := if_neg (by omega)
        rw [← this]; exact h3
      rcases hk2 r' R' h2 with ⟨i', R2, rfl, e1', _⟩ | ⟨e1', e2', e3'⟩
      · exfalso
        have g4 : σ' i' = some L' := by rw [← hσ2' i']; exact h4
        obtain ⟨q1, q2⟩ := holdW r R L b e1 e2 g3 h5
        rcases hnew i' R2 L' b e1' g4 h6 with h | h
        · exact q2 h
        · omega
      · have : σ2 r' = σ r' := if_neg (by omega)
        rw [this] at h4
        exact hm.inj r r' R R' L L' b e2 e2' g3 h4 h5 h6
  · rcases hk2 r R h1 with ⟨i, R1, rfl, e1, _⟩ | ⟨e1, e2, e3⟩
    · have g3 : σ' i = some L := by rw [← hσ2' i]; exact h2
      rcases hnew i R1 L b e1 g3 h3 with h | h
      · exact hBW b h
      · right; omega
    · have : σ2 r = σ r := if_neg (by omega)
      rw [this] at h2
      exact hm.own r R L b e2 h2 h3
  · refine (SV.rel_ren _ _).2 ?_
    rw [hσ2]
    exact SV.rel_mono (fun _ _ h => h) (fun b hb => ⟨hz3 b hb, rfl⟩) _ _ hr
  · rcases hBW b h with h | h
    · exact hw h
    · omega
theorem callK_own {np : Nat} {f : FuncId} {Rs Rs' : List Reg} {args0 args : List SV} {S : SV} {M : Mem} {nx : Nat} {K : SV → Mem → Nat → (SV → SV) → Prop} (ρl : List Nat) (hp : Own P f Rs args0 S Rs') (hnd : ρl.Nodup)
    (ha : args = SV.renL (fun i => (ρl[i]?).getD nx) args0) (hM : atM M (fun i => (ρl[i]?).getD nx) ρl Rs)
    (hK : K (S.ren fun i => nx + i) (addS (fun i => nx + i) 0 Rs' (dropM ρl M)) (nx + Rs'.length) id) : CallK P np f args M nx K :=
  callK_ownS (cp := 0) ρl hp (Nat.zero_le _) hnd ha hM (by
    have : renS 0 nx ρl = fun i => nx + i := by funext i; simp [renS]
    rw [this]; exact hK)

/-- Less is known of the memory, ahead of a call. -/
theorem callK_less {np : Nat} {f : FuncId} {args : List SV} {M M' : Mem} {nx : Nat} {K : SV → Mem → Nat → (SV → SV) → Prop} (hs : ∀ r, Reg.sub (M r) (M' r)) (h : CallK P np f args M' nx K) : CallK P np f args M nx K := by
  intro B W n0 σ w vs hm hn hl ha
  obtain ⟨m1, m2⟩ := hm.sub hs
  have ha' := SV.relL_mono (σ := σ) (σ' := σ) (w := w) (w' := w) (fun _ _ h => h) (fun b hb => ⟨m2 b hb, rfl⟩) args vs ha
  have conv : ∀ e w', CallPost np B W n0 σ M' w K e w' → CallPost np B W n0 σ M w K e w' := by
    rintro e w' ⟨y, s, M1, nx', σ', up, rfl, p1, p2, p3, p4, p5, p6⟩
    exact ⟨y, s, M1, nx', σ', up, rfl, p1, p2, fun b hb => p3 b (m2 b hb), p4, fun t z hz' => p5 _ _ (SV.rel_mono (fun _ _ h => h) (fun b hb => ⟨m2 b hb, rfl⟩) _ _ hz'), p6⟩
  rcases h B W n0 σ w vs m1 hn hl ha' with ⟨c1, c2⟩ | ⟨y, w', c1, c2⟩
  · exact .inl ⟨c1, c2.mono fun e w' hp => conv e w' hp⟩
  · exact .inr ⟨y, w', c1, conv _ _ c2⟩
end
attribute [go_sem] SV.ren SV.renL Reg.ren gexpR dropM addM addS atM renS keepsL
end Go.Gx
/-
  Contracts with memory of the caller's own: what is nil comes back as an empty region; calls that hand back a new region inside of an open order.
-/
set_option linter.unusedVariables false
set_option linter.unusedSimpArgs false
namespace Go.Gx
open Go.RowKit

section
variable {P : Program} {T : Tab}
theorem own_of_GC0 (hT : TabOK P T) {f : FuncId} {fn : Func} (hf : P.funcs[f]? = some fn) {c : Code} (hb : fn.body = some c) (hn : (fn.name == "runtime.NumGoroutine") = false) {args : List SV} (hlen : args.length ≤ fn.ntmps) {Rs Rs' : List Reg} {S : SV}
    {N : Nat} {rs : List ResultVar} (hN : fn.ntmps = N) (hrs : fn.results.toList = rs)
    (h : GC P T ⟨N, 0⟩ c [] (gret T rs fun s M => (∃ ρl, gexp M s ρl S Rs') ∨ (s = .r (.v (.slice none 0 0)) ∧ ∃ e k get, S = .sl 0 k 0 0 none ∧ Rs' = [.vec e k 0 get])) (env0 args) (memR Rs) Rs.length) : Own P f Rs args S Rs' := by
  subst hN; subst hrs
  intro B σ w vs hm ha
  refine ⟨enter_run hf hb hn _, ?_⟩
  refine (calls_of_gexec hT hf hb hlen (Nat.zero_le _) hm ha h).mono fun e w' h' => ?_
  obtain ⟨s, y, σ', M', nx', rfl, h', hrel, hm', hfr, _⟩ := h'
  rcases h' with ⟨ρl, h1, h2⟩ | ⟨rfl, e, k, get, rfl, rfl⟩
  · obtain ⟨h3, h4⟩ := h2 nx'
    obtain ⟨m1, m2⟩ := hm'.export (hm'.fresh nx' (Nat.le_refl nx')) h1 h4
    exact ⟨y, _, rfl, m1, SV.rel_mono (fun _ _ h => h) (fun b hb => ⟨m2 b hb, rfl⟩) _ _ ((SV.rel_ren _ _).1 (SV.sub_rel _ _ _ h3 hrel)), ⟨hfr.os, hfr.tape, hfr.output, hfr.size, hfr.block⟩, fun r hr => absurd hr (Nat.not_lt_zero r)⟩
  · have hy : y = .slice none 0 0 := hrel
    subst hy
    refine ⟨_, fun r => if r = 0 then some ⟨none, 0⟩ else none, rfl, ⟨hm'.newB, fun r hr => if_neg (by have : 1 ≤ r := hr; omega), fun r R hR => ?_, fun r r' R R' L L' b h1 h2 h3 h4 h5 h6 => ?_, fun r R L b h1 h2 h3 => ?_⟩, ?_, ⟨hfr.os, hfr.tape, hfr.output, hfr.size, hfr.block⟩, fun r hr => absurd hr (Nat.not_lt_zero r)⟩
    · rw [memR_get] at hR
      cases r with
      | zero => simp at hR; subst hR; exact ⟨_, if_pos rfl, Nat.le_refl _, by simp [maxLen], .inl ⟨rfl, rfl⟩⟩
      | succ r => simp at hR
    · split at h3
      · cases h3; cases h5
      · cases h3
    · split at h2
      · cases h2; cases h3
      · cases h2
    · exact ⟨⟨none, 0⟩, none, if_pos rfl, rfl, by simp, by simp, by simp, fun _ => .inl rfl⟩
theorem dnew_own {f : FuncId} {args : List SV} {q k lo n N : Nat} {c : Option Nat} {e : TypeId} {g : Nat → Nat → RV} (h : Own P f [] args (.sl 0 k lo n c) [.vec e k N fun i j => .r (g i j)]) (hc : SV.closedL args = true) :
    DNew P q f args (.sl q k lo n c) (some (.vec e k N fun i j => .r (g i j))) := by
  refine ⟨e, k, N, g, lo, n, c, rfl, rfl, hc, fun B w vs hm ha => ?_⟩
  have hW : Wof (fun _ => none) (memR []) = fun _ => False := by
    funext b
    exact propext (Iff.intro (fun ⟨r, R, L, h1, h2⟩ => nomatch h1) False.elim)
  have := h B (fun _ => none) w vs (by rw [hW]; exact hm) ha
  rw [hW] at this
  exact ⟨this.1, this.2.mono fun e w' ⟨y, σ', h1, h2, h3, h4, _⟩ => ⟨y, σ', h1, h2, h3, h4⟩⟩
end
end Go.Gx
/-
  How much a slice of the caller's own can hold; slices that lie apart.
-/
set_option linter.unusedVariables false
set_option linter.unusedSimpArgs false
namespace Go.Gx
open Go.RowKit

def SV.capd (ref C : Nat) : SV → SV
  | .sl q k lo n none => if q = ref then .sl q k lo n (some (C - lo)) else .sl q k lo n none
  | s => s
section
variable {P : Program} {T : Tab} {B W F : Nat → Prop} {N : Cfg} {σ : Sig} {Z : Nat → Prop} {w : World} {k : List It} {Q : GQ} {E : Env} {M : Mem} {nx : Nat}
theorem SV.capd_rel {ref : Nat} {L : Loc} (h : σ ref = some L) {s : SV} {y : Value} (hr : s.rel σ Z w y) : (s.capd ref L.cap).rel σ Z w y := by
  cases s with
  | sl q k lo n c =>
    cases c with
    | none =>
      simp only [SV.capd]
      split
      · rename_i hq
        subst hq
        obtain ⟨L', A, h1, h2, h3, h4, h5, h6⟩ := hr
        rw [h] at h1; cases h1
        exact ⟨L, A, h, h2, h3, h4, h5, h6⟩
      · exact hr
    | some c => exact hr
  | _ => exact hr
theorem GOp_cap (hT : TabOK P T) {K : Env → Mem → Nat → Prop} {d : Option Tmp} {t ty : TypeId} {pos : String} {af : Array Edge} {ref kk n e kr Nr : Nat} {g : Nat → Nat → SV} {s : Operand}
    (hx : ev E s = .sl ref kk 0 n none) (hM : M ref = some (.vec e kr Nr g)) (ht : ((T.ti t).map (·.kind)).any (fun | .slice _ => true | _ => false) = true) (hd : dOK N.n d)
    (h : ∀ C : Nat, Nr ≤ C → n ≤ C → C ≤ maxLen → K (envPut (fun s => (E s).capd ref C) d (.i C)) M nx ∨ K (envPut E d (.i C)) (upd M ref (some (.vec e kr C fun i j => if i < Nr then g i j else .r .any))) nx) :
    GOpW P N ⟨d, .call ⟨.builtin .cap, #[s], #[t]⟩, ty, pos, af, none⟩ E M nx K := by
  intro B W w0 σ a w hs next Q' hK
  obtain ⟨el, hu⟩ := und_sliceK hT ht
  have hr := ev_rel hs.env s
  rw [hx] at hr
  obtain ⟨L, A, h1, h2, h3, h4, h5, h6⟩ := hr
  obtain ⟨L', g1, g2⟩ := hs.mem.reg ref _ hM
  rw [h1] at g1; cases g1
  have e1 : (execOp a.eval ⟨d, .call ⟨.builtin .cap, #[s], #[t]⟩, ty, pos, af, none⟩).run P w = .ok (.value (.int .i64 L.cap)) w := by
    simp [execOp, resolve, invoke, builtin, Builtin.cap_, h2, run_underlying hu]
    rfl
  unfold Oper.wp
  rw [e1]
  rcases h L.cap g2.1 (by simpa using h3) g2.2.1 with h | h
  · exact hK _ M nx σ _ w h (St.put ⟨fun t => SV.capd_rel h1 (hs.env t), hs.mem, hs.fr, hs.defers, hs.size, hs.low, hs.pin⟩ hd rfl)
  · obtain ⟨m1, m2⟩ := set_same (R' := .vec e kr L.cap fun i j => if i < Nr then g i j else .r .any) hs.mem hM (fun L' Z w' hL hR => by
      rw [h1] at hL; cases hL
      obtain ⟨q1, q2, q3 | ⟨b, cs, r1, r2, r3, r4, r5⟩⟩ := hR
      · exact ⟨Nat.le_refl _, q2, .inl q3⟩
      · refine ⟨Nat.le_refl _, q2, .inr ⟨b, cs, r1, r2, r3, r4, fun i j hi hj => ?_⟩⟩
        by_cases hN : i < Nr
        · simp only [if_pos hN]; exact r5 i j hN hj
        · simp only [if_neg hN]
          have hlt : i * kr + j < cs.length := by
            rw [r3]
            calc i * kr + j < i * kr + kr := by omega
              _ = (i + 1) * kr := by rw [Nat.add_mul, Nat.one_mul]
              _ ≤ L.cap * kr := Nat.mul_le_mul_right _ hi
          exact ⟨cs[i * kr + j], List.getElem?_eq_getElem hlt, r4 _ (List.getElem_mem hlt), trivial⟩)
    exact hK _ _ nx σ _ w h (St.put ⟨fun t => SV.rel_mono (fun _ _ h => h) m2 _ _ (hs.env t), m1, hs.fr, hs.defers, hs.size, hs.low, hs.pin⟩ hd rfl)

/-- The model's entry for slices.overlaps, at two regions. -/
theorem callK_apart {np : Nat} (hT : TabOK P T) {f : FuncId} {fn : Func} {tS tR : TypeId} (hf : P.funcs[f]? = some fn) (hname : (fn.name == "runtime.NumGoroutine") = false) (hb : fn.body.isNone = true) (hnx : Extern.findNext fn = none)
    (he : Extern.find fn = some (Extern.SlicesOverlaps.overlaps #[tS, tS] #[tR])) {el : TypeId} {ei : TI} (ht : (T.ti tS).map (·.kind) = some (.slice el)) (hei : T.ti el = some ei)
    {q r kq kr eq er Nq Nr lq lr nq nr : Nat} {cq cr : Option Nat} {gq gr : Nat → Nat → SV} (hq : M q = some (.vec eq kq Nq gq)) (hr : M r = some (.vec er kr Nr gr)) (hne : q ≠ r) (h0 : 0 < nq) (h1 : 0 < nr) (hk : 0 < kr) {K : SV → Mem → Nat → (SV → SV) → Prop} (hK : K (.b false) M nx id) :
    CallK P np f [.sl q kq lq nq cq, .sl r kr lr nr cr] M nx K := by
  intro B W n0 σ w vs hm hn0 hl ha
  obtain ⟨y, _, rfl, ha1, y', _, rfl, ha2, rfl⟩ := ha
  obtain ⟨L1, A1, a1, rfl, a3, a4, a5, a6⟩ := ha1
  obtain ⟨L2, A2, b1, rfl, b3, b4, b5, b6⟩ := ha2
  obtain ⟨bq, c1, rfl⟩ := a5 (by omega)
  obtain ⟨br, c2, rfl⟩ := b5 (by omega)
  obtain ⟨L1', d1, d2⟩ := hm.reg q _ hq
  rw [a1] at d1; cases d1
  obtain ⟨L2', d3, d4⟩ := hm.reg r _ hr
  rw [b1] at d3; cases d3
  have hbb : bq ≠ br := fun e => hne (hm.inj q r _ _ _ _ bq hq hr a1 b1 c1 (by rw [c2, e]))
  obtain ⟨_, _, d | ⟨b', cs, f1, f2, f3, _⟩⟩ := d2
  · rw [c1] at d; cases d.1
  rw [c1] at f1; cases f1
  obtain ⟨_, _, d | ⟨b', cs', f4, f5, f6, _⟩⟩ := d4
  · rw [c2] at d; cases d.1
  rw [c2] at f4; cases f4
  have hu : P.underlying tS = some (.slice el) := by
    cases hti : T.ti tS with
    | none => rw [hti] at ht; cases ht
    | some i =>
      rw [hti] at ht
      exact und_slice (hT.ti _ _ hti) (by simpa using ht)
  have hpos : 0 < L2.cap * kr := Nat.mul_pos (by omega) hk
  refine .inr ⟨.bool false, w, ?_, .bool false, .b false, M, nx, σ, id, rfl, hK, hm, fun b hb => ⟨hb, rfl⟩, rfl, fun _ _ h => h, FrS.refl _ _ _, hl, fun _ _ => rfl⟩
  · rw [run_callFunc_extern hf hname hb hnx he,
      Lib.run_overlaps_apart w tS tR el hu ei.size (fun w => run_size (hT.ti _ _ hei) w) ⟨bq, lq * kq, none⟩ ⟨br, lr * kr, none⟩ nq _ nr _ hbb eq er (L1.cap * kq) (L2.cap * kr)
        (by simp [World.shape?, f2, f3]) (by simp [World.shape?, f5, f6]) (by omega) (by simp [World.frozen?, f2]) (by simp [World.frozen?, f2])]
    rfl
end
attribute [go_sem] SV.capd
end Go.Gx
/-
  A call to which own memory is lent, and which hands back new memory.
-/
set_option linter.unusedVariables false
set_option linter.unusedSimpArgs false
namespace Go.Gx
open Go.RowKit

mutual
/-- Nothing read-only in it. -/
def SV.own : SV → Prop
  | .r x => x.flat = true
  | .ptr .. => True
  | .sl .. => True
  | .mp .. => True
  | .fn f a b => SV.ownL a ∧ SV.ownL b
  | .agg l => SV.ownL l
  | .tup l => SV.ownL l
def SV.ownL : List SV → Prop
  | [] => True
  | s :: l => s.own ∧ SV.ownL l
end
def Reg.own : Reg → Prop
  | .box l => SV.ownL l
  | .vec e k n g => ∀ i j, i < n → j < k → (g i j).own
  | .map has val st => ∀ a, has a = true → (val a).own
  | .iter m _ _ _ _ _ => m.own
def Reg.ownL : List Reg → Prop
  | [] => True
  | R :: l => R.own ∧ Reg.ownL l
theorem Reg.ownL_get : ∀ {l : List Reg} {i : Nat} {R : Reg}, Reg.ownL l → l[i]? = some R → R.own
  | [], i, R, _, h => by simp at h
  | R' :: l, 0, R, h, e => by simp at e; subst e; exact h.1
  | R' :: l, i + 1, R, h, e => Reg.ownL_get h.2 (by simpa using e)
section
variable {σ : Sig} {Z Z' : Nat → Prop} {w : World}
mutual
theorem SV.rel_own : ∀ (s : SV) (y : Value), s.own → s.rel σ Z w y → s.rel σ Z' w y
  | .r x, y, h, hr => RV.rel_flat h hr
  | .ptr .., y, h, hr => hr
  | .sl .., y, h, hr => hr
  | .mp .., y, h, hr => hr
  | .fn f a b, y, h, hr => by
    obtain ⟨vs, ws, e, h1, h2⟩ := hr
    exact ⟨vs, ws, e, SV.relL_own a vs h.1 h1, SV.relL_own b ws h.2 h2⟩
  | .agg l, y, h, hr => by
    obtain ⟨vs, e, h1, h2⟩ := hr
    exact ⟨vs, e, h1, SV.relL_own l vs h h2⟩
  | .tup l, y, h, hr => by
    obtain ⟨vs, e, h2⟩ := hr
    exact ⟨vs, e, SV.relL_own l vs h h2⟩
theorem SV.relL_own : ∀ (l : List SV) (ys : List Value), SV.ownL l → SV.relL σ Z w l ys → SV.relL σ Z' w l ys
  | [], ys, _, h => h
  | s :: l, ys, h, hr => by
    obtain ⟨v, vs', e, h1, h2⟩ := hr
    exact ⟨v, vs', e, SV.rel_own s v h.1 h1, SV.relL_own l vs' h.2 h2⟩
end
theorem RegOK_own {L : Loc} {R : Reg} (h : R.own) (hr : RegOK σ Z w L R) : RegOK σ Z' w L R := by
  cases R with
  | box l =>
    obtain ⟨b, cs, ty, h1, h2, h3, h4⟩ := hr
    exact ⟨b, cs, ty, h1, h2, h3, SV.relL_own l cs h h4⟩
  | vec e k n g =>
    obtain ⟨h0, hm, hr⟩ := hr
    refine ⟨h0, hm, hr.imp id fun ⟨b, cs, h1, h2, h3, ho, h5⟩ => ⟨b, cs, h1, h2, h3, ho, fun i j hi hj => ?_⟩⟩
    obtain ⟨v, v1, v0, v2⟩ := h5 i j hi hj
    exact ⟨v, v1, v0, SV.rel_own _ _ (h i j hi hj) v2⟩
  | map has val st =>
    obtain ⟨b, es, ck, h1, h2, h3, h4⟩ := hr
    exact ⟨b, es, ck, h1, h2, h3.mono fun a v ha hv => SV.rel_own _ _ (h a ha) hv, h4⟩
  | iter m f c all left la =>
    obtain ⟨b, mo, seen, sp, h1, h2, h3, h4, h5⟩ := hr
    exact ⟨b, mo, seen, sp, h1, h2, h3, SV.rel_own _ _ h h4, h5⟩
end

variable {P : Program}
theorem callK_lentOwn {np : Nat} {f : FuncId} {args : List SV} {S : SV} {Rs' : List Reg} {M : Mem} {nx : Nat} {K : SV → Mem → Nat → (SV → SV) → Prop} (hp : gviewL M args fun l => Own P f [] l S Rs') (hS : S.own) (hR : Reg.ownL Rs')
    (hK : K (S.ren fun i => nx + i) (addM nx Rs' (fun i => nx + i) M) (nx + Rs'.length) id) : CallK P np f args M nx K := by
  intro B W n0 σ w vs hm hn0 hl hrel
  have hlt : ∀ r R L b, M r = some R → σ r = some L → L.at_ = some b → b < w.heap.size := fun r R L b h1 h2 h3 => by
    obtain ⟨L', e1, e2⟩ := hm.reg r R h1
    rw [h2] at e1; cases e1
    exact e2.block h3
  obtain ⟨l, hown, hl⟩ := gviewL_rel' (Z' := fun b => b < w.heap.size) hm (fun b hb => hb.1.1) hlt args _ vs hp hrel
  have hW : Wof (fun _ => none) (memR []) = fun _ => False := by
    funext b
    exact propext (Iff.intro (fun ⟨r, R, L, h1, h2⟩ => nomatch h1) False.elim)
  have hm1 : MOK (fun _ => True) (Wof (fun _ => none) (memR [])) w.heap.size (fun _ => none) (memR []) (From ([] : List Reg).length) w :=
    ⟨fun b hb => trivial, fun _ _ => rfl, fun r R h => (by cases h), fun r r' R R' L L' b h => (by cases h), fun r R L b h => (by cases h)⟩
  obtain ⟨c1, c2⟩ := hown (fun _ => True) (fun _ => none) w vs hm1 (SV.relL_mono (fun _ _ h => h) (fun b hb => ⟨⟨⟨hb, trivial⟩, fun r R L h => (by cases h)⟩, rfl⟩) _ _ hl)
  refine .inl ⟨c1, c2.mono fun e w' h' => ?_⟩
  obtain ⟨y, σ', rfl, hm', hr, hf, _⟩ := h'
  rw [hW] at hm' hf
  have hsame : ∀ b, b < w.heap.size → w'.heap[b]? = w.heap[b]? := fun b hb => hf.block b hb (fun h => h)
  let σ2 : Sig := fun r => if nx ≤ r then σ' (r - nx) else σ r
  let M2 : Mem := addM nx Rs' (fun i => nx + i) M
  have hσ2 : (fun i => σ2 (nx + i)) = σ' := by
    funext i
    simp [σ2]
  have hs2 : SigLe σ σ2 := fun r L h => by
    show (if nx ≤ r then _ else _) = _
    rw [if_neg]
    · exact h
    · intro hr
      rw [hm.fresh r hr] at h; cases h
  have hltσ : ∀ r L, σ r = some L → r < nx := fun r L h => by
    rcases Nat.lt_or_ge r nx with h1 | h1
    · exact h1
    · rw [hm.fresh r h1] at h; cases h
  have hk2 : ∀ r R, M2 r = some R → (∃ i R', r = nx + i ∧ memR Rs' i = some R' ∧ R = R'.ren fun i => nx + i) ∨ (M r = some R ∧ r < nx) := by
    intro r R h
    have h : addM nx Rs' (fun i => nx + i) M r = some R := h
    rw [addM_at] at h
    split at h
    · rename_i hr
      left
      refine ⟨r - nx, ?_⟩
      cases hq : Rs'[r - nx]? with
      | none => rw [hq] at h; cases h
      | some R' => rw [hq] at h; cases h; exact ⟨R', by omega, by rw [memR_get]; exact hq, rfl⟩
    · obtain ⟨L, g1, _⟩ := hm.reg r R h
      exact .inr ⟨h, hltσ r L g1⟩
  have hnew : ∀ i R L b, memR Rs' i = some R → σ' i = some L → L.at_ = some b → w.heap.size ≤ b := fun i R L b h1 h2 h3 => (hm'.own i R L b h1 h2 h3).elim False.elim id
  have hz2 : ∀ b, Zof B σ M w b → Zof B σ2 M2 w' b := fun b hb => ⟨⟨Nat.lt_of_lt_of_le hb.1.1 hf.size, hb.1.2⟩, fun r R L h1 h2 h3 => by
    rcases hk2 r R h1 with ⟨i, R', rfl, e1, _⟩ | ⟨e2, e3⟩
    · have : σ' i = some L := by rw [← hσ2]; exact h2
      have := hnew i R' L b e1 this h3
      have := hb.1.1; omega
    · have : σ2 r = σ r := if_neg (by omega)
      rw [this] at h2
      exact hb.2 r R L e2 h2 h3⟩
  have hkeep : Keep (Zof B σ M w) (Zof B σ2 M2 w') w w' := fun b hb => ⟨hz2 b hb, hsame b hb.1.1⟩
  refine ⟨y, S.ren fun i => nx + i, M2, nx + Rs'.length, σ2, id, rfl, hK, ⟨hm.newB, fun r hr => ?_, fun r R h => ?_, fun r r' R R' L L' b h1 h2 h3 h4 h5 h6 => ?_, fun r R L b h1 h2 h3 => ?_⟩, hkeep, ?_, fun t z hz => SV.rel_mono hs2 hkeep _ _ hz, ⟨hf.os, hf.tape, hf.output, hf.size, fun b hb hw => hsame b (by omega)⟩, by omega, fun r hr => if_neg (by omega)⟩
  · have hr' : nx + Rs'.length ≤ r := hr
    show (if nx ≤ r then _ else _) = _
    rw [if_pos (by omega)]
    exact hm'.fresh (r - nx) (show Rs'.length ≤ r - nx by omega)
  · rcases hk2 r R h with ⟨i, R', rfl, e1, rfl⟩ | ⟨e2, e3⟩
    · obtain ⟨L, g1, g2⟩ := hm'.reg i R' e1
      refine ⟨L, by rw [← g1, ← hσ2], ?_⟩
      refine RegOK_ren.2 ?_
      rw [hσ2]
      exact RegOK_own (Reg.ownL_get hR (by rw [← memR_get]; exact e1)) g2
    · obtain ⟨L, g1, g2⟩ := hm.reg r R e2
      exact ⟨L, hs2 _ _ g1, g2.mono hs2 hkeep fun b hb => hsame b (hlt r R L b e2 g1 hb)⟩
  · rcases hk2 r R h1 with ⟨i, R1, rfl, e1, _⟩ | ⟨e2, e3⟩
    · have g3 : σ' i = some L := by rw [← hσ2]; exact h3
      rcases hk2 r' R' h2 with ⟨i', R2, rfl, e1', _⟩ | ⟨e2', e3'⟩
      · have g4 : σ' i' = some L' := by rw [← hσ2]; exact h4
        rw [hm'.inj i i' R1 R2 L L' b e1 e1' g3 g4 h5 h6]
      · exfalso
        have : σ2 r' = σ r' := if_neg (by omega)
        rw [this] at h4
        have q1 := hlt r' R' L' b e2' h4 h6
        have := hnew i R1 L b e1 g3 h5
        omega
    · have g3 : σ r = some L := by
        have : σ2 r = σ r := if_neg (by omega)
        rw [← this]; exact h3
      rcases hk2 r' R' h2 with ⟨i', R2, rfl, e1', _⟩ | ⟨e2', e3'⟩
      · exfalso
        have g4 : σ' i' = some L' := by rw [← hσ2]; exact h4
        have q1 := hlt r R L b e2 g3 h5
        have := hnew i' R2 L' b e1' g4 h6
        omega
      · have : σ2 r' = σ r' := if_neg (by omega)
        rw [this] at h4
        exact hm.inj r r' R R' L L' b e2 e2' g3 h4 h5 h6
  · rcases hk2 r R h1 with ⟨i, R1, rfl, e1, _⟩ | ⟨e2, e3⟩
    · have g3 : σ' i = some L := by rw [← hσ2]; exact h2
      have := hnew i R1 L b e1 g3 h3
      right; omega
    · have : σ2 r = σ r := if_neg (by omega)
      rw [this] at h2
      exact hm.own r R L b e2 h2 h3
  · refine (SV.rel_ren _ _).2 ?_
    rw [hσ2]
    exact SV.rel_own _ _ hS hr
attribute [go_sem] SV.own SV.ownL Reg.own Reg.ownL
end Go.Gx
