/-
  Contracts whose result is said with less.
-/
import Derived.Test.YtnajladibkpeaaaGreatK4
import Derived.ProofKit
import Derived.Deep.Slices
import Derived.Deep.Fields
import Derived.OpenShut
import Derived.Lib.Overlaps
import Derived.Maps.RangeRun
import Derived.ChangeKeysEq
set_option linter.unusedVariables false
set_option linter.unusedSimpArgs false
namespace Go.Gx
open Go.RowKit

theorem Pure.ofSub {P : Program} {f : FuncId} {args : List SV} {v : SV} (h : Pure P f args fun s => s.sub v) : Pure P f args (· = v) := by
  intro Z w vs hz ha
  obtain ⟨h1, h2⟩ := h Z w vs hz ha
  refine ⟨h1, h2.mono fun e w' h => ?_⟩
  obtain ⟨y, s, a, b, c, d⟩ := h
  exact ⟨y, v, a, rfl, SV.sub_rel _ _ _ b c, d⟩
section
variable {P : Program} {T : Tab} {N : Cfg} {k : List It} {Q : GQ} {E : Env} {M : Mem} {nx : Nat}
@[go_sem] theorem KC_up (all : Array Oper) (rest : List Oper) (d : Option Tmp) (s : SV) (M' : Mem) (nx' : Nat) (up : SV → SV) : KC P T N all rest k Q d E s M' nx' up = GO P T N all rest k Q (envPut (fun t => up (E t)) d s) M' nx' := (rfl)
theorem fzL_map (ref : Nat) (R : Reg) : ∀ l : List SV, SV.fzL ref R l = l.map (SV.fz ref R)
  | [] => rfl
  | s :: l => by simp [SV.fzL, fzL_map ref R l]
/-- A region that is made read-only ahead of a call. -/
theorem callK_freeze {np : Nat} (ref : Nat) {R : Reg} {f : FuncId} {args : List SV} {K : SV → Mem → Nat → (SV → SV) → Prop} (hM : M ref = some R)
    (h : CallK P np f (SV.fzL ref R args) (fzM ref R M) nx fun s M' nx' up => K s M' nx' fun t => up (t.fz ref R)) : CallK P np f args M nx K := by
  intro B W n0 σ w vs hm hn hl ha
  obtain ⟨m1, m2⟩ := hm.freeze hM
  have hz : Keep (Zof B σ M w) (Zof B σ (fzM ref R M) w) w w := fun b hb => by
    refine ⟨⟨hb.1, fun r R' L' h1 h2 h3 => ?_⟩, rfl⟩
    unfold fzM at h1
    split at h1
    · cases h1
    · cases hq : M r with
      | none => rw [hq] at h1; cases h1
      | some R1 => exact hb.2 r R1 L' hq h2 h3
  have ha' : SV.relL σ (Zof B σ (fzM ref R M) w) w (SV.fzL ref R args) vs := by
    have : ∀ (l : List SV) (ys : List Value), SV.relL σ (Zof B σ M w) w l ys → SV.relL σ (Zof B σ (fzM ref R M) w) w (SV.fzL ref R l) ys := by
      intro l
      induction l with
      | nil => exact fun ys h => h
      | cons s l ih =>
        rintro ys ⟨v, vs', e, h1, h2⟩
        exact ⟨v, vs', e, m2 s v h1, ih vs' h2⟩
    exact this _ _ ha
  have conv : ∀ e w', CallPost np B W n0 σ (fzM ref R M) w (fun s M' nx' up => K s M' nx' fun t => up (t.fz ref R)) e w' → CallPost np B W n0 σ M w K e w' := by
    rintro e w' ⟨y, s, M', nx', σ', up, rfl, p1, p2, p3, p4, p5, p6⟩
    exact ⟨y, s, M', nx', σ', _, rfl, p1, p2, fun b hb => ⟨(p3 b (hz b hb).1).1, (p3 b (hz b hb).1).2⟩, p4, fun t z hz' => p5 _ _ (m2 t z hz'), p6⟩
  rcases h B W n0 σ w vs m1 hn hl ha' with ⟨c1, c2⟩ | ⟨y, w', c1, c2⟩
  · exact .inl ⟨c1, c2.mono fun e w' hp => conv e w' hp⟩
  · exact .inr ⟨y, w', c1, conv _ _ c2⟩
end

/-- A list of naturals as rows. -/
abbrev natRow : Nat → Nat → RV := fun n _ => .i (n : Int)
abbrev natS (l : List Nat) : SV := .r (.rs 1 l.length (rowsL natRow l))
end Go.Gx
/-
  Arguments that can be read as data, as ghosts: what cells a value of plain data has.
-/
set_option linter.unusedVariables false
set_option linter.unusedSimpArgs false
namespace Go.Gx
open Go.RowKit Go.WideShapes Go.ChangeShapes Go.Deep

/-- The shape of a cell: a scalar, or a slice of rows of cells. -/
inductive CS where
  | sc (c : CK)
  | sl (k : Nat) (fs : Nat → CS)
def CK.okv : CK → Value → Prop
  | .int k, v => ∃ n, v = .int k n ∧ (Lit.int k n).wf = true
  | .bool, v => ∃ b, v = .bool b
def CSok (w : World) : CS → Value → Prop
  | .sc c, v => c.okv v
  | .sl k fs, v => ∃ A n c, v = .slice A n c ∧ n ≤ c ∧ c ≤ maxLen ∧ (0 < n → ∃ b o, A = some ⟨b, o, none⟩ ∧ b < w.heap.size ∧ ∀ i j, i < n → j < k → ∃ u, w.cell? ⟨b, o + (i * k + j), none⟩ = some u ∧ CSok w (fs j) u)
def CSokL (w : World) : List CS → List Value → Prop
  | [], vs => vs = []
  | s :: l, vs => ∃ v vs', vs = v :: vs' ∧ CSok w s v ∧ CSokL w l vs'

def flatL (f : TypeId → Option (List CS)) (P : Program) : List Field → Nat → Option (List CS)
  | [], _ => some []
  | fd :: fs, o => match f fd.type with
    | none => none
    | some l => if fd.offset = o ∧ P.cellsOf fd.type = l.length then (flatL f P fs (o + l.length)).map (l ++ ·) else none
def repC (l : List CS) : Nat → List CS
  | 0 => []
  | n + 1 => l ++ repC l n
def flatT (P : Program) : Nat → TypeId → Option (List CS)
  | 0, _ => none
  | n + 1, t => match P.underlying t with
    | some (.int k) => some [.sc (.int k)]
    | some .bool => some [.sc .bool]
    | some (.slice e) => match flatT P n e with
      | none => none
      | some l => if P.cellsOf e = l.length ∧ 0 < l.length then some [.sl l.length fun j => l.getD j (.sc .bool)] else none
    | some (.struct fa) => match flatL (flatT P n) P fa.toList 0 with
      | none => none
      | some l => if P.cellsOf t = l.length then some l else none
    | some (.array m e) => match flatT P n e with
      | none => none
      | some l => if P.cellsOf e = l.length ∧ P.cellsOf t = m * l.length then some (repC l m) else none
    | _ => none
theorem repC_length (l : List CS) : ∀ n, (repC l n).length = n * l.length
  | 0 => by simp [repC]
  | n + 1 => by simp [repC, repC_length l n, Nat.add_mul, Nat.add_comm]

section
variable {H : Type} {enc : TypeId × Value → H} {P : Program} {w : World} {base : Nat} {spare : Nat → Bool} {held : Bool}

theorem CSokL_append : ∀ {l l' : List CS} {xs ys : List Value}, CSokL w l xs → CSokL w l' ys → CSokL w (l ++ l') (xs ++ ys)
  | [], l', xs, ys, h, h' => by cases h; exact h'
  | s :: l, l', xs, ys, h, h' => by
    obtain ⟨v, vs, rfl, h1, h2⟩ := h
    exact ⟨v, vs ++ ys, rfl, h1, CSokL_append h2 h'⟩
theorem CSokL_get : ∀ {l : List CS} {vs : List Value}, CSokL w l vs → l.length = vs.length ∧ ∀ (j : Nat) (d : CS) (v : Value), vs[j]? = some v → CSok w (l.getD j d) v
  | [], vs, h => by cases h; exact ⟨rfl, by simp⟩
  | s :: l, vs, h => by
    obtain ⟨v, vs', rfl, h1, h2⟩ := h
    obtain ⟨e1, e2⟩ := CSokL_get h2
    refine ⟨by simp [e1], fun j d u hu => ?_⟩
    cases j with
    | zero => simp at hu; subst hu; exact h1
    | succ j => simpa using e2 j d u (by simpa using hu)

theorem flat_ok : ∀ (n : Nat) (t : TypeId) (l : List CS) (fuel : Nat) (cs : List Value) (x : DataW H × List MemPlace), flatT P n t = some l → DataW.trod enc P w base spare held fuel t cs = some x → CSokL w l cs := by
  intro n
  induction n with
  | zero => intro t l fuel cs x h; simp [flatT] at h
  | succ n ih =>
    intro t l fuel cs x hl h
    unfold flatT at hl
    split at hl
    · rename_i k hu
      cases hl
      obtain ⟨m, rfl, _, hw⟩ := DataW.trod_int hu h
      exact ⟨_, [], rfl, ⟨m, rfl, hw⟩, rfl⟩
    · rename_i hu
      cases hl
      obtain ⟨b, rfl, _⟩ := DataW.trod_bool hu h
      exact ⟨_, [], rfl, ⟨b, rfl⟩, rfl⟩
    · rename_i e hu
      split at hl
      · cases hl
      rename_i le hle
      split at hl
      · rename_i hc
        cases hl
        rcases open_slice hu h with ⟨rfl, _⟩ | ⟨a, len, cap, m, nn, D, Pl, rfl, hb, hlc, hcm, hm, hx, hi⟩
        · exact ⟨_, [], rfl, ⟨none, 0, 0, rfl, Nat.le_refl _, by simp [maxLen], by simp⟩, rfl⟩
        · refine ⟨_, [], rfl, ⟨some a, len, cap, rfl, hlc, hcm, fun h0 => ?_⟩, rfl⟩
          have hlm : len ≤ m := by rw [hm]; split <;> omega
          have cell : ∀ i, i < m → ∃ cs', CSokL w le cs' ∧ ∀ j, j < le.length → w.cell? (a.add (i * le.length + j)) = cs'[j]? := by
            intro i him
            obtain ⟨cs', hcs, ht⟩ := hi i him
            obtain ⟨_, hcl, hat⟩ := World.cells?_some hcs
            refine ⟨cs', ih e le nn cs' _ hle ht, fun j hj => ?_⟩
            rw [← Go.Deep.add_add, ← hc.1]
            exact hat j (by rw [hc.1]; exact hj)
          have sp : a.spot = none ∧ a.block < w.heap.size := by
            obtain ⟨cs', h1, h2⟩ := cell 0 (by omega)
            have e1 := (CSokL_get h1).1
            have h3 := h2 0 hc.2
            rw [List.getElem?_eq_getElem (by omega)] at h3
            have hs := World.cell?_spot h3
            have hs' : a.spot = none := by simpa [Addr.add] using hs
            refine ⟨hs', ?_⟩
            have hbl : (a.add (0 * le.length + 0)).block = a.block := by unfold Addr.add; split <;> rfl
            unfold World.cell? at h3
            rw [hbl] at h3
            rcases Nat.lt_or_ge a.block w.heap.size with hlt | hge
            · exact hlt
            · rw [Array.getElem?_eq_none hge] at h3
              simp at h3
          obtain ⟨b, o, s⟩ := a
          simp only at sp
          obtain ⟨rfl, hblk⟩ := sp
          refine ⟨b, o, rfl, hblk, fun i j hi' hj => ?_⟩
          obtain ⟨cs', h1, h2⟩ := cell i (by omega)
          obtain ⟨e1, e2⟩ := CSokL_get h1
          have h3 := h2 j hj
          rw [add_none, List.getElem?_eq_getElem (by omega)] at h3
          exact ⟨_, h3, e2 j _ _ (List.getElem?_eq_getElem (by omega))⟩
      · cases hl
    · rename_i fa hu
      split at hl
      · cases hl
      rename_i lf0 hl0
      split at hl
      rotate_left
      · cases hl
      rename_i hct
      cases hl
      obtain ⟨xs, m, rfl, _, hcl, hxl, hf⟩ := DataW.trod_struct hu h
      -- field by field
      have key : ∀ (fs : List Field) (o : Nat) (l' : List CS), flatL (flatT P n) P fs o = some l' → (∀ fd ∈ fs, ∃ y, DataW.trod enc P w base spare held m fd.type ((cs.drop fd.offset).take (P.cellsOf fd.type)) = some y) →
          CSokL w l' ((cs.drop o).take l'.length) := by
        intro fs
        induction fs with
        | nil =>
          intro o l' h1 _
          simp [flatL] at h1; subst h1
          simp [CSokL]
        | cons fd fs ihf =>
          intro o l' h1 h2
          simp only [flatL] at h1
          split at h1
          · cases h1
          rename_i lf hlf
          split at h1
          · rename_i hc
            obtain ⟨rfl, hc2⟩ := hc
            cases hq : flatL (flatT P n) P fs (fd.offset + lf.length) with
            | none => rw [hq] at h1; simp at h1
            | some lr =>
              rw [hq] at h1
              simp at h1
              subst h1
              obtain ⟨y, hy⟩ := h2 fd (by simp)
              have g1 := ih _ _ _ _ _ hlf hy
              have g2 := ihf _ _ hq fun fd' hfd' => h2 fd' (by simp [hfd'])
              rw [hc2] at g1
              have g3 := CSokL_append g1 g2
              rw [List.length_append, List.take_add, List.drop_drop]
              exact g3
          · cases h1
      have hlen : ∀ fd ∈ fa.toList, ∃ y, DataW.trod enc P w base spare held m fd.type ((cs.drop fd.offset).take (P.cellsOf fd.type)) = some y := by
        intro fd hfd
        obtain ⟨i, hi, rfl⟩ := List.getElem_of_mem hfd
        have hi' : i < fa.size := by simpa using hi
        have := hf i fa[i] (Array.getElem?_eq_getElem hi')
        rw [List.getElem?_eq_getElem (by omega)] at this
        exact ⟨_, by simpa using this⟩
      have := key fa.toList 0 l hl0 hlen
      simp only [List.drop_zero] at this
      rwa [List.take_of_length_le (by omega)] at this
    · rename_i m e hu
      split at hl
      · cases hl
      rename_i le hle
      split at hl
      rotate_left
      · cases hl
      rename_i hc
      cases hl
      obtain ⟨xs, q, rfl, _, hcl, hxl, hf⟩ := DataW.trod_array hu h
      have key : ∀ d k, k + d = m → CSokL w (repC le d) (cs.drop (k * le.length)) := by
        intro d
        induction d with
        | zero =>
          intro k hk
          rw [List.drop_of_length_le (by rw [hcl, hc.2]; exact Nat.mul_le_mul_right _ (by omega))]
          rfl
        | succ d ihd =>
          intro k hk
          have h1 := hf k (by omega)
          rw [List.getElem?_eq_getElem (by omega)] at h1
          have g1 := ih _ _ _ _ _ hle h1
          rw [hc.1] at g1
          have g2 := ihd (k + 1) (by omega)
          have g3 := CSokL_append g1 g2
          have e : cs.drop (k * le.length) = (cs.drop (k * le.length)).take le.length ++ cs.drop ((k + 1) * le.length) := by
            rw [show (k + 1) * le.length = k * le.length + le.length from by rw [Nat.add_mul]; omega, ← List.drop_drop, List.take_append_drop]
          rw [e]
          exact g3
      simpa using key m 0 (by omega)
    · cases hl
theorem open_flat {n : Nat} {t : TypeId} {l : List CS} {v : Value} {d : DataW H} {p : List MemPlace} (hf : flatT P n t = some l) (h : DataW.Trod enc P w base spare held t v d p) : CSokL w l v.cells.toList := by
  obtain ⟨fuel, hf'⟩ := h
  exact flat_ok n t l fuel _ _ hf hf'

/-! ### the frame of a law's row -/
theorem trodAll_stays (hl : laidOutB P = true) {W W' : World} {sp : Nat → Bool} (hb : Below W.heap.size W W') : ∀ (ts : List TypeId) (vs : List Value) (ds : List (DataW H)) (ps : List MemPlace),
    (∀ t ∈ ts, P.readableRec t = true ∧ t < P.types.size) → DataW.TrodAll enc P W 0 (fun _ => true) true ts vs ds ps → (∀ p ∈ ps, p.block < W.heap.size) → (∀ p ∈ ps, sp p.block = true) → DataW.TrodAll enc P W' 0 sp true ts vs ds ps
  | [], vs, ds, ps, _, h, _, _ => by
    obtain ⟨rfl, rfl, rfl⟩ := trodAll_nil h
    exact rfl
  | t :: ts, vs, ds, ps, hr, h, hlt, hsp => by
    obtain ⟨v, vs', d, ds', p, q, rfl, rfl, rfl, h1, h2⟩ := trodAll_cons h
    obtain ⟨r1, r2⟩ := hr t (by simp)
    exact ⟨p, q, WideElems.Trod_stays hl r1 r2 h1 (fun x hx => hb.same (hlt x (by simp [hx]))) (fun x hx => hsp x (by simp [hx])), trodAll_stays hl hb ts vs' ds' q (fun t' ht' => hr t' (by simp [ht'])) h2 (fun x hx => hlt x (by simp [hx])) (fun x hx => hsp x (by simp [hx])), rfl⟩

theorem post_law {f : Func} {s : ChangeSpec} {W W' : World} {args : Array Value} {ds : List (DataW H)} {p : List MemPlace} {ts : List TypeId} {tb : TypeId} (hl : laidOutB P = true) (hts : f.params.toList = ts) (hrec : ∀ t ∈ ts, P.readableRec t = true ∧ t < P.types.size)
    (hres : f.resultTypes = #[tb]) (htb : P.underlying tb = some .bool) (hv : s.vars = []) (hs : s.fn H (ds ++ []) = { results := [.lit (.bool true)], args := ds }) (hW : DataW.Whole enc P f.params.toList s.vars false W args.toList ds [] p) (hb : Below W.heap.size W W') :
    s.post enc P f false true false false W args (.bool true) W' := by
  have hlt : ∀ x ∈ p, x.block < W.heap.size := fun x hx => hW.lt x hx
  have hold : ∀ x ∈ p, (fun b => decide (b < W.heap.size)) x.block = true := fun x hx => by simpa using hlt x hx
  have hA : DataW.TrodAll enc P W 0 (fun _ => true) true ts args.toList ds p := by
    obtain ⟨p', q, h1, h2, h3, _, _⟩ := hW
    rw [hv] at h2
    obtain ⟨_, rfl⟩ := trodVars_none h2
    rw [hts] at h1
    simpa [h3] using h1
  have hargs : ∀ sp : Nat → Bool, (∀ x ∈ p, sp x.block = true) → DataW.TrodAll enc P W' 0 sp true f.params.toList args.toList (s.fn H (ds ++ [])).args p := fun sp hsp => by
    rw [hts, hs]
    exact trodAll_stays hl hb ts _ _ _ hrec hA hlt hsp
  have hvars : ∀ sp : Nat → Bool, DataW.TrodVars enc P W' sp s.vars (s.fn H (ds ++ [])).vars [] := fun sp => by
    rw [hv, hs]; rfl
  have hbool : ∀ (b : Nat) (sp : Nat → Bool) (hd : Bool), DataW.TrodAll enc P W' b sp hd f.resultTypes.toList ((Value.bool true).resultList f.resultTypes.size) (s.fn H (ds ++ [])).results [] := fun b sp hd => by
    rw [hres, hs]
    exact trodAll_mk1 ⟨1, by simp [DataW.trod, Value.cells, htb]⟩
  refine ⟨ds, [], p, [], p, [], hW, hbool _ _ _, hargs _ hold, hvars _, World.keptBut_mono (fun x hx => ⟨hx, by simpa using hx⟩) (hb.frame (· ∈ p)), fun _ => ?_⟩
  obtain ⟨_, _, _, _, _, hz, hn⟩ := hW
  refine ⟨ok_one hres rfl (by simp [Value.okWide, htb, Cell.okWide, Cell.ok]), _, _, ([] ++ p) ++ [], ⟨[] ++ p, [], trodAll_append (hargs _ (fun _ _ => rfl)) (hbool _ _ _), hvars _, rfl, ?_, ?_⟩, ?_⟩
  · intro b off hp
    have hin : MemPlace.cell b off ∈ p := by simpa using hp
    rw [hb.frozen (hlt _ hin)]
    exact hz b off hin
  · intro ha; cases ha
  · intro x hx _
    simpa using hx

theorem trodAll_len : ∀ {ts : List TypeId} {vs : List Value} {ds : List (DataW H)} {ps : List MemPlace}, DataW.TrodAll enc P w base spare held ts vs ds ps → ds.length = ts.length
  | [], vs, ds, ps, h => by
    obtain ⟨rfl, rfl, rfl⟩ := trodAll_nil h
    rfl
  | t :: ts, vs, ds, ps, h => by
    obtain ⟨v, vs', d, ds', p, q, rfl, rfl, rfl, h1, h2⟩ := trodAll_cons h
    simp [trodAll_len h2]
theorem law_contract {f : FuncId} {fn : Func} {s : ChangeSpec} {ts : List TypeId} {tb : TypeId} (hl : laidOutB P = true) (hts : fn.params.toList = ts) (hrec : ∀ t ∈ ts, P.readableRec t = true ∧ t < P.types.size)
    (hres : fn.resultTypes = #[tb]) (htb : P.underlying tb = some .bool) (hv : s.vars = []) (hs : ∀ ds : List (DataW H), ds.length = ts.length → s.fn H (ds ++ []) = { results := [.lit (.bool true)], args := ds })
    (K : ∀ (W : World) (vs : List Value), (∃ base, ∀ (j : Nat) t v, ts[j]? = some t → vs[j]? = some v → Value.okWide P W .any base t v) → (∃ ds p, DataW.TrodAll enc P W 0 (fun _ => true) true ts vs ds p) →
      ∃ l, SV.relL (fun _ => none) (fun b => b < W.heap.size) W l vs ∧ Pure P f l (· = .b true)) :
    ∀ (W : World) (base : Nat) (args : Array Value) (ds gs : List (DataW H)) (before : List MemPlace), (∀ (j : Nat) t v, fn.params[j]? = some t → args[j]? = some v → Value.okWide P W .any base t v) →
      DataW.Whole enc P fn.params.toList s.vars false W args.toList ds gs before → Calls P f args W fun e W' => ∃ v, e = .returned v ∧ s.post enc P fn false true false false W args v W' := by
  intro W base args ds gs before hval hW
  have hW0 := hW
  obtain ⟨p, q, hA, hV, rfl, hfz, hnd⟩ := hW
  rw [hv] at hV
  obtain ⟨rfl, rfl⟩ := trodVars_none hV
  rw [hts] at hA
  simp only [List.append_nil] at hW0
  obtain ⟨l, hrel, hp⟩ := K W args.toList ⟨base, fun j t v h1 h2 => hval j t v (by rw [← Array.getElem?_toList, hts]; exact h1) (by rw [← Array.getElem?_toList]; exact h2)⟩ ⟨ds, p, hA⟩
  obtain ⟨_, hc⟩ := hp (fun b => b < W.heap.size) W args.toList (fun b hb => hb) hrel
  refine hc.mono fun e W' h => ?_
  obtain ⟨y, s', rfl, rfl, hr, hf⟩ := h
  have hy : y = .bool true := hr
  subst hy
  exact ⟨_, rfl, post_law hl hts hrec hres htb hv (hs ds (trodAll_len hA)) hW0 ⟨hf.os, hf.tape, hf.output, hf.size, fun b hb => hf.block b hb fun h => h⟩⟩

/-! ### ghosts of what has been read -/
def vi : Value → Int
  | .int _ n => n
  | _ => 0
theorem ok_int {k : IntKind} {v : Value} (h : CSok w (.sc (.int k)) v) : v = .int k (vi v) := by
  obtain ⟨n, rfl, _⟩ := h; rfl
theorem ok_u8 {v : Value} (h : CSok w (.sc (.int .u8)) v) : 0 ≤ vi v ∧ vi v < 256 := by
  obtain ⟨n, rfl, hw⟩ := h
  simp [Lit.wf, IntKind.min, IntKind.max, IntKind.bits, IntKind.signed] at hw
  simp only [vi]; omega
theorem rows_of {k : Nat} {fs : Nat → CS} {v : Value} (h : CSok w (.sl k fs) v) : ∃ (n : Nat) (cv : Nat → Nat → Value), n ≤ maxLen ∧ (∀ i j, i < n → j < k → CSok w (fs j) (cv i j)) ∧
    ∀ get : Nat → Nat → RV, (∀ i j, i < n → j < k → (cv i j).oneCell' = true ∧ (get i j).rel (fun b => b < w.heap.size) w (cv i j)) → ∀ σ, (SV.r (.rs k n get)).rel σ (fun b => b < w.heap.size) w v := by
  obtain ⟨A, n, c, rfl, hnc, hcm, hA⟩ := h
  rcases Nat.eq_zero_or_pos n with h0 | h0
  · subst h0
    exact ⟨0, fun _ _ => undef, Nat.zero_le _, fun i j hi => by omega, fun get _ σ => ⟨A, c, rfl, Nat.zero_le _, fun h => by omega⟩⟩
  · obtain ⟨b, o, rfl, hb, hc⟩ := hA h0
    refine ⟨n, fun i j => (w.cell? ⟨b, o + (i * k + j), none⟩).getD undef, by omega, fun i j hi hj => ?_, fun get hg σ => ⟨_, c, rfl, hnc, fun _ => ⟨b, o, rfl, hb, fun i j hi hj => ?_⟩⟩⟩
    · obtain ⟨u, h1, h2⟩ := hc i j hi hj
      simp only [h1, Option.getD_some]; exact h2
    · obtain ⟨u, h1, h2⟩ := hc i j hi hj
      have := hg i j hi hj
      simp only [h1, Option.getD_some] at this
      exact ⟨u, h1, this.1, this.2⟩
end
end Go.Gx
/-
  Contracts of functions that are handed memory of the caller's own: what goes in is given up, what comes out is new.
-/
set_option linter.unusedVariables false
set_option linter.unusedSimpArgs false
namespace Go.Gx
open Go.RowKit

mutual
def SV.ren (ρ : Nat → Nat) : SV → SV
  | .r x => .r x
  | .ptr q row k fld => .ptr (ρ q) row k fld
  | .sl q k lo n c => .sl (ρ q) k lo n c
  | .mp q => .mp (ρ q)
  | .fn f fi ca => .fn f (SV.renL ρ fi) (SV.renL ρ ca)
  | .agg l => .agg (SV.renL ρ l)
  | .tup l => .tup (SV.renL ρ l)
def SV.renL (ρ : Nat → Nat) : List SV → List SV
  | [] => []
  | s :: l => s.ren ρ :: SV.renL ρ l
end
def Reg.ren (ρ : Nat → Nat) : Reg → Reg
  | .box l => .box (SV.renL ρ l)
  | .vec e k n g => .vec e k n fun i j => (g i j).ren ρ
  | .kmap kd has val st => .kmap kd has (fun a => (val a).ren ρ) st
  | .iter m f c all left la => .iter (m.ren ρ) f c all left la

section
variable {σ : Sig} {Z : Nat → Prop} {w : World} {ρ : Nat → Nat}
mutual
theorem SV.rel_ren : ∀ (s : SV) (y : Value), (s.ren ρ).rel σ Z w y ↔ s.rel (fun i => σ (ρ i)) Z w y
  | .r x, y => Iff.rfl
  | .ptr .., y => Iff.rfl
  | .sl .., y => Iff.rfl
  | .mp .., y => Iff.rfl
  | .fn f fi ca, y => by
    simp only [SV.ren, SV.rel]
    exact ⟨fun ⟨vs, ws, e, h1, h2⟩ => ⟨vs, ws, e, (SV.relL_ren fi vs).1 h1, (SV.relL_ren ca ws).1 h2⟩, fun ⟨vs, ws, e, h1, h2⟩ => ⟨vs, ws, e, (SV.relL_ren fi vs).2 h1, (SV.relL_ren ca ws).2 h2⟩⟩
  | .agg l, y => by
    simp only [SV.ren, SV.rel]
    exact ⟨fun ⟨vs, e, h1, h2⟩ => ⟨vs, e, h1, (SV.relL_ren l vs).1 h2⟩, fun ⟨vs, e, h1, h2⟩ => ⟨vs, e, h1, (SV.relL_ren l vs).2 h2⟩⟩
  | .tup l, y => by
    simp only [SV.ren, SV.rel]
    exact ⟨fun ⟨vs, e, h2⟩ => ⟨vs, e, (SV.relL_ren l vs).1 h2⟩, fun ⟨vs, e, h2⟩ => ⟨vs, e, (SV.relL_ren l vs).2 h2⟩⟩
theorem SV.relL_ren : ∀ (l : List SV) (ys : List Value), SV.relL σ Z w (SV.renL ρ l) ys ↔ SV.relL (fun i => σ (ρ i)) Z w l ys
  | [], ys => Iff.rfl
  | s :: l, ys => by
    simp only [SV.renL, SV.relL]
    exact ⟨fun ⟨v, vs', e, h1, h2⟩ => ⟨v, vs', e, (SV.rel_ren s v).1 h1, (SV.relL_ren l vs').1 h2⟩, fun ⟨v, vs', e, h1, h2⟩ => ⟨v, vs', e, (SV.rel_ren s v).2 h1, (SV.relL_ren l vs').2 h2⟩⟩
end
theorem RegOK_ren {L : Loc} {R : Reg} : RegOK σ Z w L (R.ren ρ) ↔ RegOK (fun i => σ (ρ i)) Z w L R := by
  cases R with
  | box l =>
    simp only [Reg.ren, RegOK]
    exact ⟨fun ⟨b, cs, ty, h1, h2, h3, h4⟩ => ⟨b, cs, ty, h1, h2, h3, (SV.relL_ren l cs).1 h4⟩, fun ⟨b, cs, ty, h1, h2, h3, h4⟩ => ⟨b, cs, ty, h1, h2, h3, (SV.relL_ren l cs).2 h4⟩⟩
  | vec e k n g => simp only [Reg.ren, RegOK, SV.rel_ren]
  | kmap kd has val st => simp only [Reg.ren, RegOK, SV.rel_ren]
  | iter m f c all left la => simp only [Reg.ren, RegOK, SV.rel_ren]
end

/-- The blocks of the regions. -/
def Wof (σ : Sig) (M : Mem) (b : Nat) : Prop := ∃ r R L, M r = some R ∧ σ r = some L ∧ L.at_ = some b
abbrev memR (l : List Reg) : Mem := memL (l.map some)

/-- A contract: the regions Rs (refs 0, 1, ..) go in, what comes back is S with the regions Rs' (refs 0, 1, ..); the first np of them are where they were. -/
def OwnS (P : Program) (np : Nat) (f : FuncId) (Rs : List Reg) (args : List SV) (S : SV) (Rs' : List Reg) : Prop :=
  ∀ (B : Nat → Prop) (σ : Sig) (w : World) (vs : List Value), MOK B (Wof σ (memR Rs)) w.heap.size σ (memR Rs) (From Rs.length) w → SV.relL σ (Zof B σ (memR Rs) w) w args vs →
    (callFunc f vs.toArray).run P w = .ok (.enter f vs.toArray) w ∧
    Calls P f vs.toArray w fun e w' => ∃ y σ', e = .returned y ∧ MOK B (Wof σ (memR Rs)) w.heap.size σ' (memR Rs') (From Rs'.length) w' ∧ S.rel σ' (Zof B σ' (memR Rs') w') w' y ∧ FrS (Wof σ (memR Rs)) w.heap.size w w' ∧
      ∀ r, r < np → σ' r = σ r
abbrev Own (P : Program) (f : FuncId) (Rs : List Reg) (args : List SV) (S : SV) (Rs' : List Reg) : Prop := OwnS P 0 f Rs args S Rs'

theorem memR_get (l : List Reg) (r : Nat) : memR l r = l[r]? := by
  simp only [memR, memL, List.getElem?_map]
  cases l[r]? <;> rfl

/-- The regions that are handed out, found in the memory that is left. -/
def gexpR (M : Mem) (ρ : Nat → Nat) : List Nat → List Reg → Prop
  | [], [] => True
  | q :: l, R :: Rs => Reg.sub (M q) (some (R.ren ρ)) ∧ gexpR M ρ l Rs
  | _, _ => False
def gexp (M : Mem) (s : SV) (ρl : List Nat) (S : SV) (Rs' : List Reg) : Prop :=
  ρl.Nodup ∧ ∀ N : Nat, s.sub (S.ren fun i => (ρl[i]?).getD N) ∧ gexpR M (fun i => (ρl[i]?).getD N) ρl Rs'
theorem gexpR_get {M : Mem} {ρ : Nat → Nat} : ∀ {ρl : List Nat} {Rs : List Reg}, gexpR M ρ ρl Rs → ρl.length = Rs.length ∧ ∀ (i : Nat) (R : Reg), Rs[i]? = some R → ∃ q, ρl[i]? = some q ∧ Reg.sub (M q) (some (R.ren ρ))
  | [], [], _ => ⟨rfl, by simp⟩
  | [], _ :: _, h => h.elim
  | _ :: _, [], h => h.elim
  | q :: l, R :: Rs, h => by
    obtain ⟨h1, h2⟩ := gexpR_get h.2
    refine ⟨by simp [h1], fun i R' hi => ?_⟩
    cases i with
    | zero => simp at hi; subst hi; exact ⟨q, by simp, h.1⟩
    | succ i => simpa using h2 i R' (by simpa using hi)

theorem nodup_inj {l : List Nat} (h : l.Nodup) {i j : Nat} (hi : i < l.length) (hj : j < l.length) (e : l[i] = l[j]) : i = j := by
  have hp := List.pairwise_iff_getElem.1 h
  rcases Nat.lt_trichotomy i j with h1 | h1 | h1
  · exact absurd e (hp i j hi hj h1)
  · exact h1
  · exact absurd e.symm (hp j i hj hi h1)

section
variable {P : Program} {T : Tab}

/-- Some regions are taken out under other numbers, the others are let go. -/
theorem MOK.export {B W F : Nat → Prop} {n0 : Nat} {σ : Sig} {M : Mem} {w : World} (hm : MOK B W n0 σ M F w) {ρl : List Nat} {Rs : List Reg} {N : Nat} (hN : σ N = none) (hnd : ρl.Nodup) (hx : gexpR M (fun i => (ρl[i]?).getD N) ρl Rs) :
    MOK B W n0 (fun i => σ ((ρl[i]?).getD N)) (memR Rs) (From Rs.length) w ∧ ∀ b, Zof B σ M w b → Zof B (fun i => σ ((ρl[i]?).getD N)) (memR Rs) w b := by
  obtain ⟨hlen, hget⟩ := gexpR_get hx
  have hk : ∀ r R, memR Rs r = some R → ∃ q R1, ρl[r]? = some q ∧ M q = some R1 ∧ Reg.sub (some R1) (some (R.ren fun i => (ρl[i]?).getD N)) := by
    intro r R h
    rw [memR_get] at h
    obtain ⟨q, h1, h2⟩ := hget r R h
    cases hq : M q with
    | none => rw [hq] at h2; simp [Reg.sub] at h2
    | some R1 => rw [hq] at h2; exact ⟨q, R1, h1, hq, h2⟩
  have hz : ∀ b, Zof B σ M w b → Zof B (fun i => σ ((ρl[i]?).getD N)) (memR Rs) w b := fun b hb => ⟨hb.1, fun r R L h1 h2 h3 => by
    obtain ⟨q, R1, e1, e2, _⟩ := hk r R h1
    simp only [e1, Option.getD_some] at h2
    exact hb.2 q R1 L e2 h2 h3⟩
  refine ⟨⟨hm.newB, fun r hr => ?_, fun r R h => ?_, fun r r' R R' L L' b h1 h2 h3 h4 h5 h6 => ?_, fun r R L b h1 h2 h3 => ?_⟩, hz⟩
  · have : ρl[r]? = none := List.getElem?_eq_none (by have : Rs.length ≤ r := hr; omega)
    simp [this, hN]
  · obtain ⟨q, R1, e1, e2, e3⟩ := hk r R h
    obtain ⟨L, g1, g2⟩ := hm.reg q R1 e2
    refine ⟨L, by simp [e1, g1], ?_⟩
    exact RegOK_ren.1 (Reg.sub_ok e3 hz g2)
  · obtain ⟨q, R1, e1, e2, _⟩ := hk r R h1
    obtain ⟨q', R2, e3, e4, _⟩ := hk r' R' h2
    simp only [e1, Option.getD_some] at h3
    simp only [e3, Option.getD_some] at h4
    have := hm.inj q q' R1 R2 L L' b e2 e4 h3 h4 h5 h6
    subst this
    obtain ⟨l1, l2⟩ := List.getElem?_eq_some_iff.1 e1
    obtain ⟨l3, l4⟩ := List.getElem?_eq_some_iff.1 e3
    exact nodup_inj hnd l1 l3 (l2.trans l4.symm)
  · obtain ⟨q, R1, e1, e2, _⟩ := hk r R h1
    simp only [e1, Option.getD_some] at h2
    exact hm.own q R1 L b e2 h2 h3

def keepsL : Nat → Nat → List Nat → Prop
  | 0, _, _ => True
  | np + 1, i, q :: l => q = i ∧ keepsL np (i + 1) l
  | _ + 1, _, [] => False
theorem keepsL_get : ∀ {np i : Nat} {l : List Nat}, keepsL np i l → ∀ j, j < np → l[j]? = some (i + j)
  | 0, _, _, _, j, hj => by omega
  | np + 1, i, q :: l, h, 0, _ => by simp [h.1]
  | np + 1, i, q :: l, h, j + 1, hj => by
    have := keepsL_get h.2 j (by omega)
    simp [this]; omega
  | _ + 1, _, [], h, _, _ => h.elim
theorem ownS_of_GC (hT : TabOK P T) {f : FuncId} {fn : Func} (hf : P.funcs[f]? = some fn) {c : Code} (hb : fn.body = some c) (hn : (fn.name == "runtime.NumGoroutine") = false) {args : List SV} (hlen : args.length ≤ fn.ntmps) {Rs Rs' : List Reg} {S : SV}
    {N : Nat} {rs : List ResultVar} (hN : fn.ntmps = N) (hrs : fn.results.toList = rs) (np : Nat) (hnp : np ≤ Rs.length) (h : GC P T ⟨N, np, noGood⟩ c [] (gret T rs fun s M => ∃ ρl, keepsL np 0 ρl ∧ gexp M s ρl S Rs') (env0 args) (memR Rs) Rs.length) : OwnS P np f Rs args S Rs' := by
  subst hN; subst hrs
  intro B σ w vs hm ha
  refine ⟨enter_run hf hb hn _, ?_⟩
  refine (calls_of_gexec hT hf hb hlen hnp hm ha h).mono fun e w' h' => ?_
  obtain ⟨s, y, σ', M', nx', rfl, ⟨ρl, hk, h1, h2⟩, hrel, hm', hfr, hpin⟩ := h'
  obtain ⟨h3, h4⟩ := h2 nx'
  obtain ⟨m1, m2⟩ := hm'.export (hm'.fresh nx' (Nat.le_refl nx')) h1 h4
  refine ⟨y, _, rfl, m1, SV.rel_mono (fun _ _ h => h) (fun b hb => ⟨m2 b hb, rfl⟩) _ _ ((SV.rel_ren _ _).1 (SV.sub_rel _ _ _ h3 hrel)), ⟨hfr.os, hfr.tape, hfr.output, hfr.size, hfr.drawn, hfr.block⟩, fun r hr => ?_⟩
  have := keepsL_get hk r hr
  simp only [this, Nat.zero_add, Option.getD_some]
  exact hpin r hr
theorem own_of_GC (hT : TabOK P T) {f : FuncId} {fn : Func} (hf : P.funcs[f]? = some fn) {c : Code} (hb : fn.body = some c) (hn : (fn.name == "runtime.NumGoroutine") = false) {args : List SV} (hlen : args.length ≤ fn.ntmps) {Rs Rs' : List Reg} {S : SV}
    {N : Nat} {rs : List ResultVar} (hN : fn.ntmps = N) (hrs : fn.results.toList = rs) (h : GC P T ⟨N, 0, noGood⟩ c [] (gret T rs fun s M => ∃ ρl, gexp M s ρl S Rs') (env0 args) (memR Rs) Rs.length) : Own P f Rs args S Rs' := by
  subst hN; subst hrs
  intro B σ w vs hm ha
  refine ⟨enter_run hf hb hn _, ?_⟩
  refine (calls_of_gexec hT hf hb hlen (Nat.zero_le _) hm ha h).mono fun e w' h' => ?_
  obtain ⟨s, y, σ', M', nx', rfl, ⟨ρl, h1, h2⟩, hrel, hm', hfr, hpin⟩ := h'
  obtain ⟨h3, h4⟩ := h2 nx'
  obtain ⟨m1, m2⟩ := hm'.export (hm'.fresh nx' (Nat.le_refl nx')) h1 h4
  exact ⟨y, _, rfl, m1, SV.rel_mono (fun _ _ h => h) (fun b hb => ⟨m2 b hb, rfl⟩) _ _ ((SV.rel_ren _ _).1 (SV.sub_rel _ _ _ h3 hrel)), ⟨hfr.os, hfr.tape, hfr.output, hfr.size, hfr.drawn, hfr.block⟩, fun r hr => absurd hr (Nat.not_lt_zero r)⟩

/-- The regions of the caller that are given up; the new ones. -/
def dropM : List Nat → Mem → Mem
  | [], M => M
  | q :: l, M => dropM l (upd M q none)
def addM : Nat → List Reg → (Nat → Nat) → Mem → Mem
  | _, [], _, M => M
  | nx, R :: l, ρ, M => addM (nx + 1) l ρ (upd M nx (some (R.ren ρ)))
theorem dropM_at : ∀ (l : List Nat) (M : Mem) (r : Nat), dropM l M r = if r ∈ l then none else M r
  | [], M, r => by simp [dropM]
  | q :: l, M, r => by
    simp only [dropM, dropM_at l, upd_app, List.mem_cons]
    by_cases h1 : r ∈ l <;> by_cases h2 : r = q <;> simp [h1, h2]
theorem addM_at (ρ : Nat → Nat) : ∀ (l : List Reg) (nx : Nat) (M : Mem) (r : Nat), addM nx l ρ M r = if nx ≤ r ∧ r < nx + l.length then (l[r - nx]?).map (Reg.ren ρ) else M r
  | [], nx, M, r => by simp [addM]; omega
  | R :: l, nx, M, r => by
    simp only [addM, addM_at ρ l, upd_app, List.length_cons]
    by_cases h1 : nx + 1 ≤ r ∧ r < nx + 1 + l.length
    · rw [if_pos h1, if_pos (by omega), show r - nx = (r - (nx + 1)) + 1 from by omega]
      simp
    · rw [if_neg h1]
      by_cases h2 : r = nx
      · subst h2; simp
      · rw [if_neg h2, if_neg (by omega)]
def atM (M : Mem) (ρ : Nat → Nat) : List Nat → List Reg → Prop
  | [], [] => True
  | q :: l, R :: Rs => M q = some (R.ren ρ) ∧ atM M ρ l Rs
  | _, _ => False
theorem atM_get {M : Mem} {ρ : Nat → Nat} : ∀ {ρl : List Nat} {Rs : List Reg}, atM M ρ ρl Rs → ρl.length = Rs.length ∧ ∀ (i : Nat) (R : Reg), Rs[i]? = some R → ∃ q, ρl[i]? = some q ∧ M q = some (R.ren ρ)
  | [], [], _ => ⟨rfl, by simp⟩
  | [], _ :: _, h => h.elim
  | _ :: _, [], h => h.elim
  | q :: l, R :: Rs, h => by
    obtain ⟨h1, h2⟩ := atM_get h.2
    refine ⟨by simp [h1], fun i R' hi => ?_⟩
    cases i with
    | zero => simp at hi; subst hi; exact ⟨q, by simp, h.1⟩
    | succ i => simpa using h2 i R' (by simpa using hi)

/-- The regions that come back: the first ones where they were, the others new. -/
def addS (ρ : Nat → Nat) : Nat → List Reg → Mem → Mem
  | _, [], M => M
  | i, R :: l, M => addS ρ (i + 1) l (upd M (ρ i) (some (R.ren ρ)))
theorem addS_get (ρ : Nat → Nat) : ∀ (l : List Reg) (i : Nat) (M : Mem) (r : Nat) (R : Reg), addS ρ i l M r = some R →
    (∃ j R', l[j]? = some R' ∧ r = ρ (i + j) ∧ R = R'.ren ρ) ∨ (M r = some R ∧ ∀ j, j < l.length → r ≠ ρ (i + j))
  | [], i, M, r, R, h => .inr ⟨h, by simp⟩
  | R0 :: l, i, M, r, R, h => by
    rcases addS_get ρ l (i + 1) _ r R h with ⟨j, R', h1, h2, h3⟩ | ⟨h1, h2⟩
    · exact .inl ⟨j + 1, R', by simpa using h1, by rw [h2]; congr 1; omega, h3⟩
    · by_cases hr : r = ρ i
      · subst hr
        rw [upd_same] at h1; cases h1
        exact .inl ⟨0, R0, by simp, by simp, rfl⟩
      · rw [upd_ne _ _ hr] at h1
        refine .inr ⟨h1, fun j hj => ?_⟩
        cases j with
        | zero => simpa using hr
        | succ j =>
          have := h2 j (by simpa using hj)
          rwa [show i + (j + 1) = i + 1 + j from by omega]
/-- The callee's numbers of regions, in the caller's. -/
def renS (cp nx : Nat) (ρl : List Nat) (i : Nat) : Nat := if i < cp then (ρl[i]?).getD nx else nx + i

/-- A call under such a contract. -/
theorem callK_ownS {np cp : Nat} {f : FuncId} {Rs Rs' : List Reg} {args0 args : List SV} {S : SV} {M : Mem} {nx : Nat} {K : SV → Mem → Nat → (SV → SV) → Prop} (ρl : List Nat) (hp : OwnS P cp f Rs args0 S Rs') (hcp : cp ≤ Rs.length) (hnd : ρl.Nodup)
    (ha : args = SV.renL (fun i => (ρl[i]?).getD nx) args0) (hM : atM M (fun i => (ρl[i]?).getD nx) ρl Rs)
    (hK : K (S.ren (renS cp nx ρl)) (addS (renS cp nx ρl) 0 Rs' (dropM ρl M)) (nx + Rs'.length) id) : CallK P np f args M nx K := by
  intro B W n0 σ w vs hm hn0 hnp hrel
  obtain ⟨hlen, hget⟩ := atM_get hM
  have hget' : ∀ (i : Nat) (R : Reg), memR Rs i = some R → ∃ q, ρl[i]? = some q ∧ M q = some (R.ren fun i => (ρl[i]?).getD nx) := fun i R h => hget i R (by rw [← memR_get]; exact h)
  let σ1 : Sig := fun i => σ ((ρl[i]?).getD nx)
  have hσ1 : ∀ i q, ρl[i]? = some q → σ1 i = σ q := fun i q h => by simp [σ1, h]
  have hW : ∀ b, Wof σ1 (memR Rs) b → ∃ q R L, q ∈ ρl ∧ M q = some R ∧ σ q = some L ∧ L.at_ = some b := by
    rintro b ⟨r, R, L, h1, h2, h3⟩
    obtain ⟨q, e1, e2⟩ := hget' r R h1
    rw [hσ1 r q e1] at h2
    exact ⟨q, _, L, List.mem_of_getElem? e1, e2, h2, h3⟩
  have hW' : ∀ q R L b, q ∈ ρl → M q = some R → σ q = some L → L.at_ = some b → Wof σ1 (memR Rs) b := by
    intro q R L b h1 h2 h3 h4
    obtain ⟨i, hi, rfl⟩ := List.getElem_of_mem h1
    have e0 : ρl[i]? = some ρl[i] := List.getElem?_eq_getElem hi
    exact ⟨i, Rs[i]'(by omega), L, by rw [memR_get]; exact List.getElem?_eq_getElem (by omega), by rw [hσ1 i _ e0]; exact h3, h4⟩
  let B1 : Nat → Prop := fun b => Zof B σ M w b ∨ Wof σ1 (memR Rs) b ∨ w.heap.size ≤ b
  have hz1 : ∀ b, Zof B σ M w b → Zof B1 σ1 (memR Rs) w b := fun b hb => ⟨⟨hb.1.1, .inl hb⟩, fun r R L h1 h2 h3 => by
    obtain ⟨q, e1, e2⟩ := hget' r R h1
    rw [hσ1 r q e1] at h2
    exact hb.2 q _ L e2 h2 h3⟩
  have hm1 : MOK B1 (Wof σ1 (memR Rs)) w.heap.size σ1 (memR Rs) (From Rs.length) w := by
    refine ⟨fun b hb => .inr (hb.symm), fun r hr => ?_, fun r R h => ?_, fun r r' R R' L L' b h1 h2 h3 h4 h5 h6 => ?_, fun r R L b h1 h2 h3 => .inl ⟨r, R, L, h1, h2, h3⟩⟩
    · have : ρl[r]? = none := List.getElem?_eq_none (by have : Rs.length ≤ r := hr; omega)
      simp [σ1, this, hm.fresh nx (Nat.le_refl nx)]
    · obtain ⟨q, e1, e2⟩ := hget' r R h
      obtain ⟨L, g1, g2⟩ := hm.reg q _ e2
      refine ⟨L, by rw [hσ1 r q e1]; exact g1, ?_⟩
      exact (RegOK_ren.1 g2).mono (fun _ _ h => h) (fun b hb => ⟨hz1 b hb, rfl⟩) (fun _ _ => rfl)
    · obtain ⟨q, e1, e2⟩ := hget' r R h1
      obtain ⟨q', e3, e4⟩ := hget' r' R' h2
      rw [hσ1 r q e1] at h3
      rw [hσ1 r' q' e3] at h4
      have := hm.inj q q' _ _ L L' b e2 e4 h3 h4 h5 h6
      subst this
      obtain ⟨l1, l2⟩ := List.getElem?_eq_some_iff.1 e1
      obtain ⟨l3, l4⟩ := List.getElem?_eq_some_iff.1 e3
      exact nodup_inj hnd l1 l3 (l2.trans l4.symm)
  have ha1 : SV.relL σ1 (Zof B1 σ1 (memR Rs) w) w args0 vs := by
    rw [ha] at hrel
    exact SV.relL_mono (fun _ _ h => h) (fun b hb => ⟨hz1 b hb, rfl⟩) _ _ ((SV.relL_ren _ _).1 hrel)
  obtain ⟨c1, c2⟩ := hp B1 σ1 w vs hm1 ha1
  refine .inl ⟨c1, c2.mono fun e w' h' => ?_⟩
  obtain ⟨y, σ', rfl, hm', hr, hf, hpin⟩ := h'
  have hBW : ∀ b, Wof σ1 (memR Rs) b → W b ∨ n0 ≤ b := fun b hb => by
    obtain ⟨q, R, L, h1, h2, h3, h4⟩ := hW b hb
    exact hm.own q R L b h2 h3 h4
  have hB : ∀ b, B1 b → B b := fun b hb => by
    rcases hb with hb | hb | hb
    · exact hb.1.2
    · exact hm.newB b (hBW b hb).symm
    · exact hm.newB b (.inl (by omega))
  let ρ : Nat → Nat := renS cp nx ρl
  let σ2 : Sig := fun r => if nx ≤ r then σ' (r - nx) else σ r
  let M2 : Mem := addS ρ 0 Rs' (dropM ρl M)
  have hltσ : ∀ r L, σ r = some L → r < nx := fun r L h => by
    rcases Nat.lt_or_ge r nx with h1 | h1
    · exact h1
    · rw [hm.fresh r h1] at h; cases h
  have hσ2' : ∀ i, σ2 (ρ i) = σ' i := by
    intro i
    show σ2 (renS cp nx ρl i) = _
    unfold renS
    by_cases hi : i < cp
    · rw [if_pos hi, hpin i hi]
      have hil : i < ρl.length := by omega
      have e0 : ρl[i]? = some ρl[i] := List.getElem?_eq_getElem hil
      rw [e0]
      have hR : memR Rs i = some (Rs[i]'(by omega)) := by rw [memR_get]; exact List.getElem?_eq_getElem (by omega)
      obtain ⟨q, e1, e2⟩ := hget' i _ hR
      rw [e0] at e1; cases e1
      obtain ⟨L, g1, _⟩ := hm.reg _ _ e2
      have hlt := hltσ _ _ g1
      simp only [Option.getD_some]
      rw [hσ1 i _ e0]
      exact if_neg (by omega)
    · rw [if_neg hi]
      simp [σ2]
  have hσ2 : (fun i => σ2 (ρ i)) = σ' := by
    funext i; exact hσ2' i
  have hs2 : SigLe σ σ2 := fun r L h => by
    show (if nx ≤ r then _ else _) = _
    rw [if_neg]
    · exact h
    · intro hr
      rw [hm.fresh r hr] at h; cases h
  -- what a region is now: one of those that came back, or one of the old ones that were not given up
  have hk2 : ∀ r R, M2 r = some R → (∃ i R', r = ρ i ∧ memR Rs' i = some R' ∧ R = R'.ren ρ) ∨ (r ∉ ρl ∧ M r = some R ∧ r < nx) := by
    intro r R h
    rcases addS_get ρ Rs' 0 _ r R h with ⟨j, R', h1, h2, h3⟩ | ⟨h1, h2⟩
    · exact .inl ⟨j, R', by simpa using h2, by rw [memR_get]; exact h1, h3⟩
    · rw [dropM_at] at h1
      split at h1
      · cases h1
      · rename_i hr
        obtain ⟨L, g1, _⟩ := hm.reg r R h1
        exact .inr ⟨hr, h1, hltσ r L g1⟩
  have holdW : ∀ r R L b, r ∉ ρl → M r = some R → σ r = some L → L.at_ = some b → b < w.heap.size ∧ ¬ Wof σ1 (memR Rs) b := by
    intro r R L b h1 h2 h3 h4
    obtain ⟨L', g1, g2⟩ := hm.reg r R h2
    rw [h3] at g1; cases g1
    refine ⟨g2.block h4, fun hb => ?_⟩
    obtain ⟨q, R1, L1, q1, q2, q3, q4⟩ := hW b hb
    exact h1 (by rw [hm.inj r q R R1 L L1 b h2 q2 h3 q3 h4 q4]; exact q1)
  have hnew : ∀ i R L b, memR Rs' i = some R → σ' i = some L → L.at_ = some b → Wof σ1 (memR Rs) b ∨ w.heap.size ≤ b := fun i R L b h1 h2 h3 => hm'.own i R L b h1 h2 h3
  have hZW : ∀ b, Zof B σ M w b → ¬ Wof σ1 (memR Rs) b := fun b hb h => by
    obtain ⟨q, R1, L1, q1, q2, q3, q4⟩ := hW b h
    exact hb.2 q R1 L1 q2 q3 q4
  have hz2 : ∀ b, Zof B σ M w b → Zof B σ2 M2 w' b := fun b hb => ⟨⟨Nat.lt_of_lt_of_le hb.1.1 hf.size, hb.1.2⟩, fun r R L h1 h2 h3 => by
    rcases hk2 r R h1 with ⟨i, R', rfl, e1, _⟩ | ⟨e1, e2, e3⟩
    · rw [hσ2' i] at h2
      rcases hnew i R' L b e1 h2 h3 with h | h
      · exact hZW b hb h
      · have := hb.1.1; omega
    · have : σ2 r = σ r := if_neg (by omega)
      rw [this] at h2
      exact hb.2 r R L e2 h2 h3⟩
  have hkeep : Keep (Zof B σ M w) (Zof B σ2 M2 w') w w' := fun b hb => ⟨hz2 b hb, hf.block b hb.1.1 (hZW b hb)⟩
  have hz3 : ∀ b, Zof B1 σ' (memR Rs') w' b → Zof B σ2 M2 w' b := fun b hb => ⟨⟨hb.1.1, hB b hb.1.2⟩, fun r R L h1 h2 h3 => by
    rcases hk2 r R h1 with ⟨i, R', rfl, e1, _⟩ | ⟨e1, e2, e3⟩
    · rw [hσ2' i] at h2
      exact hb.2 i R' L e1 h2 h3
    · have : σ2 r = σ r := if_neg (by omega)
      rw [this] at h2
      obtain ⟨g1, g2⟩ := holdW r R L b e1 e2 h2 h3
      rcases hb.1.2 with h | h | h
      · exact h.2 r R L e2 h2 h3
      · exact g2 h
      · omega⟩
  refine ⟨y, S.ren ρ, M2, nx + Rs'.length, σ2, id, rfl, hK, ⟨hm.newB, fun r hr => ?_, fun r R h => ?_, fun r r' R R' L L' b h1 h2 h3 h4 h5 h6 => ?_, fun r R L b h1 h2 h3 => ?_⟩, hkeep, ?_, fun t z hz => SV.rel_mono hs2 hkeep _ _ hz, ⟨hf.os, hf.tape, hf.output, hf.size, hf.drawn, fun b hb hw => hf.block b (by omega) fun h => ?_⟩, by omega, fun r hr => if_neg (by omega)⟩
  · have hr' : nx + Rs'.length ≤ r := hr
    show (if nx ≤ r then _ else _) = _
    rw [if_pos (by omega)]
    exact hm'.fresh (r - nx) (show Rs'.length ≤ r - nx by omega)
  · rcases hk2 r R h with ⟨i, R', rfl, e1, rfl⟩ | ⟨e1, e2, e3⟩
    · obtain ⟨L, g1, g2⟩ := hm'.reg i R' e1
      refine ⟨L, by rw [hσ2' i]; exact g1, ?_⟩
      refine RegOK_ren.2 ?_
      rw [hσ2]
      exact g2.mono (fun _ _ h => h) (fun b hb => ⟨hz3 b hb, rfl⟩) (fun _ _ => rfl)
    · obtain ⟨L, g1, g2⟩ := hm.reg r R e2
      refine ⟨L, hs2 _ _ g1, g2.mono hs2 hkeep fun b hb => ?_⟩
      obtain ⟨q1, q2⟩ := holdW r R L b e1 e2 g1 hb
      exact hf.block b q1 q2
  · rcases hk2 r R h1 with ⟨i, R1, rfl, e1, _⟩ | ⟨e1, e2, e3⟩
    · have g3 : σ' i = some L := by rw [← hσ2' i]; exact h3
      rcases hk2 r' R' h2 with ⟨i', R2, rfl, e1', _⟩ | ⟨e1', e2', e3'⟩
      · have g4 : σ' i' = some L' := by rw [← hσ2' i']; exact h4
        rw [hm'.inj i i' R1 R2 L L' b e1 e1' g3 g4 h5 h6]
      · exfalso
        have : σ2 r' = σ r' := if_neg (by omega)
        rw [this] at h4
        obtain ⟨q1, q2⟩ := holdW r' R' L' b e1' e2' h4 h6
        rcases hnew i R1 L b e1 g3 h5 with h | h
        · exact q2 h
        · omega
    · have g3 : σ r = some L := by
        have : σ2 r = σ r := if_neg (by omega)
        rw [← this]; exact h3
      rcases hk2 r' R' h2 with ⟨i', R2, rfl, e1', _⟩ | ⟨e1', e2', e3'⟩
      · exfalso
        have g4 : σ' i' = some L' := by rw [← hσ2' i']; exact h4
        obtain ⟨q1, q2⟩ := holdW r R L b e1 e2 g3 h5
        rcases hnew i' R2 L' b e1' g4 h6 with h | h
        · exact q2 h
        · omega
      · have : σ2 r' = σ r' := if_neg (by omega)
        rw [this] at h4
        exact hm.inj r r' R R' L L' b e2 e2' g3 h4 h5 h6
  · rcases hk2 r R h1 with ⟨i, R1, rfl, e1, _⟩ | ⟨e1, e2, e3⟩
    · have g3 : σ' i = some L := by rw [← hσ2' i]; exact h2
      rcases hnew i R1 L b e1 g3 h3 with h | h
      · exact hBW b h
      · right; omega
    · have : σ2 r = σ r := if_neg (by omega)
      rw [this] at h2
      exact hm.own r R L b e2 h2 h3
  · refine (SV.rel_ren _ _).2 ?_
    rw [hσ2]
    exact SV.rel_mono (fun _ _ h => h) (fun b hb => ⟨hz3 b hb, rfl⟩) _ _ hr
  · rcases hBW b h with h | h
    · exact hw h
    · omega
theorem callK_own {np : Nat} {f : FuncId} {Rs Rs' : List Reg} {args0 args : List SV} {S : SV} {M : Mem} {nx : Nat} {K : SV → Mem → Nat → (SV → SV) → Prop} (ρl : List Nat) (hp : Own P f Rs args0 S Rs') (hnd : ρl.Nodup)
    (ha : args = SV.renL (fun i => (ρl[i]?).getD nx) args0) (hM : atM M (fun i => (ρl[i]?).getD nx) ρl Rs)
    (hK : K (S.ren fun i => nx + i) (addS (fun i => nx + i) 0 Rs' (dropM ρl M)) (nx + Rs'.length) id) : CallK P np f args M nx K :=
  callK_ownS (cp := 0) ρl hp (Nat.zero_le _) hnd ha hM (by
    have : renS 0 nx ρl = fun i => nx + i := by funext i; simp [renS]
    rw [this]; exact hK)

/-- Less is known of the memory, ahead of a call. -/
theorem callK_less {np : Nat} {f : FuncId} {args : List SV} {M M' : Mem} {nx : Nat} {K : SV → Mem → Nat → (SV → SV) → Prop} (hs : ∀ r, Reg.sub (M r) (M' r)) (h : CallK P np f args M' nx K) : CallK P np f args M nx K := by
  intro B W n0 σ w vs hm hn hl ha
  obtain ⟨m1, m2⟩ := hm.sub hs
  have ha' := SV.relL_mono (σ := σ) (σ' := σ) (w := w) (w' := w) (fun _ _ h => h) (fun b hb => ⟨m2 b hb, rfl⟩) args vs ha
  have conv : ∀ e w', CallPost np B W n0 σ M' w K e w' → CallPost np B W n0 σ M w K e w' := by
    rintro e w' ⟨y, s, M1, nx', σ', up, rfl, p1, p2, p3, p4, p5, p6⟩
    exact ⟨y, s, M1, nx', σ', up, rfl, p1, p2, fun b hb => p3 b (m2 b hb), p4, fun t z hz' => p5 _ _ (SV.rel_mono (fun _ _ h => h) (fun b hb => ⟨m2 b hb, rfl⟩) _ _ hz'), p6⟩
  rcases h B W n0 σ w vs m1 hn hl ha' with ⟨c1, c2⟩ | ⟨y, w', c1, c2⟩
  · exact .inl ⟨c1, c2.mono fun e w' hp => conv e w' hp⟩
  · exact .inr ⟨y, w', c1, conv _ _ c2⟩
end
attribute [go_sem] SV.ren SV.renL Reg.ren gexpR dropM addM addS atM renS keepsL
end Go.Gx
/-
  Contracts with memory of the caller's own: what is nil comes back as an empty region; calls that hand back a new region inside of an open order.
-/
set_option linter.unusedVariables false
set_option linter.unusedSimpArgs false
namespace Go.Gx
open Go.RowKit

section
variable {P : Program} {T : Tab}
theorem own_of_GC0 (hT : TabOK P T) {f : FuncId} {fn : Func} (hf : P.funcs[f]? = some fn) {c : Code} (hb : fn.body = some c) (hn : (fn.name == "runtime.NumGoroutine") = false) {args : List SV} (hlen : args.length ≤ fn.ntmps) {Rs Rs' : List Reg} {S : SV}
    {N : Nat} {rs : List ResultVar} (hN : fn.ntmps = N) (hrs : fn.results.toList = rs)
    (h : GC P T ⟨N, 0, noGood⟩ c [] (gret T rs fun s M => (∃ ρl, gexp M s ρl S Rs') ∨ (s = .r (.v (.slice none 0 0)) ∧ ∃ e k get, S = .sl 0 k 0 0 none ∧ Rs' = [.vec e k 0 get])) (env0 args) (memR Rs) Rs.length) : Own P f Rs args S Rs' := by
  subst hN; subst hrs
  intro B σ w vs hm ha
  refine ⟨enter_run hf hb hn _, ?_⟩
  refine (calls_of_gexec hT hf hb hlen (Nat.zero_le _) hm ha h).mono fun e w' h' => ?_
  obtain ⟨s, y, σ', M', nx', rfl, h', hrel, hm', hfr, _⟩ := h'
  rcases h' with ⟨ρl, h1, h2⟩ | ⟨rfl, e, k, get, rfl, rfl⟩
  · obtain ⟨h3, h4⟩ := h2 nx'
    obtain ⟨m1, m2⟩ := hm'.export (hm'.fresh nx' (Nat.le_refl nx')) h1 h4
    exact ⟨y, _, rfl, m1, SV.rel_mono (fun _ _ h => h) (fun b hb => ⟨m2 b hb, rfl⟩) _ _ ((SV.rel_ren _ _).1 (SV.sub_rel _ _ _ h3 hrel)), ⟨hfr.os, hfr.tape, hfr.output, hfr.size, hfr.drawn, hfr.block⟩, fun r hr => absurd hr (Nat.not_lt_zero r)⟩
  · have hy : y = .slice none 0 0 := hrel
    subst hy
    refine ⟨_, fun r => if r = 0 then some ⟨none, 0⟩ else none, rfl, ⟨hm'.newB, fun r hr => if_neg (by have : 1 ≤ r := hr; omega), fun r R hR => ?_, fun r r' R R' L L' b h1 h2 h3 h4 h5 h6 => ?_, fun r R L b h1 h2 h3 => ?_⟩, ?_, ⟨hfr.os, hfr.tape, hfr.output, hfr.size, hfr.drawn, hfr.block⟩, fun r hr => absurd hr (Nat.not_lt_zero r)⟩
    · rw [memR_get] at hR
      cases r with
      | zero => simp at hR; subst hR; exact ⟨_, if_pos rfl, Nat.le_refl _, by simp [maxLen], .inl ⟨rfl, rfl⟩⟩
      | succ r => simp at hR
    · split at h3
      · cases h3; cases h5
      · cases h3
    · split at h2
      · cases h2; cases h3
      · cases h2
    · exact ⟨⟨none, 0⟩, none, if_pos rfl, rfl, by simp, by simp, by simp, fun _ => .inl rfl⟩
theorem dnew_own {f : FuncId} {args : List SV} {q k lo n N : Nat} {c : Option Nat} {e : TypeId} {g : Nat → Nat → RV} (h : Own P f [] args (.sl 0 k lo n c) [.vec e k N fun i j => .r (g i j)]) (hc : SV.closedL args = true) :
    DNew P q f args (.sl q k lo n c) (some (.vec e k N fun i j => .r (g i j))) := by
  refine ⟨e, k, N, g, lo, n, c, rfl, rfl, hc, fun B w vs hm ha => ?_⟩
  have hW : Wof (fun _ => none) (memR []) = fun _ => False := by
    funext b
    exact propext (Iff.intro (fun ⟨r, R, L, h1, h2⟩ => nomatch h1) False.elim)
  have := h B (fun _ => none) w vs (by rw [hW]; exact hm) ha
  rw [hW] at this
  exact ⟨this.1, this.2.mono fun e w' ⟨y, σ', h1, h2, h3, h4, _⟩ => ⟨y, σ', h1, h2, h3, h4⟩⟩
end
end Go.Gx
/-
  How much a slice of the caller's own can hold; slices that lie apart.
-/
set_option linter.unusedVariables false
set_option linter.unusedSimpArgs false
namespace Go.Gx
open Go.RowKit

def SV.capd (ref C : Nat) : SV → SV
  | .sl q k lo n none => if q = ref then .sl q k lo n (some (C - lo)) else .sl q k lo n none
  | s => s
section
variable {P : Program} {T : Tab} {B W F : Nat → Prop} {N : Cfg} {σ : Sig} {Z : Nat → Prop} {w : World} {k : List It} {Q : GQ} {E : Env} {M : Mem} {nx : Nat}
theorem SV.capd_rel {ref : Nat} {L : Loc} (h : σ ref = some L) {s : SV} {y : Value} (hr : s.rel σ Z w y) : (s.capd ref L.cap).rel σ Z w y := by
  cases s with
  | sl q k lo n c =>
    cases c with
    | none =>
      simp only [SV.capd]
      split
      · rename_i hq
        subst hq
        obtain ⟨L', A, h1, h2, h3, h4, h5, h6⟩ := hr
        rw [h] at h1; cases h1
        exact ⟨L, A, h, h2, h3, h4, h5, h6⟩
      · exact hr
    | some c => exact hr
  | _ => exact hr
theorem GOp_cap (hT : TabOK P T) {K : Env → Mem → Nat → Prop} {d : Option Tmp} {t ty : TypeId} {pos : String} {af : Array Edge} {ref kk n e kr Nr : Nat} {g : Nat → Nat → SV} {s : Operand}
    (hx : ev E s = .sl ref kk 0 n none) (hM : M ref = some (.vec e kr Nr g)) (ht : ((T.ti t).map (·.kind)).any (fun | .slice _ => true | _ => false) = true) (hd : dOK N.n d)
    (h : ∀ C : Nat, Nr ≤ C → n ≤ C → C ≤ maxLen → K (envPut (fun s => (E s).capd ref C) d (.i C)) M nx ∨ K (envPut E d (.i C)) (upd M ref (some (.vec e kr C fun i j => if i < Nr then g i j else .r .any))) nx) :
    GOpW P N ⟨d, .call ⟨.builtin .cap, #[s], #[t]⟩, ty, pos, af, none⟩ E M nx K := by
  intro B W w0 σ a w hs next Q' hK
  refine wpIn_of_wp ?_
  obtain ⟨el, hu⟩ := und_sliceK hT ht
  have hr := ev_rel hs.env s
  rw [hx] at hr
  obtain ⟨L, A, h1, h2, h3, h4, h5, h6⟩ := hr
  obtain ⟨L', g1, g2⟩ := hs.mem.reg ref _ hM
  rw [h1] at g1; cases g1
  have e1 : (execOp a.eval ⟨d, .call ⟨.builtin .cap, #[s], #[t]⟩, ty, pos, af, none⟩).run P w = .ok (.value (.int .i64 L.cap)) w := by
    simp [execOp, resolve, invoke, builtin, Builtin.cap_, h2, run_underlying hu]
    rfl
  unfold Oper.wp
  rw [e1]
  rcases h L.cap g2.1 (by simpa using h3) g2.2.1 with h | h
  · exact hK _ M nx σ _ w h (St.put ⟨fun t => SV.capd_rel h1 (hs.env t), hs.mem, hs.fr, hs.defers, hs.size, hs.low, hs.pin, hs.good⟩ hd rfl)
  · obtain ⟨m1, m2⟩ := set_same (R' := .vec e kr L.cap fun i j => if i < Nr then g i j else .r .any) hs.mem hM (fun L' Z w' hL hR => by
      rw [h1] at hL; cases hL
      obtain ⟨q1, q2, q3 | ⟨b, cs, r1, r2, r3, r4, r5⟩⟩ := hR
      · exact ⟨Nat.le_refl _, q2, .inl q3⟩
      · refine ⟨Nat.le_refl _, q2, .inr ⟨b, cs, r1, r2, r3, r4, fun i j hi hj => ?_⟩⟩
        by_cases hN : i < Nr
        · simp only [if_pos hN]; exact r5 i j hN hj
        · simp only [if_neg hN]
          have hlt : i * kr + j < cs.length := by
            rw [r3]
            calc i * kr + j < i * kr + kr := by omega
              _ = (i + 1) * kr := by rw [Nat.add_mul, Nat.one_mul]
              _ ≤ L.cap * kr := Nat.mul_le_mul_right _ hi
          exact ⟨cs[i * kr + j], List.getElem?_eq_getElem hlt, r4 _ (List.getElem_mem hlt), trivial⟩)
    exact hK _ _ nx σ _ w h (St.put ⟨fun t => SV.rel_mono (fun _ _ h => h) m2 _ _ (hs.env t), m1, hs.fr, hs.defers.keep m2, hs.size, hs.low, hs.pin, hs.good⟩ hd rfl)

/-- The model's entry for slices.overlaps, at two regions. -/
theorem callK_apart {np : Nat} (hT : TabOK P T) {f : FuncId} {fn : Func} {tS tR : TypeId} (hf : P.funcs[f]? = some fn) (hname : (fn.name == "runtime.NumGoroutine") = false) (hb : fn.body.isNone = true) (hnx : Extern.findNext fn = none)
    (he : Extern.find fn = some (Extern.SlicesOverlaps.overlaps #[tS, tS] #[tR])) {el : TypeId} {ei : TI} (ht : (T.ti tS).map (·.kind) = some (.slice el)) (hei : T.ti el = some ei)
    {q r kq kr eq er Nq Nr lq lr nq nr : Nat} {cq cr : Option Nat} {gq gr : Nat → Nat → SV} (hq : M q = some (.vec eq kq Nq gq)) (hr : M r = some (.vec er kr Nr gr)) (hne : q ≠ r) (h0 : 0 < nq) (h1 : 0 < nr) (hk : 0 < kr) {K : SV → Mem → Nat → (SV → SV) → Prop} (hK : K (.b false) M nx id) :
    CallK P np f [.sl q kq lq nq cq, .sl r kr lr nr cr] M nx K := by
  intro B W n0 σ w vs hm hn0 hl ha
  obtain ⟨y, _, rfl, ha1, y', _, rfl, ha2, rfl⟩ := ha
  obtain ⟨L1, A1, a1, rfl, a3, a4, a5, a6⟩ := ha1
  obtain ⟨L2, A2, b1, rfl, b3, b4, b5, b6⟩ := ha2
  obtain ⟨bq, c1, rfl⟩ := a5 (by omega)
  obtain ⟨br, c2, rfl⟩ := b5 (by omega)
  obtain ⟨L1', d1, d2⟩ := hm.reg q _ hq
  rw [a1] at d1; cases d1
  obtain ⟨L2', d3, d4⟩ := hm.reg r _ hr
  rw [b1] at d3; cases d3
  have hbb : bq ≠ br := fun e => hne (hm.inj q r _ _ _ _ bq hq hr a1 b1 c1 (by rw [c2, e]))
  obtain ⟨_, _, d | ⟨b', cs, f1, f2, f3, _⟩⟩ := d2
  · rw [c1] at d; cases d.1
  rw [c1] at f1; cases f1
  obtain ⟨_, _, d | ⟨b', cs', f4, f5, f6, _⟩⟩ := d4
  · rw [c2] at d; cases d.1
  rw [c2] at f4; cases f4
  have hu : P.underlying tS = some (.slice el) := by
    cases hti : T.ti tS with
    | none => rw [hti] at ht; cases ht
    | some i =>
      rw [hti] at ht
      exact und_slice (hT.ti _ _ hti) (by simpa using ht)
  have hpos : 0 < L2.cap * kr := Nat.mul_pos (by omega) hk
  refine .inr ⟨.bool false, w, ?_, .bool false, .b false, M, nx, σ, id, rfl, hK, hm, fun b hb => ⟨hb, rfl⟩, rfl, fun _ _ h => h, FrS.refl _ _ _, hl, fun _ _ => rfl⟩
  · rw [run_callFunc_extern hf hname hb hnx he,
      Lib.run_overlaps_apart w tS tR el hu ei.size (fun w => run_size (hT.ti _ _ hei) w) ⟨bq, lq * kq, none⟩ ⟨br, lr * kr, none⟩ nq _ nr _ hbb eq er (L1.cap * kq) (L2.cap * kr)
        (by simp [World.shape?, f2, f3]) (by simp [World.shape?, f5, f6]) (by omega) (by simp [World.frozen?, f2]) (by simp [World.frozen?, f2])]
    rfl
end
attribute [go_sem] SV.capd
end Go.Gx
/-
  A call to which own memory is lent, and which hands back new memory.
-/
set_option linter.unusedVariables false
set_option linter.unusedSimpArgs false
namespace Go.Gx
open Go.RowKit

mutual
/-- Nothing read-only in it. -/
def SV.own : SV → Prop
  | .r x => x.flat = true
  | .ptr .. => True
  | .sl .. => True
  | .mp .. => True
  | .fn f a b => SV.ownL a ∧ SV.ownL b
  | .agg l => SV.ownL l
  | .tup l => SV.ownL l
def SV.ownL : List SV → Prop
  | [] => True
  | s :: l => s.own ∧ SV.ownL l
end
def Reg.own : Reg → Prop
  | .box l => SV.ownL l
  | .vec e k n g => ∀ i j, i < n → j < k → (g i j).own
  | .kmap kd has val st => ∀ a, has a = true → (val a).own
  | .iter m _ _ _ _ _ => m.own
def Reg.ownL : List Reg → Prop
  | [] => True
  | R :: l => R.own ∧ Reg.ownL l
theorem Reg.ownL_get : ∀ {l : List Reg} {i : Nat} {R : Reg}, Reg.ownL l → l[i]? = some R → R.own
  | [], i, R, _, h => by simp at h
  | R' :: l, 0, R, h, e => by simp at e; subst e; exact h.1
  | R' :: l, i + 1, R, h, e => Reg.ownL_get h.2 (by simpa using e)
section
variable {σ : Sig} {Z Z' : Nat → Prop} {w : World}
mutual
theorem SV.rel_own : ∀ (s : SV) (y : Value), s.own → s.rel σ Z w y → s.rel σ Z' w y
  | .r x, y, h, hr => RV.rel_flat h hr
  | .ptr .., y, h, hr => hr
  | .sl .., y, h, hr => hr
  | .mp .., y, h, hr => hr
  | .fn f a b, y, h, hr => by
    obtain ⟨vs, ws, e, h1, h2⟩ := hr
    exact ⟨vs, ws, e, SV.relL_own a vs h.1 h1, SV.relL_own b ws h.2 h2⟩
  | .agg l, y, h, hr => by
    obtain ⟨vs, e, h1, h2⟩ := hr
    exact ⟨vs, e, h1, SV.relL_own l vs h h2⟩
  | .tup l, y, h, hr => by
    obtain ⟨vs, e, h2⟩ := hr
    exact ⟨vs, e, SV.relL_own l vs h h2⟩
theorem SV.relL_own : ∀ (l : List SV) (ys : List Value), SV.ownL l → SV.relL σ Z w l ys → SV.relL σ Z' w l ys
  | [], ys, _, h => h
  | s :: l, ys, h, hr => by
    obtain ⟨v, vs', e, h1, h2⟩ := hr
    exact ⟨v, vs', e, SV.rel_own s v h.1 h1, SV.relL_own l vs' h.2 h2⟩
end
theorem RegOK_own {L : Loc} {R : Reg} (h : R.own) (hr : RegOK σ Z w L R) : RegOK σ Z' w L R := by
  cases R with
  | box l =>
    obtain ⟨b, cs, ty, h1, h2, h3, h4⟩ := hr
    exact ⟨b, cs, ty, h1, h2, h3, SV.relL_own l cs h h4⟩
  | vec e k n g =>
    obtain ⟨h0, hm, hr⟩ := hr
    refine ⟨h0, hm, hr.imp id fun ⟨b, cs, h1, h2, h3, ho, h5⟩ => ⟨b, cs, h1, h2, h3, ho, fun i j hi hj => ?_⟩⟩
    obtain ⟨v, v1, v0, v2⟩ := h5 i j hi hj
    exact ⟨v, v1, v0, SV.rel_own _ _ (h i j hi hj) v2⟩
  | kmap kd has val st =>
    obtain ⟨b, es, ck, h1, h2, h3, h4⟩ := hr
    exact ⟨b, es, ck, h1, h2, h3.mono fun a v ha hv => SV.rel_own _ _ (h a ha) hv, h4⟩
  | iter m f c all left la =>
    obtain ⟨b, mo, seen, sp, h1, h2, h3, h4, h5⟩ := hr
    exact ⟨b, mo, seen, sp, h1, h2, h3, SV.rel_own _ _ h h4, h5⟩
end

variable {P : Program}
theorem callK_lentOwn {np : Nat} {f : FuncId} {args : List SV} {S : SV} {Rs' : List Reg} {M : Mem} {nx : Nat} {K : SV → Mem → Nat → (SV → SV) → Prop} (hp : gviewL M args fun l => Own P f [] l S Rs') (hS : S.own) (hR : Reg.ownL Rs')
    (hK : K (S.ren fun i => nx + i) (addM nx Rs' (fun i => nx + i) M) (nx + Rs'.length) id) : CallK P np f args M nx K := by
  intro B W n0 σ w vs hm hn0 hl hrel
  have hlt : ∀ r R L b, M r = some R → σ r = some L → L.at_ = some b → b < w.heap.size := fun r R L b h1 h2 h3 => by
    obtain ⟨L', e1, e2⟩ := hm.reg r R h1
    rw [h2] at e1; cases e1
    exact e2.block h3
  obtain ⟨l, hown, hl⟩ := gviewL_rel' (Z' := fun b => b < w.heap.size) hm (fun b hb => hb.1.1) hlt args _ vs hp hrel
  have hW : Wof (fun _ => none) (memR []) = fun _ => False := by
    funext b
    exact propext (Iff.intro (fun ⟨r, R, L, h1, h2⟩ => nomatch h1) False.elim)
  have hm1 : MOK (fun _ => True) (Wof (fun _ => none) (memR [])) w.heap.size (fun _ => none) (memR []) (From ([] : List Reg).length) w :=
    ⟨fun b hb => trivial, fun _ _ => rfl, fun r R h => (by cases h), fun r r' R R' L L' b h => (by cases h), fun r R L b h => (by cases h)⟩
  obtain ⟨c1, c2⟩ := hown (fun _ => True) (fun _ => none) w vs hm1 (SV.relL_mono (fun _ _ h => h) (fun b hb => ⟨⟨⟨hb, trivial⟩, fun r R L h => (by cases h)⟩, rfl⟩) _ _ hl)
  refine .inl ⟨c1, c2.mono fun e w' h' => ?_⟩
  obtain ⟨y, σ', rfl, hm', hr, hf, _⟩ := h'
  rw [hW] at hm' hf
  have hsame : ∀ b, b < w.heap.size → w'.heap[b]? = w.heap[b]? := fun b hb => hf.block b hb (fun h => h)
  let σ2 : Sig := fun r => if nx ≤ r then σ' (r - nx) else σ r
  let M2 : Mem := addM nx Rs' (fun i => nx + i) M
  have hσ2 : (fun i => σ2 (nx + i)) = σ' := by
    funext i
    simp [σ2]
  have hs2 : SigLe σ σ2 := fun r L h => by
    show (if nx ≤ r then _ else _) = _
    rw [if_neg]
    · exact h
    · intro hr
      rw [hm.fresh r hr] at h; cases h
  have hltσ : ∀ r L, σ r = some L → r < nx := fun r L h => by
    rcases Nat.lt_or_ge r nx with h1 | h1
    · exact h1
    · rw [hm.fresh r h1] at h; cases h
  have hk2 : ∀ r R, M2 r = some R → (∃ i R', r = nx + i ∧ memR Rs' i = some R' ∧ R = R'.ren fun i => nx + i) ∨ (M r = some R ∧ r < nx) := by
    intro r R h
    have h : addM nx Rs' (fun i => nx + i) M r = some R := h
    rw [addM_at] at h
    split at h
    · rename_i hr
      left
      refine ⟨r - nx, ?_⟩
      cases hq : Rs'[r - nx]? with
      | none => rw [hq] at h; cases h
      | some R' => rw [hq] at h; cases h; exact ⟨R', by omega, by rw [memR_get]; exact hq, rfl⟩
    · obtain ⟨L, g1, _⟩ := hm.reg r R h
      exact .inr ⟨h, hltσ r L g1⟩
  have hnew : ∀ i R L b, memR Rs' i = some R → σ' i = some L → L.at_ = some b → w.heap.size ≤ b := fun i R L b h1 h2 h3 => (hm'.own i R L b h1 h2 h3).elim False.elim id
  have hz2 : ∀ b, Zof B σ M w b → Zof B σ2 M2 w' b := fun b hb => ⟨⟨Nat.lt_of_lt_of_le hb.1.1 hf.size, hb.1.2⟩, fun r R L h1 h2 h3 => by
    rcases hk2 r R h1 with ⟨i, R', rfl, e1, _⟩ | ⟨e2, e3⟩
    · have : σ' i = some L := by rw [← hσ2]; exact h2
      have := hnew i R' L b e1 this h3
      have := hb.1.1; omega
    · have : σ2 r = σ r := if_neg (by omega)
      rw [this] at h2
      exact hb.2 r R L e2 h2 h3⟩
  have hkeep : Keep (Zof B σ M w) (Zof B σ2 M2 w') w w' := fun b hb => ⟨hz2 b hb, hsame b hb.1.1⟩
  refine ⟨y, S.ren fun i => nx + i, M2, nx + Rs'.length, σ2, id, rfl, hK, ⟨hm.newB, fun r hr => ?_, fun r R h => ?_, fun r r' R R' L L' b h1 h2 h3 h4 h5 h6 => ?_, fun r R L b h1 h2 h3 => ?_⟩, hkeep, ?_, fun t z hz => SV.rel_mono hs2 hkeep _ _ hz, ⟨hf.os, hf.tape, hf.output, hf.size, hf.drawn, fun b hb hw => hsame b (by omega)⟩, by omega, fun r hr => if_neg (by omega)⟩
  · have hr' : nx + Rs'.length ≤ r := hr
    show (if nx ≤ r then _ else _) = _
    rw [if_pos (by omega)]
    exact hm'.fresh (r - nx) (show Rs'.length ≤ r - nx by omega)
  · rcases hk2 r R h with ⟨i, R', rfl, e1, rfl⟩ | ⟨e2, e3⟩
    · obtain ⟨L, g1, g2⟩ := hm'.reg i R' e1
      refine ⟨L, by rw [← g1, ← hσ2], ?_⟩
      refine RegOK_ren.2 ?_
      rw [hσ2]
      exact RegOK_own (Reg.ownL_get hR (by rw [← memR_get]; exact e1)) g2
    · obtain ⟨L, g1, g2⟩ := hm.reg r R e2
      exact ⟨L, hs2 _ _ g1, g2.mono hs2 hkeep fun b hb => hsame b (hlt r R L b e2 g1 hb)⟩
  · rcases hk2 r R h1 with ⟨i, R1, rfl, e1, _⟩ | ⟨e2, e3⟩
    · have g3 : σ' i = some L := by rw [← hσ2]; exact h3
      rcases hk2 r' R' h2 with ⟨i', R2, rfl, e1', _⟩ | ⟨e2', e3'⟩
      · have g4 : σ' i' = some L' := by rw [← hσ2]; exact h4
        rw [hm'.inj i i' R1 R2 L L' b e1 e1' g3 g4 h5 h6]
      · exfalso
        have : σ2 r' = σ r' := if_neg (by omega)
        rw [this] at h4
        have q1 := hlt r' R' L' b e2' h4 h6
        have := hnew i R1 L b e1 g3 h5
        omega
    · have g3 : σ r = some L := by
        have : σ2 r = σ r := if_neg (by omega)
        rw [← this]; exact h3
      rcases hk2 r' R' h2 with ⟨i', R2, rfl, e1', _⟩ | ⟨e2', e3'⟩
      · exfalso
        have g4 : σ' i' = some L' := by rw [← hσ2]; exact h4
        have q1 := hlt r R L b e2 g3 h5
        have := hnew i' R2 L' b e1' g4 h6
        omega
      · have : σ2 r' = σ r' := if_neg (by omega)
        rw [this] at h4
        exact hm.inj r r' R R' L L' b e2 e2' g3 h4 h5 h6
  · rcases hk2 r R h1 with ⟨i, R1, rfl, e1, _⟩ | ⟨e2, e3⟩
    · have g3 : σ' i = some L := by rw [← hσ2]; exact h2
      have := hnew i R1 L b e1 g3 h3
      right; omega
    · have : σ2 r = σ r := if_neg (by omega)
      rw [this] at h2
      exact hm.own r R L b e2 h2 h3
  · refine (SV.rel_ren _ _).2 ?_
    rw [hσ2]
    exact SV.rel_own _ _ hS hr
attribute [go_sem] SV.own SV.ownL Reg.own Reg.ownL
end Go.Gx
/-
  Maps that are ranged over; regions of open order with writes.
-/
set_option linter.unusedVariables false
set_option linter.unusedSimpArgs false
namespace Go.Gx
open Go.RowKit Go.ChangeMaps

section
variable {P : Program} {T : Tab} {B W F : Nat → Prop} {w0 : W0} {N : Cfg} {n0 : Nat} {σ σ' : Sig} {M M' : Mem} {nx : Nat} {w w' : World} {a : Act} {E E' : Env}

theorem MapOf.born_inj {kd : KK} {has : Int → Bool} {R : Int → Value → Prop} {es : List MapEntry} {ck : Nat} (h : MapOf kd has R es ck) {x y : MapEntry} (hx : x ∈ es) (hy : y ∈ es) (hb : x.born = y.born) : x = y := by
  obtain ⟨i, hi, rfl⟩ := List.getElem_of_mem hx
  obtain ⟨j, hj, rfl⟩ := List.getElem_of_mem hy
  have hp := List.pairwise_iff_getElem.1 h.2.2.1
  rcases Nat.lt_trichotomy i j with h1 | h1 | h1
  · exact absurd hb (hp i j hi hj h1).2
  · subst h1; rfl
  · exact absurd hb.symm (hp j i hj hi h1).2
theorem MapOf.key_inj {kd : KK} {has : Int → Bool} {R : Int → Value → Prop} {es : List MapEntry} {ck : Nat} (h : MapOf kd has R es ck) {x y : MapEntry} (hx : x ∈ es) (hy : y ∈ es) (hb : x.key = y.key) : x = y := by
  obtain ⟨i, hi, rfl⟩ := List.getElem_of_mem hx
  obtain ⟨j, hj, rfl⟩ := List.getElem_of_mem hy
  have hp := List.pairwise_iff_getElem.1 h.2.2.1
  rcases Nat.lt_trichotomy i j with h1 | h1 | h1
  · exact absurd hb (hp i j hi hj h1).1
  · subst h1; rfl
  · exact absurd hb.symm (hp j i hj hi h1).1

/-- The map of a region: what is known of its block. -/
theorem reg_map (hm : MOK B W n0 σ M F w) {q : Nat} {kd : KK} {has : Int → Bool} {val : Int → SV} {st : Option ((Int → Nat) × Nat)} (hQ : M q = some (.kmap kd has val st)) {L : Loc} {b : Nat} (h1 : σ q = some L) (h2 : L.at_ = some b) :
    ∃ (es : Array MapEntry) (ck : Nat), w.heap[b]? = some (.map es ck) ∧ MapOf kd has (fun a v => (val a).rel σ (Zof B σ M w) w v) es.toList ck ∧ ∀ f c, st = some (f, c) → ck = c ∧ ∀ e ∈ es.toList, ∀ a, e.key = kd.val a → e.born = f a := by
  obtain ⟨L', e1, b', es, ck, f1, f2, f3, f4⟩ := hm.reg q _ hQ
  rw [h1] at e1; cases e1
  rw [h2] at f1; cases f1
  exact ⟨es, ck, f2, f3, f4⟩

theorem set_same_w (hm : MOK B W n0 σ M F w) {ref : Nat} {R R' : Reg} (hM : M ref = some R) (hR : ∀ L Z, σ ref = some L → RegOK σ Z w L R → RegOK σ Z w L R') :
    MOK B W n0 σ (upd M ref (some R')) F w ∧ Keep (Zof B σ M w) (Zof B σ (upd M ref (some R')) w) w w := by
  have hz : ∀ b, Zof B σ M w b → Zof B σ (upd M ref (some R')) w b := by
    intro b hb
    refine ⟨hb.1, fun r R1 L h1 h2 h3 => ?_⟩
    by_cases hr : r = ref
    · subst hr; exact hb.2 r R L hM h2 h3
    · rw [upd_ne _ _ hr] at h1; exact hb.2 r R1 L h1 h2 h3
  have hk : Keep (Zof B σ M w) (Zof B σ (upd M ref (some R')) w) w w := fun b hb => ⟨hz b hb, rfl⟩
  refine ⟨⟨hm.newB, hm.fresh, fun r R1 h => ?_, fun r r' R1 R2 L1 L2 x h1 h2 h3 h4 h5 h6 => ?_, fun r R1 L x h1 h2 h3 => ?_⟩, hk⟩
  · by_cases hr : r = ref
    · subst hr
      rw [upd_same] at h; cases h
      obtain ⟨L, e1, e2⟩ := hm.reg r R hM
      exact ⟨L, e1, hR _ _ e1 (e2.mono (fun _ _ h => h) hk (fun _ _ => rfl))⟩
    · rw [upd_ne _ _ hr] at h
      obtain ⟨L, e1, e2⟩ := hm.reg r R1 h
      exact ⟨L, e1, e2.mono (fun _ _ h => h) hk (fun _ _ => rfl)⟩
  · have ex : ∀ r R1, upd M ref (some R') r = some R1 → ∃ R2, M r = some R2 := by
      intro r R1 h
      by_cases hr : r = ref
      · exact ⟨R, by rw [hr]; exact hM⟩
      · rw [upd_ne _ _ hr] at h; exact ⟨_, h⟩
    obtain ⟨q1, a1⟩ := ex _ _ h1
    obtain ⟨q2, a2⟩ := ex _ _ h2
    exact hm.inj r r' q1 q2 L1 L2 x a1 a2 h3 h4 h5 h6
  · by_cases hr : r = ref
    · subst hr; exact hm.own r R L x hM h2 h3
    · rw [upd_ne _ _ hr] at h1; exact hm.own r R1 L x h1 h2 h3

/-- 'range m': a new iterator; the entries' stamps and the map's clock are given names. -/
theorem GOp_krange (hT : TabOK P T) {K : Env → Mem → Nat → Prop} {d : Option Tmp} {t ty : TypeId} {pos : String} {af : Array Edge} {x : Operand} {q : Nat} {kd : KK} {has : Int → Bool} {val : Int → SV} {st : Option ((Int → Nat) × Nat)}
    (hx : ev E x = .mp q) (hQ : M q = some (.kmap kd has val st)) (ht : (mapK T t).isSome = true) (hd : dOK N.n d)
    (h : ∀ f c, K (envPut E d (.ptr nx 0 1 0)) (upd (upd M q (some (.kmap kd has val (some (f, c))))) nx (some (.iter (.mp q) f c has has none))) (nx + 1)) :
    GOpW P N ⟨d, .range t x, ty, pos, af, none⟩ E M nx K := by
  intro B W w0 σ a w hs next Q' hK
  refine wpIn_of_wp ?_
  obtain ⟨⟨kd', e⟩, he⟩ := Option.isSome_iff_exists.1 ht
  obtain ⟨k, hu, hk⟩ := mapK_spec hT he
  have hr := ev_rel hs.env x
  rw [hx] at hr
  obtain ⟨L, b, h1, h2, h3⟩ := hr
  obtain ⟨es, ck, g1, g2, g3⟩ := reg_map hs.mem hQ h1 h2
  have hrun : (execOp a.eval ⟨d, .range t x, ty, pos, af, none⟩).run P w = .ok (.value (.pointer (some ⟨w.heap.size, 0, none⟩))) (w.alloc (.mapIter (some b) ck #[] ck)) := by
    simp [execOp, h3, Instr.range, run_underlying hu, MapKept.run_getObj_map g1, newObj, Sem.run, Result.andThen]
  let f : Int → Nat := fun a => ((es.toList.find? fun e => decide (kd.dec e.key = a)).map (·.born)).getD 0
  have hf : ∀ e ∈ es.toList, ∀ a, e.key = kd.val a → e.born = f a := by
    intro e he a hka
    show e.born = _
    cases hq : es.toList.find? (fun e => decide (kd.dec e.key = a)) with
    | none =>
      have := List.find?_eq_none.1 hq e he
      rw [hka] at this; simp [KK.dec_val] at this
    | some e' =>
      have h4 := List.find?_some hq
      have h5 := List.mem_of_find?_eq_some hq
      have h6 : e'.key = kd.val a := by
        obtain ⟨a', k1, _⟩ := g2.1 e' h5
        rw [k1, KK.dec_val] at h4
        rw [k1, of_decide_eq_true h4]
      have h7 : e = e' := g2.key_inj he h5 (by rw [hka, h6])
      have h8 : f a = e'.born := by
        show ((es.toList.find? _).map (·.born)).getD 0 = _
        rw [hq]; rfl
      rw [h7, h8]
  obtain ⟨m1, m2⟩ := set_same_w (R' := .kmap kd has val (some (f, ck))) hs.mem hQ (fun L' Z hL hR => by
    obtain ⟨b', es', ck', q1, q2, q3, q4⟩ := hR
    rw [h1] at hL; cases hL
    rw [h2] at q1; cases q1
    rw [g1] at q2; cases q2
    exact ⟨b, es, ck, h2, g1, q3, fun f' c' hc => by cases hc; exact ⟨rfl, hf⟩⟩)
  have hold : ∀ b', b' < w.heap.size → (w.alloc (.mapIter (some b) ck #[] ck)).heap[b']? = w.heap[b']? := fun b' h => heap_old w _ b' h
  have hQ' : upd M q (some (.kmap kd has val (some (f, ck)))) q = some (.kmap kd has val (some (f, ck))) := upd_same ..
  obtain ⟨e1, e2, e3⟩ := mem_new (w' := w.alloc (.mapIter (some b) ck #[] ck)) (L := ⟨some w.heap.size, 0⟩) (R := .iter (.mp q) f ck has has none) m1 (Nat.le_refl nx) hs.fr.size (by simp) hold (fun b hb => by cases hb; exact Nat.le_refl _)
    (fun σ' Z' hs' hk => ⟨w.heap.size, some b, #[], ck, rfl, heap_new w _, Nat.le_refl _, ⟨L, b, hs' _ _ h1, h2, rfl⟩, fun a ha => by simp [ha], by simp⟩)
  unfold Oper.wp
  rw [hrun]
  refine hK _ _ _ _ _ _ (h f ck) (St.put ⟨fun t => SV.rel_mono e3 e2 _ _ (SV.rel_mono (fun _ _ h => h) m2 _ _ (hs.env t)), e1.weaken fun r hr => ⟨Nat.le_of_succ_le hr, Nat.ne_of_gt hr⟩, hs.fr.step ⟨rfl, rfl, rfl, by simp, Nat.le_refl _, fun b hb _ => hold b (Nat.lt_of_lt_of_le hb hs.fr.size)⟩, (hs.defers.keep m2).keep e2, hs.size, Nat.le_succ_of_le hs.low, fun r hr => (upd_ne _ _ (Nat.ne_of_lt (Nat.lt_of_lt_of_le hr hs.low))).trans (hs.pin r hr), hs.good⟩ hd ?_)
  exact ⟨_, w.heap.size, upd_same .., rfl, rfl⟩

theorem GOp_range (hT : TabOK P T) {K : Env → Mem → Nat → Prop} {d : Option Tmp} {t ty : TypeId} {pos : String} {af : Array Edge} {x : Operand} {q : Nat} {has : Int → Bool} {val : Int → SV} {st : Option ((Int → Nat) × Nat)}
    (hx : ev E x = .mp q) (hQ : M q = some (.map has val st)) (ht : (mapK T t).isSome = true) (hd : dOK N.n d)
    (h : ∀ f c, K (envPut E d (.ptr nx 0 1 0)) (upd (upd M q (some (.map has val (some (f, c))))) nx (some (.iter (.mp q) f c has has none))) (nx + 1)) :
    GOpW P N ⟨d, .range t x, ty, pos, af, none⟩ E M nx K :=
  GOp_krange (kd := .i) hT hx hQ ht hd h
/-- 'next': nothing is left, or some key that is left. -/
theorem GOp_knext {kd : KK} {K : Env → Mem → Nat → Prop} {d : Option Tmp} {ty : TypeId} {pos : String} {af : Array Edge} {x : Operand} {q ref kk : Nat} {f : Int → Nat} {c : Nat} {all left has : Int → Bool} {la : Option Int} {val : Int → SV}
    (hx : ev E x = .ptr ref 0 kk 0) (hM : M ref = some (.iter (.mp q) f c all left la)) (hQ : M q = some (.kmap kd has val (some (f, c)))) (hall : ∀ a, has a = all a) (hd : dOK N.n d)
    (h1 : ∀ a, has a = true → left a = true → K (envPut E d (.tup [.b true, kd.sv a, val a])) (upd M ref (some (.iter (.mp q) f c all (fun x => left x && !decide (x = a)) (some a)))) nx)
    (h0 : (∀ a, has a = true → left a = false) → K (envPut E d (.tup [.b false])) M nx) :
    GOpW P N ⟨d, .next x false, ty, pos, af, none⟩ E M nx K := by
  intro B W w0 σ a w hs nxt Q' hK
  refine wpIn_of_wp ?_
  have hr := ev_rel hs.env x
  rw [hx] at hr
  obtain ⟨L, b, r1, r2, r3⟩ := hr
  obtain ⟨L', e1, b', mo, seen, sp, g1, g2, g3, g4, g5, g6⟩ := hs.mem.reg ref _ hM
  rw [r1] at e1; cases e1
  rw [r2] at g1; cases g1
  obtain ⟨Lq, bq, k1, k2, k3⟩ := g4
  cases k3
  obtain ⟨es, ck, q1, q2, q3⟩ := reg_map hs.mem hQ k1 k2
  obtain ⟨rfl, q4⟩ := q3 f c rfl
  have hne : bq ≠ b := fun e => by
    subst e; rw [q1] at g2; cases g2
  have r3' : a.eval x = .pointer (some ⟨b, 0, none⟩) := by rw [r3]; simp
  unfold Oper.wp
  rcases run_next_at (P := P) w ty b bq ck sp seen es ck g2 q1 q2.2.2.2 g3 with ⟨n1, n2⟩ | ⟨en, n1, w1, n2, n3⟩
  · have hrun : (execOp a.eval ⟨d, .next x false, ty, pos, af, none⟩).run P w = .ok (.value (.tuple #[.bool false])) w := by
      simp [execOp, r3', n2, Result.andThen]
    rw [hrun]
    refine hK _ _ _ _ _ _ (h0 fun k hk => ?_) (St.put hs hd ⟨[.bool false], rfl, _, _, rfl, rfl, rfl⟩)
    cases hl : left k with
    | false => rfl
    | true =>
      obtain ⟨e', m1, m2⟩ := q2.2.1 k hk
      have m3 := (g5 k (by rw [← hall]; exact hk)).1 hl
      have : e' ∈ (leftOf es seen).toList := by
        simp only [leftOf, Array.toList_filter, List.mem_filter]
        refine ⟨m1, ?_⟩
        rw [q4 e' m1 k m2]
        simpa using m3
      have hz : (leftOf es seen).toList = [] := List.eq_nil_of_length_eq_zero (by simpa using n1)
      rw [hz] at this; simp at this
  · have hrun : (execOp a.eval ⟨d, .next x false, ty, pos, af, none⟩).run P w = .ok (.value (.tuple #[.bool true, en.key, en.val])) (setBlock w1 b (.mapIter (some bq) ck (seen.push en.born) ck)) := by
      simp [execOp, r3', n3, Result.andThen]
    rw [hrun]
    simp only [leftOf, Array.toList_filter, List.mem_filter] at n1
    obtain ⟨n4, n5⟩ := n1
    obtain ⟨k, p1, p2, p3, p4⟩ := q2.1 en n4
    have hb := q4 en n4 k p1
    have hlk : left k = true := (g5 k (by rw [← hall]; exact p2)).2 (by rw [← hb]; simpa using n5)
    have hw1 : w1.heap = w.heap ∧ w1.os = w.os ∧ w1.tape = w.tape ∧ w1.output = w.output ∧ w.drawn ≤ w1.drawn := by rcases n2 with rfl | rfl <;> exact ⟨rfl, rfl, rfl, rfl, by first | exact Nat.le_refl _ | exact Nat.le_succ _⟩
    have hbw : w1.heap[b]? = some (.mapIter (some bq) ck seen sp) := by rw [hw1.1]; exact g2
    obtain ⟨z1, z2, z3⟩ := heap_setB (o' := .mapIter (some bq) ck (seen.push en.born) ck) hbw
    have hsame : ∀ x, x ≠ b → (setBlock w1 b (.mapIter (some bq) ck (seen.push en.born) ck)).heap[x]? = w.heap[x]? := fun x hx => by rw [z2 x hx, hw1.1]
    have hsz : (setBlock w1 b (.mapIter (some bq) ck (seen.push en.born) ck)).heap.size = w.heap.size := by rw [z3, hw1.1]
    obtain ⟨m1, m2⟩ := mem_set (w' := setBlock w1 b (.mapIter (some bq) ck (seen.push en.born) ck)) (R := .iter (.mp q) f ck all (fun x => left x && !decide (x = k)) (some k)) hs.mem hM r1 r2 hsz hsame
      (fun Z' hk => ⟨b, some bq, seen.push en.born, ck, r2, z1, Nat.le_refl _, ⟨Lq, bq, k1, k2, rfl⟩, fun y hy => by
        have h5 := g5 y hy
        simp only [Array.toList_push, List.mem_append, List.mem_singleton, not_or, Bool.and_eq_true, Bool.not_eq_true', decide_eq_false_iff_not]
        rw [h5]
        constructor
        · rintro ⟨t1, t2⟩
          refine ⟨t1, fun t3 => t2 ?_⟩
          obtain ⟨ey, u1, u2⟩ := q2.2.1 y (by rw [hall]; exact hy)
          have : ey = en := q2.born_inj u1 n4 (by rw [q4 ey u1 y u2, t3])
          subst this
          exact KK.val_inj (u2.symm.trans p1)
        · rintro ⟨t1, t2⟩
          exact ⟨t1, fun t3 => t2 (by rw [t3, hb])⟩, fun y hy => by
        cases hy
        exact ⟨rfl, by simp [hb]⟩⟩)
    have hfr : FrS W w0.heap.size w (setBlock w1 b (.mapIter (some bq) ck (seen.push en.born) ck)) := by
      refine ⟨hw1.2.1, hw1.2.2.1, hw1.2.2.2.1, by rw [hsz]; exact Nat.le_refl _, hw1.2.2.2.2, fun x hx hw => hsame x fun e => ?_⟩
      subst e
      rcases hs.mem.own ref _ L x hM r1 r2 with h' | h'
      · exact hw h'
      · omega
    refine hK _ _ _ _ _ _ (h1 k p2 hlk) (St.put (hs.go m1 hfr m2 (fun t z hz => SV.rel_mono (fun _ _ h => h) m2 _ _ hz) hs.low fun _ _ => rfl) hd ?_)
    refine ⟨[.bool true, en.key, en.val], rfl, _, _, rfl, rfl, _, _, rfl, by rw [p1]; exact KK.sv_rel kd k _, _, _, rfl, ?_, rfl⟩
    exact SV.rel_mono (fun _ _ h => h) m2 _ _ p4

theorem GOp_next {K : Env → Mem → Nat → Prop} {d : Option Tmp} {ty : TypeId} {pos : String} {af : Array Edge} {x : Operand} {q ref kk : Nat} {f : Int → Nat} {c : Nat} {all left has : Int → Bool} {la : Option Int} {val : Int → SV}
    (hx : ev E x = .ptr ref 0 kk 0) (hM : M ref = some (.iter (.mp q) f c all left la)) (hQ : M q = some (.map has val (some (f, c)))) (hall : ∀ a, has a = all a) (hd : dOK N.n d)
    (h1 : ∀ a, has a = true → left a = true → K (envPut E d (.tup [.b true, .i a, val a])) (upd M ref (some (.iter (.mp q) f c all (fun x => left x && !decide (x = a)) (some a)))) nx)
    (h0 : (∀ a, has a = true → left a = false) → K (envPut E d (.tup [.b false])) M nx) :
    GOpW P N ⟨d, .next x false, ty, pos, af, none⟩ E M nx K :=
  GOp_knext (kd := .i) hx hM hQ hall hd h1 h0
/-- The key and the element of the step. -/
theorem GOp_kentry {kd : KK} {K : Env → Mem → Nat → Prop} {d : Option Tmp} {ty : TypeId} {pos : String} {af : Array Edge} {x : Operand} {q ref kk : Nat} {f : Int → Nat} {c : Nat} {all left has : Int → Bool} {k : Int} {val : Int → SV}
    (hx : ev E x = .ptr ref 0 kk 0) (hM : M ref = some (.iter (.mp q) f c all left (some k))) (hQ : M q = some (.kmap kd has val (some (f, c)))) (hk : has k = true) (hd : dOK N.n d)
    (h : K (envPut E d (.tup [kd.sv k, val k])) M nx) : GOpW P N ⟨d, .entry x, ty, pos, af, none⟩ E M nx K := by
  intro B W w0 σ a w hs nxt Q' hK
  refine wpIn_of_wp ?_
  have hr := ev_rel hs.env x
  rw [hx] at hr
  obtain ⟨L, b, r1, r2, r3⟩ := hr
  obtain ⟨L', e1, b', mo, seen, sp, g1, g2, g3, g4, g5, g6⟩ := hs.mem.reg ref _ hM
  rw [r1] at e1; cases e1
  rw [r2] at g1; cases g1
  obtain ⟨Lq, bq, k1, k2, k3⟩ := g4
  cases k3
  obtain ⟨es, ck, q1, q2, q3⟩ := reg_map hs.mem hQ k1 k2
  obtain ⟨rfl, q4⟩ := q3 f c rfl
  obtain ⟨rfl, g7⟩ := g6 k rfl
  have r3' : a.eval x = .pointer (some ⟨b, 0, none⟩) := by rw [r3]; simp
  obtain ⟨e', m1, m2⟩ := q2.2.1 k hk
  obtain ⟨k', p1, p2, p3, p4⟩ := q2.1 e' m1
  have := KK.val_inj (m2.symm.trans p1)
  subst this
  have hfind : es.find? (·.born == f k) = some e' := by
    rw [← Array.find?_toList]
    have : ∃ e, es.toList.find? (·.born == f k) = some e := by
      cases hq : es.toList.find? (·.born == f k) with
      | none =>
        have := List.find?_eq_none.1 hq e' m1
        rw [q4 e' m1 k m2] at this; simp at this
      | some e => exact ⟨e, rfl⟩
    obtain ⟨e, he⟩ := this
    rw [he]
    have h4 := List.find?_some he
    have h5 := List.mem_of_find?_eq_some he
    rw [q2.born_inj h5 m1 (by rw [q4 e' m1 k m2]; simpa using h4)]
  have hrun : (execOp a.eval ⟨d, .entry x, ty, pos, af, none⟩).run P w = .ok (.value (.tuple #[kd.val k, e'.val])) w := by
    simp [execOp, r3', Instr.entry, getObj, Sem.run, g2, g7, q1, hfind, m2, Result.andThen]
  unfold Oper.wp
  rw [hrun]
  exact hK _ _ _ _ _ _ h (St.put hs hd ⟨[kd.val k, e'.val], rfl, _, _, rfl, KK.sv_rel kd k _, _, _, rfl, p4, rfl⟩)
theorem GOp_entry {K : Env → Mem → Nat → Prop} {d : Option Tmp} {ty : TypeId} {pos : String} {af : Array Edge} {x : Operand} {q ref kk : Nat} {f : Int → Nat} {c : Nat} {all left has : Int → Bool} {k : Int} {val : Int → SV}
    (hx : ev E x = .ptr ref 0 kk 0) (hM : M ref = some (.iter (.mp q) f c all left (some k))) (hQ : M q = some (.map has val (some (f, c)))) (hk : has k = true) (hd : dOK N.n d)
    (h : K (envPut E d (.tup [.i k, val k])) M nx) : GOpW P N ⟨d, .entry x, ty, pos, af, none⟩ E M nx K :=
  GOp_kentry (kd := .i) hx hM hQ hk hd h
end
end Go.Gx
/-
  Regions of open order with writes: all orders as a tree; what depends on no memory goes first.
-/
set_option linter.unusedVariables false
set_option linter.unusedSimpArgs false
namespace Go.Gx
open Go.RowKit

inductive TT where
  | done
  | bad
  | nil
  | alt (i : Nat) (sub more : TT)
  | take (i : Nat) (sub : TT)

/-- What goes first: it reads no memory. -/
def takes (o : Oper) : Bool := o.guard.isNone && match o.op with | .fieldAddr .. | .move _ | .assign _ => true | _ => false
def gtake (T : Tab) (E : Env) : Op → GR
  | .fieldAddr t x f => gfield T t (ev E x) f
  | .move x | .assign x => .pure True (ev E x)
  | _ => .bad
def TT.make (ops : Array Oper) : Nat → Array Bool → TT
  | 0, l => if (Region.ready .any ops l).isEmpty then .done else .bad
  | n + 1, l =>
    let r := Region.ready .any ops l
    if r.isEmpty then .done else
    match r.find? fun i => ((ops[i]?).map takes).getD false && Region.free .any ops l i with
    | some i => .take i (TT.make ops n (l.setIfInBounds i true))
    | none => r.foldr (fun i t => .alt i (TT.make ops n (l.setIfInBounds i true)) t) .nil

section
variable (P : Program) (T : Tab) (N : Cfg)
def TQ (K : Env → Mem → Nat → Prop) : GQ := fun e E M nx => match e with | .normal => K E M nx | _ => True
def GTk (g : GR) (d : Option Tmp) (K : Env → Mem → Nat → Prop) (E : Env) (M : Mem) (nx : Nat) : Prop :=
  match g with
  | .pure ob s => ob ∧ dOK N.n d ∧ K (envPut E d s) M nx
  | _ => False
def GU (all : Array Oper) : TT → List It → GQ → Env → Mem → Nat → Prop
  | .done, k, Q, E, M, nx => GK P T N k Q .normal E M nx
  | .bad, _, _, _, _, _ => False
  | .nil, _, _, _, _, _ => True
  | .alt i sub more, k, Q, E, M, nx => (match all[i]? with | some o => GO P T N all [o] [] (TQ (GU all sub k Q)) E M nx | none => False) ∧ GU all more k Q E M nx
  | .take i sub, k, Q, E, M, nx => match all[i]? with | some o => GTk N (gtake T E o.op) o.dst (GU all sub k Q) E M nx | none => False
def GUo (o : Option Oper) (all : Array Oper) (sub : TT) (k : List It) (Q : GQ) (E : Env) (M : Mem) (nx : Nat) : Prop :=
  match o with | some o => GO P T N all [o] [] (TQ (GU P T N all sub k Q)) E M nx | none => False
def GUt (o : Option Oper) (all : Array Oper) (sub : TT) (k : List It) (Q : GQ) (E : Env) (M : Mem) (nx : Nat) : Prop :=
  match o with | some o => GTk N (gtake T E o.op) o.dst (GU P T N all sub k Q) E M nx | none => False
end
section
variable {P : Program} {T : Tab} {N : Cfg} {k : List It} {Q : GQ} {E : Env} {M : Mem} {nx : Nat}
@[go_sem] theorem TQ_normal (K : Env → Mem → Nat → Prop) : TQ K .normal E M nx = K E M nx := (rfl)
@[go_sem] theorem GU_done (all : Array Oper) : GU P T N all .done k Q E M nx = GK P T N k Q .normal E M nx := (rfl)
@[go_sem] theorem GU_nil (all : Array Oper) : GU P T N all .nil k Q E M nx = True := (rfl)
@[go_sem] theorem GU_alt (all : Array Oper) (i : Nat) (s m : TT) : GU P T N all (.alt i s m) k Q E M nx = (GUo P T N all[i]? all s k Q E M nx ∧ GU P T N all m k Q E M nx) := (rfl)
@[go_sem] theorem GU_take (all : Array Oper) (i : Nat) (s : TT) : GU P T N all (.take i s) k Q E M nx = GUt P T N all[i]? all s k Q E M nx := (rfl)
@[go_sem] theorem GUo_some (all : Array Oper) (o : Oper) (s : TT) : GUo P T N (some o) all s k Q E M nx = GO P T N all [o] [] (TQ (GU P T N all s k Q)) E M nx := (rfl)
@[go_sem] theorem GUt_some (all : Array Oper) (d : Option Tmp) (op : Op) (ty : TypeId) (pos : String) (af : Array Edge) (g : Option (Nat × Bool)) (s : TT) :
    GUt P T N (some ⟨d, op, ty, pos, af, g⟩) all s k Q E M nx = GTk N (gtake T E op) d (GU P T N all s k Q) E M nx := (rfl)
@[go_sem] theorem GTk_pure (ob : Prop) (s : SV) (d : Option Tmp) (K : Env → Mem → Nat → Prop) : GTk N (.pure ob s) d K E M nx = (ob ∧ dOK N.n d ∧ K (envPut E d s) M nx) := (rfl)
@[go_sem] theorem gtake_fieldAddr (t : TypeId) (x : Operand) (f : Nat) : gtake T E (.fieldAddr t x f) = gfield T t (ev E x) f := (rfl)
@[go_sem] theorem gtake_move (x : Operand) : gtake T E (.move x) = .pure True (ev E x) := (rfl)
@[go_sem] theorem gtake_assign (x : Operand) : gtake T E (.assign x) = .pure True (ev E x) := (rfl)

theorem take_field (hT : TabOK P T) {t : TypeId} {f : Nat} {s s' : SV} {ob : Prop} (hg : gfield T t s f = .pure ob s') (hob : ob) {σ : Sig} {Z : Nat → Prop} {w0 : World} {x : Value} (hx : s.rel σ Z w0 x) :
    ∃ y, (∀ w, (Instr.fieldAt t x f).run P w = .ok y w) ∧ s'.rel σ Z w0 y := by
  unfold gfield at hg
  split at hg
  · rename_i sz by_ ze fs hti
    obtain ⟨fa, hu, hsz, hget⟩ := und_struct (hT.ti t _ hti) rfl
    split at hg
    · rename_i o sz' g hf
      obtain ⟨fd, h1, rfl, h3, _⟩ := hget f _ _ _ hf
      have key : ∀ (b q : Nat), sz' ≠ 0 → ∀ w, (Instr.fieldAt t (.pointer (some ⟨b, q, none⟩)) f).run P w = .ok (.pointer (some ⟨b, q + fd.offset, none⟩)) w := by
        intro b q h0 w
        simp [Instr.fieldAt, run_underlying hu, h1, Instr.sureAddr, fieldPlace, run_sizeIs h3, h0, add_none]
      split at hg
      · rename_i ref row k fld
        cases hg
        obtain ⟨L, b, g1, g2, rfl⟩ := hx
        exact ⟨_, key b _ hob, L, b, g1, g2, by congr 3; omega⟩
      · rename_i k n get row fld
        cases hg
        obtain ⟨b, q, rfl, hz, hc⟩ := hx
        exact ⟨_, key b _ hob, b, q, by congr 3; omega, hz, hc⟩
      · cases hg
    · cases hg
  · cases hg

theorem gu_alts {all : Array Oper} {f : Nat → TT} : ∀ (l : List Nat), GU P T N all (l.foldr (fun i t => .alt i (f i) t) .nil) k Q E M nx →
    ∀ i ∈ l, ∃ o, all[i]? = some o ∧ gops P T N all [o] E M nx (fun E M nx => GU P T N all (f i) k Q E M nx)
  | [], _, i, hi => by simp at hi
  | j :: l, h, i, hi => by
    simp only [List.foldr_cons, GU] at h
    rcases List.mem_cons.1 hi with rfl | hi
    · have h1 := h.1
      cases ho : all[i]? with
      | none => rw [ho] at h1; exact h1.elim
      | some o => rw [ho] at h1; exact ⟨o, rfl, h1⟩
    · exact gu_alts l h.2 i hi

theorem gu_any (hT : TabOK P T) {B W : Nat → Prop} {w0 : W0} {all : Array Oper} (hsel : Region.noSelect all = true) {R : Exit → Act → World → Prop}
    (hK : ∀ E M nx σ a w, GK P T N k Q .normal E M nx → St B W w0 N σ E M nx a w → R .normal a w) (hR : ∀ c a w, ¬ R (.panic c) a w) : ∀ (fuel : Nat) (listed : Array Bool) (E : Env) (M : Mem) (nx : Nat) (σ : Sig) (a : Act) (w : World),
    St B W w0 N σ E M nx a w → GU P T N all (TT.make all fuel listed) k Q E M nx → wpAnyIn Fence.wide 0 P .any all R fuel listed a w := by
  intro fuel
  induction fuel with
  | zero =>
    intro listed E M nx σ a w h hg
    simp only [TT.make] at hg
    split at hg
    · rename_i hr
      exact ⟨List.isEmpty_iff.1 hr, hK _ _ _ _ _ _ hg h⟩
    · exact hg.elim
  | succ fuel ih =>
    intro listed E M nx σ a w h hg
    simp only [TT.make] at hg
    split at hg
    · rename_i hr
      have hr' := List.isEmpty_iff.1 hr
      refine ⟨fun _ => hK _ _ _ _ _ _ hg h, fun i hi => ?_⟩
      rw [hr'] at hi; simp at hi
    · rename_i hr
      split at hg
      · rename_i i hi
        have hp := List.find?_some hi
        have hmem := List.mem_of_find?_eq_some hi
        simp only [Bool.and_eq_true] at hp
        obtain ⟨hp1, hp2⟩ := hp
        simp only [GU] at hg
        cases ho : all[i]? with
        | none => rw [ho] at hg; exact hg.elim
        | some o =>
          rw [ho] at hg hp1
          simp only [Option.map_some, Option.getD_some] at hp1
          obtain ⟨dst, op, ty, pos, af, gd⟩ := o
          simp only [takes, Bool.and_eq_true, Option.isNone_iff_eq_none] at hp1
          obtain ⟨rfl, hp1⟩ := hp1
          have hw : Region.wanted ⟨dst, op, ty, pos, af, none⟩ (yielded all a.tmps) = true := by simp [Region.wanted]
          have fin : ∀ (s : SV) (y : Value), (∀ w, (execOp a.eval ⟨dst, op, ty, pos, af, none⟩).run P w = .ok (.value y) w) → (∀ w, Oper.about P w a.eval ⟨dst, op, ty, pos, af, none⟩ = none) → s.rel σ (Zof B σ M w) w y → dOK N.n dst → GU P T N all (TT.make all fuel (listed.setIfInBounds i true)) k Q (envPut E dst s) M nx → wpAnyIn Fence.wide 0 P .any all R (fuel + 1) listed a w := by
            intro s y h1 h0 h2 h3 h4
            exact wpAnyIn_take (v := y) rfl ho hsel hp2 (by simpa using hmem) (fun c a w hh => (hR _ _ _ hh).elim) ⟨.inl ⟨hw, h1⟩, h0⟩ (ih _ _ _ _ _ _ _ (h.put h3 h2) h4)
          cases op with
          | fieldAddr t x f =>
            simp only [gtake] at hg
            cases hq : gfield T t (ev E x) f with
            | pure ob s =>
              rw [hq] at hg
              obtain ⟨h1, h2, h3⟩ := hg
              obtain ⟨y, e1, e2⟩ := take_field hT hq h1 (ev_rel h.env x)
              exact fin s y (fun w => by simp [execOp, e1]) (fun _ => rfl) e2 h2 h3
            | _ => rw [hq] at hg; exact hg.elim
          | move x =>
            obtain ⟨_, h2, h3⟩ := hg
            exact fin _ (a.eval x) (fun w => rfl) (fun _ => rfl) (ev_rel h.env x) h2 h3
          | assign x =>
            obtain ⟨_, h2, h3⟩ := hg
            exact fin _ (a.eval x) (fun w => rfl) (fun _ => rfl) (ev_rel h.env x) h2 h3
          | _ => simp at hp1
      · refine ⟨fun h' => absurd (List.isEmpty_iff.2 h') hr, fun i hi => ?_⟩
        obtain ⟨o, ho, hgo⟩ := gu_alts _ hg i hi
        have hs := gops_step (Q := R) (next := wpAnyIn Fence.wide 0 P .any all R fuel (listed.setIfInBounds i true)) hT h hgo (fun E' M' nx' σ' a' w' hk hs => ih _ E' M' nx' σ' a' w' hs hk)
        unfold wpOpIn; rw [ho]; simp only []
        split
        · rename_i hw; rw [if_pos hw] at hs; exact hs
        · rename_i hw; rw [if_neg hw] at hs; exact ⟨fun _ _ => trivial, hs⟩

/-- A region of open order, by all its orders. -/
theorem GDraw_any (hT : TabOK P T) (hm : P.follows .mixedOrders = true) {id : Nat} {all : Array Oper} {t : TT} (hsel : Region.noSelect all = true) (ht : TT.make all all.size (Array.replicate all.size false) = t)
    (hp : ∀ c E M nx, GK P T N k Q (.panic c) E M nx → False) (h : GU P T N all t k Q E M nx) : GDraw P T N id all k Q E M nx := by
  subst ht
  intro r hr B W w0 σ a w hs
  refine wpIn_region_fw (hr.imp (fun h => h) fun h => h) hm (gu_any hT hsel (R := fun e a' w' => ∃ E' M' nx' σ', GK P T N k Q e E' M' nx' ∧ St B W w0 N σ' E' M' nx' a' w') (fun E M nx σ a w hk hst => ⟨E, M, nx, σ, hk, hst⟩) (fun c a w ⟨E, M, nx, σ, hk, _⟩ => hp _ _ _ _ hk) _ _ E M nx σ a _ hs.drawn h)
end
end Go.Gx
/-
  Equality of arrays of numbers.
-/
set_option linter.unusedVariables false
set_option linter.unusedSimpArgs false
namespace Go.Gx
open Go.RowKit

def eqChkA (P : Program) (t : TypeId) (cs : List CK) : Bool :=
  match P.underlying t with
  | some (.array n e) => decide (cs.length = n) && (cs.all fun c => ekind P e c) && (P.info? e).isSome && decide (P.cellsOf e = 1) && !P.eqGuardType P.depth t
  | _ => false
theorem hasL_get : ∀ {cs : List CK} {xs : List Value}, hasL cs xs → xs.length = cs.length
  | [], xs, h => by simp only [hasL] at h; subst h; rfl
  | c :: cs, xs, h => by
    obtain ⟨x, xs', rfl, _, h2⟩ := h
    simp [hasL_get h2]
theorem eqItems_run {P : Program} (w : World) (d : Nat) (e : TypeId) (xs ys : List Value) : ∀ (cs : List CK) (o : Nat), (∀ c ∈ cs, ekind P e c = true) → hasL cs (xs.drop o) → hasL cs (ys.drop o) →
    (Op.eqItems (d + 1) e 1 xs.toArray ys.toArray (List.range' o cs.length)).run P w = .ok (eqVL (xs.drop o) (ys.drop o)) w
  | [], o, _, hx, hy => by
    simp only [hasL] at hx hy
    rw [hx, hy]; rfl
  | c :: cs, o, h, hx, hy => by
    have h3 := h c (by simp)
    obtain ⟨x, xs', ex, hx1, hx2⟩ := hx
    obtain ⟨y, ys', ey, hy1, hy2⟩ := hy
    have ex' : xs[o]? = some x := by rw [← List.head?_drop, ex]; rfl
    have ey' : ys[o]? = some y := by rw [← List.head?_drop, ey]; rfl
    have dx : xs.drop (o + 1) = xs' := by rw [← List.drop_drop, ex]; rfl
    have dy : ys.drop (o + 1) = ys' := by rw [← List.drop_drop, ey]; rfl
    have ih := eqItems_run w d e xs ys cs (o + 1) (fun c hc => h c (by simp [hc])) (by rw [dx]; exact hx2) (by rw [dy]; exact hy2)
    have hag : (isAgg e).run P w = .ok false w := by
      unfold isAgg
      rw [Sem.run_bind]
      cases c with
      | int k => rw [run_underlying (ekind_int h3)]; rfl
      | bool => rw [run_underlying (ekind_bool h3)]; rfl
    have px : (part e xs.toArray (o * 1)).run P w = .ok x w := by
      unfold part
      rw [Sem.run_bind, hag]
      simp [ex']
    have py : (part e ys.toArray (o * 1)).run P w = .ok y w := by
      unfold part
      rw [Sem.run_bind, hag]
      simp [ey']
    have he : (Op.equalIn (d + 1) e x y).run P w = .ok (eqV x y) w := by
      cases c with
      | int k =>
        obtain ⟨n, rfl⟩ := hx1
        obtain ⟨m, rfl⟩ := hy1
        rw [run_equalIn_int w d e k _ n m (ekind_int h3)]; rfl
      | bool =>
        obtain ⟨n, rfl⟩ := hx1
        obtain ⟨m, rfl⟩ := hy1
        rw [run_equalIn_bool w d e n m (ekind_bool h3)]; rfl
    rw [List.length_cons, List.range'_succ]
    unfold Op.eqItems
    rw [Sem.run_bind, px, Result.andThen_ok, Sem.run_bind, py, Result.andThen_ok, Sem.run_bind, he, Result.andThen_ok]
    rw [ex, ey]
    simp only [eqVL]
    cases hq : eqV x y
    · simp
    · simp only [Bool.not_true, Bool.false_eq_true, if_false, Bool.true_and]
      rw [ih, dx, dy]
theorem eq_of_chkA {P : Program} {t : TypeId} {cs : List CK} (h : eqChkA P t cs = true) (xs ys : List Value) (w : World) (hx : hasL cs xs) (hy : hasL cs ys) :
    (Op.equal t (.agg xs.toArray) (.agg ys.toArray)).run P w = .ok (eqVL xs ys) w ∧ (∀ (op : BinOp) (x y : Operand), (eqGuard op t x y (.agg xs.toArray) (.agg ys.toArray)).run P w = .ok () w) := by
  unfold eqChkA at h
  split at h
  · rename_i n e hu
    simp only [Bool.and_eq_true, Bool.not_eq_true', decide_eq_true_eq, List.all_eq_true] at h
    obtain ⟨⟨⟨⟨h1, h2⟩, h3⟩, h4⟩, h5⟩ := h
    refine ⟨?_, fun op x y => run_eqGuard_agg w op t x y _ _ h5⟩
    obtain ⟨i, hi⟩ := Option.isSome_iff_exists.1 h3
    have := run_equalIn_array w 9999 xs.toArray ys.toArray hu hi
    rw [h4, List.range_eq_range', ← h1, show (9999 : Nat) = 9998 + 1 from rfl, eqItems_run w 9998 e xs ys cs 0 h2 (by simpa using hx) (by simpa using hy)] at this
    simpa [Op.equal, Op.maxDepth] using this
  · cases h
end Go.Gx
/-
  Loops whose number of regions varies; families of regions; calls that only move what cells hold.
-/
set_option linter.unusedVariables false
set_option linter.unusedSimpArgs false
namespace Go.Gx
open Go.RowKit

section
variable {P : Program} {T : Tab} {N : Cfg} {k : List It} {Q : GQ} {E : Env} {M M' : Mem} {nx : Nat}

theorem gloopV {α : Type} {body : Code} {Q : Exit → Env → Mem → Nat → Prop} (S : α → List (Nat × SV)) (Ms : α → Mem) (n : α → Nat) (I : α → Prop) (μ : α → Nat) (x0 : α)
    (h0 : I x0) (hE : Fit N E M nx (S x0) (Ms x0) (n x0))
    (round : ∀ x J, I x → GW P N body (updL J (S x)) (Ms x) (n x) (gseq (fun E' M' nx' => ∃ x', I x' ∧ μ x' < μ x ∧ Fit N E' M' nx' (S x') (Ms x') (n x')) Q)) :
    GW P N (.loop body) E M nx Q := by
  intro r hr B W w0 σ a w hs
  have conv : ∀ {E M nx σ a w} (x : α), Fit N E M nx (S x) (Ms x) (n x) → St B W w0 N σ E M nx a w → ∃ σ' J, St B W w0 N σ' (updL J (S x)) (Ms x) (n x) a w := by
    intro E M nx σ a w x h1 h3
    obtain ⟨J, v⟩ := h1
    obtain ⟨σ1, h4⟩ := v B W w0 σ a w h3
    exact ⟨_, _, h4⟩
  refine wpIn_loop_ghost (fun k a w => ∃ x, μ x = k ∧ I x ∧ ∃ σ' J, St B W w0 N σ' (updL J (S x)) (Ms x) (n x) a w) (μ x0) ⟨x0, rfl, h0, conv x0 hE hs⟩ fun k a w h => ?_
  obtain ⟨x, rfl, hi, σ', J, hst⟩ := h
  refine Code.wpIn_mono (fun e a' w' h' => ?_) (round x J hi r (hr.imp (fun h => h) fun h => by simpa [ndC] using h) B W w0 σ' a w hst)
  obtain ⟨E', M', nx', σ'', q, hs'⟩ := h'
  cases e with
  | normal =>
    obtain ⟨x', i1, i2, i3⟩ := q
    exact ⟨μ x', i2, x', rfl, i1, conv x' i3 hs'⟩
  | _ => exact ⟨E', M', nx', σ'', q, hs'⟩

/-- Loops in which the number of regions varies. -/
def LV (P : Program) (T : Tab) (N : Cfg) {α : Type} (S : α → List (Nat × SV)) (Ms : α → Mem) (n : α → Nat) (I : α → Prop) (μ : α → Nat) (x : α) (k : List It) (Q : GQ) : GQ :=
  gseq (fun E' M' nx' => ∃ x', I x' ∧ μ x' < μ x ∧ Fit N E' M' nx' (S x') (Ms x') (n x')) (GK P T N k Q)
section
variable {α : Type} {S : α → List (Nat × SV)} {Ms : α → Mem} {n : α → Nat} {I : α → Prop} {μ : α → Nat} {x : α}
@[go_sem] theorem LV_normal : LV P T N S Ms n I μ x k Q .normal E M nx = ∃ x', I x' ∧ μ x' < μ x ∧ Fit N E M nx (S x') (Ms x') (n x') := (rfl)
@[go_sem] theorem LV_exit (i : Nat) : LV P T N S Ms n I μ x k Q (.exit i) E M nx = GK P T N k Q (.exit i) E M nx := (rfl)
@[go_sem] theorem LV_ret : LV P T N S Ms n I μ x k Q .ret E M nx = GK P T N k Q .ret E M nx := (rfl)
end
theorem GLoop_v (hT : TabOK P T) {α : Type} {c : Code} (S : α → List (Nat × SV)) (Ms : α → Mem) (n : α → Nat) (I : α → Prop) (μ : α → Nat) (x0 : α)
    (h0 : I x0) (hE : Fit N E M nx (S x0) (Ms x0) (n x0))
    (round : ∀ x J, I x → GC P T N c [] (LV P T N S Ms n I μ x k Q) (updL J (S x)) (Ms x) (n x)) : GLoop P T N c k Q E M nx :=
  gloopV S Ms n I μ x0 h0 hE fun x J hi => gexec_sound hT c _ _ _ _ (round x J hi)

/-! ### families: regions b, b + 1, .., b + n - 1 -/
def famM (M : Mem) (b n : Nat) (R : Nat → Option Reg) : Mem := fun r => if b ≤ r ∧ r < b + n then R (r - b) else M r
@[go_sem] theorem famM_app (M : Mem) (b n : Nat) (R : Nat → Option Reg) (r : Nat) : famM M b n R r = if b ≤ r ∧ r < b + n then R (r - b) else M r := rfl
theorem Reg.sub_none (R : Option Reg) : Reg.sub R none := by cases R <;> simp [Reg.sub]
theorem fam_sub {l : List (Option Reg)} {b cnt n : Nat} {R : Nat → Option Reg} (hl : l.length = b) (h1 : regsS 0 (trimM n M) l) (h2 : ∀ i, i < cnt → Reg.sub (trimM n M (b + i)) (R i)) (r : Nat) :
    Reg.sub (trimM n M r) (famM (memL l) b cnt R r) := by
  unfold famM
  split
  · rename_i h
    have := h2 (r - b) (by omega)
    rwa [show b + (r - b) = r from by omega] at this
  · by_cases hr : r < b
    · have := regsS_get l 0 _ h1 r (by omega)
      simpa [memL] using this
    · simp [memL, List.getElem?_eq_none (by omega : l.length ≤ r), Reg.sub_none]
theorem Fit.of_fam {S : List (Nat × SV)} {l : List (Option Reg)} {b cnt n : Nat} {R : Nat → Option Reg} (hn : N.np ≤ n) (h : slotsS n E S) (hl : l.length = b) (h1 : regsS 0 (trimM n M) l)
    (h2 : ∀ i, i < cnt → Reg.sub (trimM n M (b + i)) (R i)) : Fit N E M nx S (famM (memL l) b cnt R) n :=
  Fit.of_slotsS hn h (fam_sub hl h1 h2)
abbrev famL (n : Nat) (f : Nat → Reg) : List Reg := (List.range n).map f
theorem memR_fam (l : List Reg) (n : Nat) (f : Nat → Reg) (r : Nat) : memR (l ++ famL n f) r = famM (memR l) l.length n (fun i => some (f i)) r := by
  rw [memR_get]
  unfold famM
  by_cases h1 : r < l.length
  · rw [if_neg (by omega), List.getElem?_append_left h1, memR_get]
  · by_cases h2 : r < l.length + n
    · rw [if_pos ⟨by omega, h2⟩, List.getElem?_append_right (by omega)]
      simp [famL, List.getElem?_range (show r - l.length < n by omega)]
    · rw [if_neg (by omega), memR_get, List.getElem?_eq_none (by simp [famL]; omega), List.getElem?_eq_none (by omega)]
theorem memR_fam' (l : List Reg) (n : Nat) (f : Nat → Reg) : memR (l ++ famL n f) = famM (memR l) l.length n (fun i => some (f i)) := funext (memR_fam l n f)
/-- The regions of a family, found in the memory that is left. -/
theorem gexpR_append {ρ : Nat → Nat} : ∀ {l l' : List Nat} {Rs Rs' : List Reg}, gexpR M ρ l Rs → gexpR M ρ l' Rs' → gexpR M ρ (l ++ l') (Rs ++ Rs')
  | [], l', [], Rs', _, h => h
  | [], _, _ :: _, _, h, _ => h.elim
  | _ :: _, _, [], _, h, _ => h.elim
  | q :: l, l', R :: Rs, Rs', h, h' => ⟨h.1, gexpR_append h.2 h'⟩
theorem gexpR_map {ρ : Nat → Nat} {p : Nat → Nat} {f : Nat → Reg} : ∀ (l : List Nat), (∀ i ∈ l, Reg.sub (M (p i)) (some ((f i).ren ρ))) → gexpR M ρ (l.map p) (l.map f)
  | [], _ => trivial
  | i :: l, h => ⟨h i (by simp), gexpR_map l fun j hj => h j (by simp [hj])⟩
theorem gexpR_fam {ρ : Nat → Nat} {l : List Nat} {Rs : List Reg} {n : Nat} {p : Nat → Nat} {f : Nat → Reg} (h : gexpR M ρ l Rs) (h' : ∀ i, i < n → Reg.sub (M (p i)) (some ((f i).ren ρ))) : gexpR M ρ (l ++ (List.range n).map p) (Rs ++ famL n f) :=
  gexpR_append h (gexpR_map _ fun i hi => h' i (List.mem_range.1 hi))
theorem nodup_fam {l : List Nat} {n : Nat} {p : Nat → Nat} (h : l.Nodup) (hp : ∀ i j, i < n → j < n → p i = p j → i = j) (hl : ∀ x ∈ l, ∀ i, i < n → p i ≠ x) : (l ++ (List.range n).map p).Nodup := by
  rw [List.nodup_append]
  refine ⟨h, ?_, fun a ha b hb => ?_⟩
  · unfold List.Nodup
    rw [List.pairwise_map]
    refine List.Pairwise.imp_of_mem (fun {i j} hi hj hij => ?_) (List.pairwise_lt_range (n := n))
    intro e
    have := hp i j (List.mem_range.1 hi) (List.mem_range.1 hj) e
    omega
  · obtain ⟨i, hi, rfl⟩ := List.mem_map.1 hb
    exact (hl a ha i (List.mem_range.1 hi)).symm
theorem getD_fam {l : List Nat} {n : Nat} {p : Nat → Nat} {D : Nat} (r : Nat) : ((l ++ (List.range n).map p)[r]?).getD D = if r < l.length then (l[r]?).getD D else if r < l.length + n then p (r - l.length) else D := by
  by_cases h1 : r < l.length
  · rw [if_pos h1, List.getElem?_append_left h1]
  · rw [if_neg h1, List.getElem?_append_right (by omega)]
    by_cases h2 : r < l.length + n
    · rw [if_pos h2]
      simp [List.getElem?_range (show r - l.length < n by omega)]
    · rw [if_neg h2, List.getElem?_eq_none (by simp; omega)]; rfl
/-- The regions of a family, as they come back of a call. -/
theorem addS_append (ρ : Nat → Nat) : ∀ (l l' : List Reg) (i : Nat) (M : Mem), addS ρ i (l ++ l') M = addS ρ (i + l.length) l' (addS ρ i l M)
  | [], l', i, M => by simp [addS]
  | R :: l, l', i, M => by
    simp only [List.cons_append, addS, addS_append ρ l l', List.length_cons]
    congr 1; omega
theorem addS_map (b : Nat) (ρ : Nat → Nat) (hρ : ∀ i, ρ i = b + i) (f : Nat → Reg) : ∀ (n s i : Nat) (M : Mem), addS ρ i ((List.range' s n).map f) M = famM M (b + i) n fun j => some ((f (s + j)).ren ρ)
  | 0, s, i, M => by
    funext r
    simp only [List.range'_zero, List.map_nil, addS, famM]
    rw [if_neg (by omega)]
  | n + 1, s, i, M => by
    simp only [List.range'_succ, List.map_cons, addS, addS_map b ρ hρ f n]
    funext r
    simp only [famM, upd_app, hρ]
    by_cases h1 : r = b + i
    · subst h1
      rw [if_neg (by omega), if_pos rfl, if_pos ⟨by omega, by omega⟩]
      simp
    · by_cases h2 : b + (i + 1) ≤ r ∧ r < b + (i + 1) + n
      · rw [if_pos h2, if_pos ⟨by omega, by omega⟩, show s + 1 + (r - (b + (i + 1))) = s + (r - (b + i)) from by omega]
      · rw [if_neg h2, if_neg h1, if_neg (by omega)]
theorem addS_fam (b : Nat) (l : List Reg) (n : Nat) (f : Nat → Reg) (M : Mem) : addS (fun i => b + i) 0 (l ++ famL n f) M = famM (addS (fun i => b + i) 0 l M) (b + l.length) n fun j => some ((f j).ren fun i => b + i) := by
  rw [addS_append, famL, List.range_eq_range', addS_map b _ (fun _ => rfl)]
  simp
theorem dropM_fam (l : List Nat) (n : Nat) (p : Nat → Nat) (M : Mem) (r : Nat) : dropM (l ++ (List.range n).map p) M r = if r ∈ l ∨ ∃ i, i < n ∧ p i = r then none else M r := by
  rw [dropM_at]
  simp
theorem atM_append {ρ : Nat → Nat} : ∀ {l l' : List Nat} {Rs Rs' : List Reg}, atM M ρ l Rs → atM M ρ l' Rs' → atM M ρ (l ++ l') (Rs ++ Rs')
  | [], l', [], Rs', _, h => h
  | [], _, _ :: _, _, h, _ => h.elim
  | _ :: _, _, [], _, h, _ => h.elim
  | q :: l, l', R :: Rs, Rs', h, h' => ⟨h.1, atM_append h.2 h'⟩
theorem atM_map {ρ : Nat → Nat} {p : Nat → Nat} {f : Nat → Reg} : ∀ (l : List Nat), (∀ i ∈ l, M (p i) = some ((f i).ren ρ)) → atM M ρ (l.map p) (l.map f)
  | [], _ => trivial
  | i :: l, h => ⟨h i (by simp), atM_map l fun j hj => h j (by simp [hj])⟩
theorem atM_fam {ρ : Nat → Nat} {l : List Nat} {Rs : List Reg} {n : Nat} {p : Nat → Nat} {f : Nat → Reg} (h : atM M ρ l Rs) (h' : ∀ i, i < n → M (p i) = some ((f i).ren ρ)) : atM M ρ (l ++ (List.range n).map p) (Rs ++ famL n f) :=
  atM_append h (atM_map _ fun i hi => h' i (List.mem_range.1 hi))
/-- A memory with known regions, seen with a family. -/
theorem famM_nil (M : Mem) (b : Nat) (R : Nat → Option Reg) : famM M b 0 R = M := by
  funext r
  unfold famM
  rw [if_neg (by omega)]

/-! ### calls that move what cells hold, and do not look at it -/
theorem Zof_dom {B : Nat → Prop} {σ : Sig} {w : World} (h : ∀ r, (M r).isSome = (M' r).isSome) : Zof B σ M w = Zof B σ M' w := by
  funext b
  refine propext ⟨fun hb => ⟨hb.1, fun r R L h1 h2 h3 => ?_⟩, fun hb => ⟨hb.1, fun r R L h1 h2 h3 => ?_⟩⟩
  · have := h r
    rw [h1] at this
    obtain ⟨R', hR⟩ := Option.isSome_iff_exists.1 (this.trans rfl)
    exact hb.2 r R' L hR h2 h3
  · have := h r
    rw [h1] at this
    obtain ⟨R', hR⟩ := Option.isSome_iff_exists.1 (this.symm.trans rfl)
    exact hb.2 r R' L hR h2 h3
theorem MOK.swap {B W F : Nat → Prop} {n0 : Nat} {σ : Sig} {w : World} (hm : MOK B W n0 σ M F w) (hd : ∀ r, (M r).isSome = (M' r).isSome)
    (hreg : ∀ r R', M' r = some R' → ∃ L, σ r = some L ∧ RegOK σ (Zof B σ M w) w L R') : MOK B W n0 σ M' F w := by
  have hex : ∀ r R', M' r = some R' → ∃ R, M r = some R := fun r R' h => by
    have := hd r
    rw [h] at this
    exact Option.isSome_iff_exists.1 this
  refine ⟨hm.newB, hm.fresh, fun r R' h => ?_, fun r r' R R' L L' b h1 h2 h3 h4 h5 h6 => ?_, fun r R L b h1 h2 h3 => ?_⟩
  · rw [← Zof_dom hd]; exact hreg r R' h
  · obtain ⟨R1, e1⟩ := hex r R h1
    obtain ⟨R2, e2⟩ := hex r' R' h2
    exact hm.inj r r' R1 R2 L L' b e1 e2 h3 h4 h5 h6
  · obtain ⟨R1, e1⟩ := hex r R h1
    exact hm.own r R1 L b e1 h2 h3
/-- The cells of some regions have names. -/
def NmM (Nm : SV → Value → Prop) (refs : List Nat) (M M1 : Mem) : Prop :=
  (∀ r, r ∉ refs → M1 r = M r) ∧ ∀ r ∈ refs, ∀ e k n get, M r = some (.vec e k n get) → ∃ c : Nat → Nat → Value, M1 r = some (.vec e k n fun i j => .r (.v (c i j))) ∧ ∀ i j, i < n → j < k → Nm (get i j) (c i j) ∧ (c i j).oneCell' = true
def nmC (σ : Sig) (w : World) (r k i j : Nat) : Value :=
  match σ r with
  | some L => match L.at_ with
    | some b => (w.cell? ⟨b, i * k + j, none⟩).getD undef
    | none => undef
  | none => undef
theorem callK_opq {np : Nat} {f : FuncId} {args : List SV} {K : SV → Mem → Nat → (SV → SV) → Prop} (refs : List Nat) (hr : ∀ r ∈ refs, ∃ e k n get, M r = some (.vec e k n get)) {S : SV} {M2 : Mem} {q k m nx' : Nat} {e' : TypeId} {get' : Nat → Nat → SV}
    (H : ∀ Nm : SV → Value → Prop, (∀ x, Nm (.r (.v x)) x) → ∀ M1, NmM Nm refs M M1 → CallK P np f args M1 nx fun s M' nx1 up => up = id ∧ nx1 = nx' ∧ s = S ∧ ∃ d : Nat → Nat → Value, (∀ i j, i < m → j < k → Nm (get' i j) (d i j)) ∧ M' = upd M2 q (some (.vec e' k m fun i j => .r (.v (d i j)))))
    (hK : K S (upd M2 q (some (.vec e' k m get'))) nx' id) : CallK P np f args M nx K := by
  intro B W n0 σ w vs hm hn hl ha
  let M1 : Mem := fun r => if r ∈ refs then (match M r with | some (.vec e k n get) => some (.vec e k n fun i j => .r (.v (nmC σ w r k i j))) | R => R) else M r
  have hdom : ∀ r, (M r).isSome = (M1 r).isSome := fun r => by
    show _ = Option.isSome (if r ∈ refs then _ else _)
    split
    · split
      · rename_i h; rw [h]; rfl
      · rfl
    · rfl
  have hcell : ∀ r e k n get, M r = some (.vec e k n get) → ∃ L, σ r = some L ∧ RegOK σ (Zof B σ M w) w L (.vec e k n fun i j => .r (.v (nmC σ w r k i j))) ∧ ∀ i j, i < n → j < k → (get i j).rel σ (Zof B σ M w) w (nmC σ w r k i j) ∧ (nmC σ w r k i j).oneCell' = true := by
    intro r e k n get h
    obtain ⟨L, g1, g2⟩ := hm.reg r _ h
    obtain ⟨f0, fm, f | ⟨b, cs, f1, f2, f3, fo, f5⟩⟩ := g2
    · exact ⟨L, g1, ⟨f0, fm, .inl f⟩, fun i j hi => by omega⟩
    · have key : ∀ i j v, cs[i * k + j]? = some v → nmC σ w r k i j = v := fun i j v hv => by
        simp [nmC, g1, f1, World.cell?, f2, hv]
      refine ⟨L, g1, ⟨f0, fm, .inr ⟨b, cs, f1, f2, f3, fo, fun i j hi hj => ?_⟩⟩, fun i j hi hj => ?_⟩
      · obtain ⟨v, h1, h2, h3⟩ := f5 i j hi hj
        exact ⟨v, h1, h2, (key i j v h1).symm⟩
      · obtain ⟨v, h1, h2, h3⟩ := f5 i j hi hj
        rw [key i j v h1]; exact ⟨h3, h2⟩
  have hm1 : MOK B W n0 σ M1 (From nx) w := hm.swap hdom fun r R' h => by
    have h' : (if r ∈ refs then (match M r with | some (.vec e k n get) => some (.vec e k n fun i j => .r (.v (nmC σ w r k i j))) | R => R) else M r) = some R' := h
    split at h'
    · split at h'
      · rename_i e k n get hM
        cases h'
        obtain ⟨L, g1, g2, _⟩ := hcell r e k n get hM
        exact ⟨L, g1, g2⟩
      · exact hm.reg r R' h'
    · exact hm.reg r R' h'
  have hZ1 := Zof_dom (B := B) (σ := σ) (w := w) hdom
  have hNm : NmM (fun s y => s.rel σ (Zof B σ M w) w y) refs M M1 := ⟨fun r h => if_neg h, fun r h e k n get hM => ⟨nmC σ w r k, by
    show (if r ∈ refs then _ else _) = _
    rw [if_pos h, hM], (hcell r e k n get hM).elim fun L h => h.2.2⟩⟩
  have conv : ∀ e w', CallPost np B W n0 σ M1 w (fun s M' nx1 up => up = id ∧ nx1 = nx' ∧ s = S ∧ ∃ d : Nat → Nat → Value, (∀ i j, i < m → j < k → (get' i j).rel σ (Zof B σ M w) w (d i j)) ∧ M' = upd M2 q (some (.vec e' k m fun i j => .r (.v (d i j))))) e w' → CallPost np B W n0 σ M w K e w' := by
    rintro e w' ⟨y, s, M', nx1, σ', up, rfl, ⟨rfl, rfl, rfl, d, hd, rfl⟩, p1, p2, p3, p4, p5, p6, p7⟩
    have hdom' : ∀ r, (upd M2 q (some (.vec e' k m fun i j => .r (.v (d i j)))) r).isSome = (upd M2 q (some (.vec e' k m get')) r).isSome := fun r => by
      simp only [upd_app]
      split <;> rfl
    have hZ2 := Zof_dom (B := B) (σ := σ') (w := w') hdom'
    have hm2 : MOK B W n0 σ' (upd M2 q (some (.vec e' k m get'))) (From nx1) w' := p1.swap hdom' fun r R' h => by
      rw [upd_app] at h
      split at h
      · rename_i hq
        subst hq
        cases h
        obtain ⟨L, g1, g2⟩ := p1.reg r _ (upd_same ..)
        obtain ⟨f0, fm, f | ⟨b, cs, f1, f2, f3, fo, f5⟩⟩ := g2
        · exact ⟨L, g1, f0, fm, .inl f⟩
        · refine ⟨L, g1, f0, fm, .inr ⟨b, cs, f1, f2, f3, fo, fun i j hi hj => ?_⟩⟩
          obtain ⟨v, h1, h2, h3⟩ := f5 i j hi hj
          refine ⟨v, h1, h2, ?_⟩
          rw [show v = d i j from h3]
          have := p4 (get' i j) (d i j) (by rw [← hZ1]; exact hd i j hi hj)
          exact this
      · rename_i hq
        exact p1.reg r R' (by rw [upd_ne _ _ hq]; exact h)
    refine ⟨y, _, _, _, σ', id, rfl, hK, hm2, ?_, ?_, fun t z hz => ?_, p5, p6, p7⟩
    · rw [← hZ2, hZ1]; exact p2
    · rw [← hZ2]; exact p3
    · rw [← hZ2]; rw [hZ1] at hz; exact p4 t z hz
  rcases H _ (fun x => rfl) M1 hNm B W n0 σ w vs hm1 hn hl (by rw [← hZ1]; exact ha) with ⟨c1, c2⟩ | ⟨y, w', c1, c2⟩
  · exact .inl ⟨c1, c2.mono fun e w' hp => conv e w' hp⟩
  · exact .inr ⟨y, w', c1, conv _ _ c2⟩
end
end Go.Gx
/-
  The framework's later parts: appends behind slices, relational contracts, open orders with moves, all orders, families, weaker views, calls that move cells.
-/
/-
  append behind a slice that does not begin at its region's first row: there is room, or the rows move.
-/
set_option linter.unusedVariables false
set_option linter.unusedSimpArgs false
namespace Go.Gx
open Go.RowKit

theorem run_append_room_off {P : Program} (w : World) (t ty e : TypeId) (i : TypeInfo) (ht : P.underlying t = some (.slice e)) (hi : P.info? e = some i)
    (g off sLen sCap : Nat) (cur : Array Value) (hg : w.heap[g]? = some (.cells cur e (0, 0)))
    (a : Addr) (m c : Nat) (news : List Value) (hl : news.length = m * i.size) (hnews : ∀ j u, news[j]? = some u → w.cell? (a.add j) = some u) (h1 : ∀ u ∈ news, u.oneCell' = true)
    (hroom : sLen + m ≤ sCap) (hfit : off + sLen * i.size + news.length ≤ cur.size) :
    (Builtin.append_ #[t, t] ty #[.slice (some ⟨g, off, none⟩) sLen sCap, .slice (some a) m c]).run P w =
      .ok (.slice (some ⟨g, off, none⟩) (sLen + m) sCap) (w.setRow g (cur.toList.take (off + sLen * i.size) ++ news ++ cur.toList.drop (off + sLen * i.size + news.length)).toArray) := by
  have hf := run_firstCells_some (P := P) w i.size m a m c news hl hnews
  have hst := run_storeCells_at P g (off + sLen * i.size) e news 0 cur w hg (by simpa using hfit) h1
  simp only [Nat.add_zero] at hst
  simp [Builtin.append_, run_underlying ht, sizeOf, typeInfo, hi, Builtin.lenOf, hroom, hf, Addr.add_lit, hst]

section
variable {P : Program} {T : Tab} {N : Cfg} {E : Env} {M : Mem} {nx : Nat}
theorem St.app {B W : Nat → Prop} {w0 : W0} {σ : Sig} {a : Act} {w w' : World} (h : St B W w0 N σ E M nx a w) {ref : Nat} {L : Loc} {R : Reg}
    (hm : MOK B W w0.heap.size (upd σ ref (some L)) (upd (killM ref M) ref (some R)) (From nx) w') (hf : FrS W w0.heap.size w w') (hk : Keep (Zof B σ M w) (Zof B (upd σ ref (some L)) (upd (killM ref M) ref (some R)) w') w w')
    (hs : ∀ r L', r ≠ ref → σ r = some L' → upd σ ref (some L) r = some L') (hnp : N.np ≤ ref) :
    St B W w0 N (upd σ ref (some L)) (fun t => (E t).kill ref) (upd (killM ref M) ref (some R)) nx a w' :=
  h.go hm hf hk (fun t z hz => SV.rel_kill hs hk _ _ hz) h.low fun r hr => upd_ne _ _ (Nat.ne_of_lt (Nat.lt_of_lt_of_le hr hnp))
theorem GOp_appLo (hT : TabOK P T) {K : Env → Mem → Nat → Prop} {d : Option Tmp} {t ty e : TypeId} {pos : String} {af : Array Edge} {ref lo n m : Nat} {g get : Nat → Nat → SV} {s x : Operand} {ti ei : TI} {ob : Prop}
    (hx : ev E s = .sl ref ei.size lo n none) (hM : M ref = some (.vec e ei.size (lo + n) g)) (ht : T.ti t = some ti) (htk : ti.kind = .slice e) (hei : T.ti e = some ei) (h0 : 0 < ei.size) (hr : rowsOf M ei.size (ev E x) = some (ob, m, get)) (hob : ob) (hm : 0 < m)
    (hb : (n + m) * ei.bytes ≤ 140737488355328) (h63 : n + m ≤ 9223372036854775807) (hd : dOK N.n d) (hnp : N.np ≤ ref)
    (h1 : K (envPut (fun t => (E t).kill ref) d (.sl ref ei.size lo (n + m) none)) (upd (killM ref M) ref (some (.vec e ei.size (lo + (n + m)) fun i j => (joined (lo + n) m g get i j).kill ref))) nx)
    (h2 : K (envPut (fun t => (E t).kill ref) d (.sl ref ei.size 0 (n + m) none)) (upd (killM ref M) ref (some (.vec e ei.size (n + m) fun i j => (joined n m (fun i j => g (lo + i) j) get i j).kill ref))) nx) :
    GOpW P N ⟨d, .call ⟨.builtin .append, #[s, x], #[t, t]⟩, ty, pos, af, none⟩ E M nx K := by
  intro B W w0 σ a w hs next Q' hK
  refine wpIn_of_wp ?_
  have hu : P.underlying t = some (.slice e) := und_slice (hT.ti t ti ht) htk
  have hc := hT.ti e ei hei
  have hrs := ev_rel hs.env s
  have hrx := ev_rel hs.env x
  rw [hx] at hrs
  obtain ⟨L, A, g1, hy, g2, g3, g4, g5⟩ := hrs
  simp only [Option.getD_none] at g2 g3 g4 hy
  obtain ⟨A', c', news, e1, s1, s2, s3, hnew⟩ := rows_mem hs.mem hrx hr hob
  obtain ⟨L', e1', f0, fm, hf⟩ := hs.mem.reg ref _ hM
  rw [g1] at e1'; cases e1'
  have hmp : 0 < m * ei.size := Nat.mul_pos hm h0
  obtain ⟨b2, o2', rfl, hcell⟩ := s3 hmp
  have hn0 := hs.fr.size
  have hrun0 : (execOp a.eval ⟨d, .call ⟨.builtin .append, #[s, x], #[t, t]⟩, ty, pos, af, none⟩).run P w = vrun ((Builtin.append_ #[t, t] ty #[.slice A n (L.cap - lo), .slice (some ⟨b2, o2', none⟩) m c']).run P w) := by
    simp [execOp, resolve, invoke, builtin, hy, e1, vrun]
  unfold Oper.wp
  rw [hrun0]
  by_cases hfit : n + m ≤ L.cap - lo
  · obtain ⟨b, b1, rfl⟩ := g4 (by omega)
    rcases hf with ⟨f1, _⟩ | ⟨b', cs, f1, f2, f3, fo, f5⟩
    · rw [f1] at b1; cases b1
    rw [b1] at f1; cases f1
    have hlen : (lo + n) * ei.size + news.length ≤ cs.length := by rw [s1, f3, ← Nat.add_mul]; exact Nat.mul_le_mul_right _ (by omega)
    obtain ⟨i, hi, hi2, hi3, hz⟩ := ti_info hc
    have hrun := run_append_room_off (P := P) w t ty e i hu hi b (lo * ei.size) n (L.cap - lo) cs.toArray f2 ⟨b2, o2', none⟩ m c' news (by rw [hi2]; exact s1) (fun j u hu => by rw [add_none]; exact hcell j u hu) s2 hfit (by rw [hi2, ← Nat.add_mul]; simpa using hlen)
    rw [hi2, ← Nat.add_mul] at hrun
    have hpv : (cs.toArray.toList.take ((lo + n) * ei.size) ++ news ++ cs.toArray.toList.drop ((lo + n) * ei.size + news.length)).toArray = (putV cs ((lo + n) * ei.size) news).toArray := rfl
    rw [hpv] at hrun
    have hsm : ∀ x, x < w.heap.size → L.at_ ≠ some x → (w.setRow b (putV cs ((lo + n) * ei.size) news).toArray).heap[x]? = w.heap[x]? := fun x _ hx => setRow_other _ fun e => hx (by rw [e]; exact b1)
    obtain ⟨m1, m2, m3⟩ := mem_app (w' := w.setRow b (putV cs ((lo + n) * ei.size) news).toArray) (L := L) (R := .vec e ei.size (lo + (n + m)) fun i j => (joined (lo + n) m g get i j).kill ref) hs.mem hn0 hM g1 (by rw [setRow_size]; exact Nat.le_refl _) hsm (fun b hb => .inl hb)
      (fun σ' Z' hs' hk => ⟨by omega, fm, .inr ⟨b, _, b1, setRow_here f2, by rw [putV_length hlen]; exact f3, putV_one fo s2, fun i j hi hj => by
        rw [putV_get hlen, s1]
        dsimp only
        unfold joined
        by_cases hin : lo + n ≤ i ∧ i < lo + n + m
        · rw [if_pos ((row_div hj).2 hin), if_neg (by omega), if_pos hin.2]
          obtain ⟨v, v1, v2⟩ := hnew (i - (lo + n)) j (by omega) hj
          refine ⟨v, ?_, s2 v (List.mem_of_getElem? v1), SV.rel_kill hs' hk _ _ v2⟩
          rw [← v1, Nat.sub_mul]
          have : (lo + n) * ei.size ≤ i * ei.size := Nat.mul_le_mul_right _ hin.1
          congr 1; omega
        · rw [if_neg fun h => hin ((row_div hj).1 h)]
          obtain ⟨v, v1, v0, v2⟩ := f5 i j (by omega) hj
          refine ⟨v, v1, v0, ?_⟩
          rw [if_pos (by omega : i < lo + n)]
          exact SV.rel_kill hs' hk _ _ v2⟩⟩)
    rw [hrun]
    refine hK _ _ _ _ _ _ h1 (St.put (hs.app m1 ⟨rfl, rfl, rfl, by rw [setRow_size]; exact Nat.le_refl _, Nat.le_refl _, fun x hx hw => setRow_other _ fun e => ?_⟩ m2 m3 hnp) hd ⟨L, some ⟨b, lo * ei.size, none⟩, upd_same .., by simp, by simpa using hfit, by simpa using g3, fun _ => ⟨b, b1, by simp⟩, fun hl => by simpa using g5 hl⟩)
    subst e
    rcases hs.mem.own ref _ L x hM g1 b1 with h' | h'
    · exact hw h'
    · omega
  · clear hf
    have hro : rowsOf M ei.size (.sl ref ei.size lo n none) = some (ei.size = ei.size ∧ ei.size = ei.size ∧ lo + n ≤ lo + n, n, fun i j => g (lo + i) j) := by simp only [rowsOf, hM]
    obtain ⟨A2, c2, olds, q1, q2, q3, q4, q5⟩ := rows_mem (x := .slice A n (L.cap - lo)) hs.mem (s := .sl ref ei.size lo n none) ⟨L, A, g1, by simp, by simpa using g2, by simpa using g3, by simpa using g4, g5⟩ hro ⟨rfl, rfl, Nat.le_refl _⟩
    cases q1
    obtain ⟨cap, c1, c2, hrun⟩ := (src_slice (P := P) (c' := c') hu hc s1 s2 s3).2.2 ty A n (L.cap - lo) olds g2 q2 q4 (by omega) (by unfold maxLen; omega) hb
    have hsm : ∀ o x, x < w.heap.size → L.at_ ≠ some x → (w.drew.alloc o).heap[x]? = w.heap[x]? := fun o x hx _ => heap_old w.drew o x hx
    have hjc := fun rest => joined_cells (Z := Zof B σ M w) (w := w) (rest := rest) q2 q5 s1 hnew
    obtain ⟨m1, m2, m3⟩ := mem_app (w' := w.drew.alloc (.cells (olds ++ news ++ (Builtin.zeroCells ei.zeroV.cells (cap - (n + m))).toList).toArray e)) (L := ⟨some w.heap.size, cap⟩) (R := .vec e ei.size (n + m) fun i j => (joined n m (fun i j => g (lo + i) j) get i j).kill ref) hs.mem hn0 hM g1 (by simp) (hsm _) (fun b hb => .inr (by cases hb; exact Nat.le_refl _))
      (fun σ' Z' hs' hk => ⟨c1, c2, .inr ⟨w.heap.size, _, rfl, heap_new w.drew _, by
        show _ = cap * ei.size
        rw [List.length_append, List.length_append, q2, s1, zeroCells_rep hc, repV_length, List.length_map, ti_len hc, ← Nat.add_mul, ← Nat.add_mul]
        congr 1; omega, by
        intro v hv
        simp only [List.mem_append] at hv
        rcases hv with (hv | hv) | hv
        · exact q3 v hv
        · exact s2 v hv
        · rw [zeroCells_rep hc] at hv; exact rep_one _ _ v hv, fun i j hi hj => by
        obtain ⟨v, v1, v2⟩ := hjc (Builtin.zeroCells ei.zeroV.cells (cap - (n + m))).toList i j hi hj
        refine ⟨v, v1, ?_, ?_⟩
        · have hv := List.mem_of_getElem? v1
          simp only [List.mem_append] at hv
          rcases hv with (hv | hv) | hv
          · exact q3 v hv
          · exact s2 v hv
          · rw [zeroCells_rep hc] at hv; exact rep_one _ _ v hv
        · exact SV.rel_kill hs' hk _ _ v2⟩⟩)
    rw [hrun]
    exact hK _ _ _ _ _ _ h2 (St.put (hs.app m1 ⟨rfl, rfl, rfl, by simp, Nat.le_succ _, fun x hx _ => heap_old w.drew _ x (show x < w.heap.size by omega)⟩ m2 m3 hnp) hd ⟨⟨some w.heap.size, cap⟩, _, upd_same .., by simp, by simpa using c1, by simp, fun _ => ⟨w.heap.size, rfl, by simp⟩, fun _ => .inr rfl⟩)
end
end Go.Gx
/-
  Contracts whose result is known by a relation; regions under other numbers.
-/
set_option linter.unusedVariables false
set_option linter.unusedSimpArgs false
namespace Go.Gx
open Go.RowKit

section
variable {P : Program} {T : Tab}
/-- As OwnS; what comes back is some S with some regions Rs' of which Ψ holds. -/
def OwnX (P : Program) (np : Nat) (f : FuncId) (Rs : List Reg) (args : List SV) (Ψ : SV → List Reg → Prop) : Prop :=
  ∀ (B : Nat → Prop) (σ : Sig) (w : World) (vs : List Value), MOK B (Wof σ (memR Rs)) w.heap.size σ (memR Rs) (From Rs.length) w → SV.relL σ (Zof B σ (memR Rs) w) w args vs →
    (callFunc f vs.toArray).run P w = .ok (.enter f vs.toArray) w ∧
    Calls P f vs.toArray w fun e w' => ∃ S Rs' y σ', Ψ S Rs' ∧ e = .returned y ∧ MOK B (Wof σ (memR Rs)) w.heap.size σ' (memR Rs') (From Rs'.length) w' ∧ S.rel σ' (Zof B σ' (memR Rs') w') w' y ∧ FrS (Wof σ (memR Rs)) w.heap.size w w' ∧
      ∀ r, r < np → σ' r = σ r
/-- What is handed out, for a relation (simp does not look into it). -/
def gxe (Ψ : SV → List Reg → Prop) (np : Nat) (s : SV) (M : Mem) : Prop := ∃ S Rs' ρl, Ψ S Rs' ∧ keepsL np 0 ρl ∧ gexp M s ρl S Rs'
theorem gxe.mk {Ψ : SV → List Reg → Prop} {np : Nat} {s : SV} {M : Mem} (S : SV) (Rs' : List Reg) (ρl : List Nat) (h : Ψ S Rs') (hk : keepsL np 0 ρl) (hd : ρl.Nodup) (hs : ∀ N : Nat, s.sub (S.ren fun i => (ρl[i]?).getD N)) (hr : ∀ N : Nat, gexpR M (fun i => (ρl[i]?).getD N) ρl Rs') : gxe Ψ np s M :=
  ⟨S, Rs', ρl, h, hk, hd, fun N => ⟨hs N, hr N⟩⟩
theorem ownX_of_GC (hT : TabOK P T) {f : FuncId} {fn : Func} (hf : P.funcs[f]? = some fn) {c : Code} (hb : fn.body = some c) (hn : (fn.name == "runtime.NumGoroutine") = false) {args : List SV} (hlen : args.length ≤ fn.ntmps) {Rs : List Reg} {Ψ : SV → List Reg → Prop}
    {N : Nat} {rs : List ResultVar} (hN : fn.ntmps = N) (hrs : fn.results.toList = rs) (np : Nat) (hnp : np ≤ Rs.length) (h : GC P T ⟨N, np, noGood⟩ c [] (gret T rs (gxe Ψ np)) (env0 args) (memR Rs) Rs.length) : OwnX P np f Rs args Ψ := by
  subst hN; subst hrs
  intro B σ w vs hm ha
  refine ⟨enter_run hf hb hn _, ?_⟩
  refine (calls_of_gexec hT hf hb hlen hnp hm ha h).mono fun e w' h' => ?_
  obtain ⟨s, y, σ', M', nx', rfl, ⟨S, Rs', ρl, hΨ, hk, h1, h2⟩, hrel, hm', hfr, hpin⟩ := h'
  obtain ⟨h3, h4⟩ := h2 nx'
  obtain ⟨m1, m2⟩ := hm'.export (hm'.fresh nx' (Nat.le_refl nx')) h1 h4
  refine ⟨S, Rs', y, _, hΨ, rfl, m1, SV.rel_mono (fun _ _ h => h) (fun b hb => ⟨m2 b hb, rfl⟩) _ _ ((SV.rel_ren _ _).1 (SV.sub_rel _ _ _ h3 hrel)), ⟨hfr.os, hfr.tape, hfr.output, hfr.size, hfr.drawn, hfr.block⟩, fun r hr => ?_⟩
  have := keepsL_get hk r hr
  simp only [this, Nat.zero_add, Option.getD_some]
  exact hpin r hr
theorem OwnS.toX {np : Nat} {f : FuncId} {Rs Rs' : List Reg} {args : List SV} {S : SV} (h : OwnS P np f Rs args S Rs') : OwnX P np f Rs args fun s rs => s = S ∧ rs = Rs' := fun B σ w vs hm ha => by
  obtain ⟨h1, h2⟩ := h B σ w vs hm ha
  exact ⟨h1, h2.mono fun e w' ⟨y, σ', a, b⟩ => ⟨S, Rs', y, σ', ⟨rfl, rfl⟩, a, b⟩⟩
theorem OwnX.mono {np : Nat} {f : FuncId} {Rs : List Reg} {args : List SV} {Ψ Ψ' : SV → List Reg → Prop} (h : OwnX P np f Rs args Ψ) (hi : ∀ s r, Ψ s r → Ψ' s r) : OwnX P np f Rs args Ψ' := fun B σ w vs hm ha => by
  obtain ⟨h1, h2⟩ := h B σ w vs hm ha
  exact ⟨h1, h2.mono fun e w' ⟨S, Rs', y, σ', c, d⟩ => ⟨S, Rs', y, σ', hi _ _ c, d⟩⟩
/-- A call under a contract whose result is known by a relation. -/
theorem callK_ownX {np cp : Nat} {f : FuncId} {Rs : List Reg} {args0 args : List SV} {Ψ : SV → List Reg → Prop} {M : Mem} {nx : Nat} {K : SV → Mem → Nat → (SV → SV) → Prop} (ρl : List Nat) (hp : OwnX P cp f Rs args0 Ψ) (hcp : cp ≤ Rs.length) (hnd : ρl.Nodup)
    (ha : args = SV.renL (fun i => (ρl[i]?).getD nx) args0) (hM : atM M (fun i => (ρl[i]?).getD nx) ρl Rs)
    (hK : ∀ S Rs', Ψ S Rs' → K (S.ren (renS cp nx ρl)) (addS (renS cp nx ρl) 0 Rs' (dropM ρl M)) (nx + Rs'.length) id) : CallK P np f args M nx K := by
  intro B W n0 σ w vs hm hn0 hnp hrel
  obtain ⟨hlen, hget⟩ := atM_get hM
  have hget' : ∀ (i : Nat) (R : Reg), memR Rs i = some R → ∃ q, ρl[i]? = some q ∧ M q = some (R.ren fun i => (ρl[i]?).getD nx) := fun i R h => hget i R (by rw [← memR_get]; exact h)
  let σ1 : Sig := fun i => σ ((ρl[i]?).getD nx)
  have hσ1 : ∀ i q, ρl[i]? = some q → σ1 i = σ q := fun i q h => by simp [σ1, h]
  have hW : ∀ b, Wof σ1 (memR Rs) b → ∃ q R L, q ∈ ρl ∧ M q = some R ∧ σ q = some L ∧ L.at_ = some b := by
    rintro b ⟨r, R, L, h1, h2, h3⟩
    obtain ⟨q, e1, e2⟩ := hget' r R h1
    rw [hσ1 r q e1] at h2
    exact ⟨q, _, L, List.mem_of_getElem? e1, e2, h2, h3⟩
  have hW' : ∀ q R L b, q ∈ ρl → M q = some R → σ q = some L → L.at_ = some b → Wof σ1 (memR Rs) b := by
    intro q R L b h1 h2 h3 h4
    obtain ⟨i, hi, rfl⟩ := List.getElem_of_mem h1
    have e0 : ρl[i]? = some ρl[i] := List.getElem?_eq_getElem hi
    exact ⟨i, Rs[i]'(by omega), L, by rw [memR_get]; exact List.getElem?_eq_getElem (by omega), by rw [hσ1 i _ e0]; exact h3, h4⟩
  let B1 : Nat → Prop := fun b => Zof B σ M w b ∨ Wof σ1 (memR Rs) b ∨ w.heap.size ≤ b
  have hz1 : ∀ b, Zof B σ M w b → Zof B1 σ1 (memR Rs) w b := fun b hb => ⟨⟨hb.1.1, .inl hb⟩, fun r R L h1 h2 h3 => by
    obtain ⟨q, e1, e2⟩ := hget' r R h1
    rw [hσ1 r q e1] at h2
    exact hb.2 q _ L e2 h2 h3⟩
  have hm1 : MOK B1 (Wof σ1 (memR Rs)) w.heap.size σ1 (memR Rs) (From Rs.length) w := by
    refine ⟨fun b hb => .inr (hb.symm), fun r hr => ?_, fun r R h => ?_, fun r r' R R' L L' b h1 h2 h3 h4 h5 h6 => ?_, fun r R L b h1 h2 h3 => .inl ⟨r, R, L, h1, h2, h3⟩⟩
    · have : ρl[r]? = none := List.getElem?_eq_none (by have : Rs.length ≤ r := hr; omega)
      simp [σ1, this, hm.fresh nx (Nat.le_refl nx)]
    · obtain ⟨q, e1, e2⟩ := hget' r R h
      obtain ⟨L, g1, g2⟩ := hm.reg q _ e2
      refine ⟨L, by rw [hσ1 r q e1]; exact g1, ?_⟩
      exact (RegOK_ren.1 g2).mono (fun _ _ h => h) (fun b hb => ⟨hz1 b hb, rfl⟩) (fun _ _ => rfl)
    · obtain ⟨q, e1, e2⟩ := hget' r R h1
      obtain ⟨q', e3, e4⟩ := hget' r' R' h2
      rw [hσ1 r q e1] at h3
      rw [hσ1 r' q' e3] at h4
      have := hm.inj q q' _ _ L L' b e2 e4 h3 h4 h5 h6
      subst this
      obtain ⟨l1, l2⟩ := List.getElem?_eq_some_iff.1 e1
      obtain ⟨l3, l4⟩ := List.getElem?_eq_some_iff.1 e3
      exact nodup_inj hnd l1 l3 (l2.trans l4.symm)
  have ha1 : SV.relL σ1 (Zof B1 σ1 (memR Rs) w) w args0 vs := by
    rw [ha] at hrel
    exact SV.relL_mono (fun _ _ h => h) (fun b hb => ⟨hz1 b hb, rfl⟩) _ _ ((SV.relL_ren _ _).1 hrel)
  obtain ⟨c1, c2⟩ := hp B1 σ1 w vs hm1 ha1
  refine .inl ⟨c1, c2.mono fun e w' h' => ?_⟩
  obtain ⟨S, Rs', y, σ', hΨ, rfl, hm', hr, hf, hpin⟩ := h'
  have hBW : ∀ b, Wof σ1 (memR Rs) b → W b ∨ n0 ≤ b := fun b hb => by
    obtain ⟨q, R, L, h1, h2, h3, h4⟩ := hW b hb
    exact hm.own q R L b h2 h3 h4
  have hB : ∀ b, B1 b → B b := fun b hb => by
    rcases hb with hb | hb | hb
    · exact hb.1.2
    · exact hm.newB b (hBW b hb).symm
    · exact hm.newB b (.inl (by omega))
  let ρ : Nat → Nat := renS cp nx ρl
  let σ2 : Sig := fun r => if nx ≤ r then σ' (r - nx) else σ r
  let M2 : Mem := addS ρ 0 Rs' (dropM ρl M)
  have hltσ : ∀ r L, σ r = some L → r < nx := fun r L h => by
    rcases Nat.lt_or_ge r nx with h1 | h1
    · exact h1
    · rw [hm.fresh r h1] at h; cases h
  have hσ2' : ∀ i, σ2 (ρ i) = σ' i := by
    intro i
    show σ2 (renS cp nx ρl i) = _
    unfold renS
    by_cases hi : i < cp
    · rw [if_pos hi, hpin i hi]
      have hil : i < ρl.length := by omega
      have e0 : ρl[i]? = some ρl[i] := List.getElem?_eq_getElem hil
      rw [e0]
      have hR : memR Rs i = some (Rs[i]'(by omega)) := by rw [memR_get]; exact List.getElem?_eq_getElem (by omega)
      obtain ⟨q, e1, e2⟩ := hget' i _ hR
      rw [e0] at e1; cases e1
      obtain ⟨L, g1, _⟩ := hm.reg _ _ e2
      have hlt := hltσ _ _ g1
      simp only [Option.getD_some]
      rw [hσ1 i _ e0]
      exact if_neg (by omega)
    · rw [if_neg hi]
      simp [σ2]
  have hσ2 : (fun i => σ2 (ρ i)) = σ' := by
    funext i; exact hσ2' i
  have hs2 : SigLe σ σ2 := fun r L h => by
    show (if nx ≤ r then _ else _) = _
    rw [if_neg]
    · exact h
    · intro hr
      rw [hm.fresh r hr] at h; cases h
  -- what a region is now: one of those that came back, or one of the old ones that were not given up
  have hk2 : ∀ r R, M2 r = some R → (∃ i R', r = ρ i ∧ memR Rs' i = some R' ∧ R = R'.ren ρ) ∨ (r ∉ ρl ∧ M r = some R ∧ r < nx) := by
    intro r R h
    rcases addS_get ρ Rs' 0 _ r R h with ⟨j, R', h1, h2, h3⟩ | ⟨h1, h2⟩
    · exact .inl ⟨j, R', by simpa using h2, by rw [memR_get]; exact h1, h3⟩
    · rw [dropM_at] at h1
      split at h1
      · cases h1
      · rename_i hr
        obtain ⟨L, g1, _⟩ := hm.reg r R h1
        exact .inr ⟨hr, h1, hltσ r L g1⟩
  have holdW : ∀ r R L b, r ∉ ρl → M r = some R → σ r = some L → L.at_ = some b → b < w.heap.size ∧ ¬ Wof σ1 (memR Rs) b := by
    intro r R L b h1 h2 h3 h4
    obtain ⟨L', g1, g2⟩ := hm.reg r R h2
    rw [h3] at g1; cases g1
    refine ⟨g2.block h4, fun hb => ?_⟩
    obtain ⟨q, R1, L1, q1, q2, q3, q4⟩ := hW b hb
    exact h1 (by rw [hm.inj r q R R1 L L1 b h2 q2 h3 q3 h4 q4]; exact q1)
  have hnew : ∀ i R L b, memR Rs' i = some R → σ' i = some L → L.at_ = some b → Wof σ1 (memR Rs) b ∨ w.heap.size ≤ b := fun i R L b h1 h2 h3 => hm'.own i R L b h1 h2 h3
  have hZW : ∀ b, Zof B σ M w b → ¬ Wof σ1 (memR Rs) b := fun b hb h => by
    obtain ⟨q, R1, L1, q1, q2, q3, q4⟩ := hW b h
    exact hb.2 q R1 L1 q2 q3 q4
  have hz2 : ∀ b, Zof B σ M w b → Zof B σ2 M2 w' b := fun b hb => ⟨⟨Nat.lt_of_lt_of_le hb.1.1 hf.size, hb.1.2⟩, fun r R L h1 h2 h3 => by
    rcases hk2 r R h1 with ⟨i, R', rfl, e1, _⟩ | ⟨e1, e2, e3⟩
    · rw [hσ2' i] at h2
      rcases hnew i R' L b e1 h2 h3 with h | h
      · exact hZW b hb h
      · have := hb.1.1; omega
    · have : σ2 r = σ r := if_neg (by omega)
      rw [this] at h2
      exact hb.2 r R L e2 h2 h3⟩
  have hkeep : Keep (Zof B σ M w) (Zof B σ2 M2 w') w w' := fun b hb => ⟨hz2 b hb, hf.block b hb.1.1 (hZW b hb)⟩
  have hz3 : ∀ b, Zof B1 σ' (memR Rs') w' b → Zof B σ2 M2 w' b := fun b hb => ⟨⟨hb.1.1, hB b hb.1.2⟩, fun r R L h1 h2 h3 => by
    rcases hk2 r R h1 with ⟨i, R', rfl, e1, _⟩ | ⟨e1, e2, e3⟩
    · rw [hσ2' i] at h2
      exact hb.2 i R' L e1 h2 h3
    · have : σ2 r = σ r := if_neg (by omega)
      rw [this] at h2
      obtain ⟨g1, g2⟩ := holdW r R L b e1 e2 h2 h3
      rcases hb.1.2 with h | h | h
      · exact h.2 r R L e2 h2 h3
      · exact g2 h
      · omega⟩
  refine ⟨y, S.ren ρ, M2, nx + Rs'.length, σ2, id, rfl, hK S Rs' hΨ, ⟨hm.newB, fun r hr => ?_, fun r R h => ?_, fun r r' R R' L L' b h1 h2 h3 h4 h5 h6 => ?_, fun r R L b h1 h2 h3 => ?_⟩, hkeep, ?_, fun t z hz => SV.rel_mono hs2 hkeep _ _ hz, ⟨hf.os, hf.tape, hf.output, hf.size, hf.drawn, fun b hb hw => hf.block b (by omega) fun h => ?_⟩, by omega, fun r hr => if_neg (by omega)⟩
  · have hr' : nx + Rs'.length ≤ r := hr
    show (if nx ≤ r then _ else _) = _
    rw [if_pos (by omega)]
    exact hm'.fresh (r - nx) (show Rs'.length ≤ r - nx by omega)
  · rcases hk2 r R h with ⟨i, R', rfl, e1, rfl⟩ | ⟨e1, e2, e3⟩
    · obtain ⟨L, g1, g2⟩ := hm'.reg i R' e1
      refine ⟨L, by rw [hσ2' i]; exact g1, ?_⟩
      refine RegOK_ren.2 ?_
      rw [hσ2]
      exact g2.mono (fun _ _ h => h) (fun b hb => ⟨hz3 b hb, rfl⟩) (fun _ _ => rfl)
    · obtain ⟨L, g1, g2⟩ := hm.reg r R e2
      refine ⟨L, hs2 _ _ g1, g2.mono hs2 hkeep fun b hb => ?_⟩
      obtain ⟨q1, q2⟩ := holdW r R L b e1 e2 g1 hb
      exact hf.block b q1 q2
  · rcases hk2 r R h1 with ⟨i, R1, rfl, e1, _⟩ | ⟨e1, e2, e3⟩
    · have g3 : σ' i = some L := by rw [← hσ2' i]; exact h3
      rcases hk2 r' R' h2 with ⟨i', R2, rfl, e1', _⟩ | ⟨e1', e2', e3'⟩
      · have g4 : σ' i' = some L' := by rw [← hσ2' i']; exact h4
        rw [hm'.inj i i' R1 R2 L L' b e1 e1' g3 g4 h5 h6]
      · exfalso
        have : σ2 r' = σ r' := if_neg (by omega)
        rw [this] at h4
        obtain ⟨q1, q2⟩ := holdW r' R' L' b e1' e2' h4 h6
        rcases hnew i R1 L b e1 g3 h5 with h | h
        · exact q2 h
        · omega
    · have g3 : σ r = some L := by
        have : σ2 r = σ r := if_neg (by omega)
        rw [← this]; exact h3
      rcases hk2 r' R' h2 with ⟨i', R2, rfl, e1', _⟩ | ⟨e1', e2', e3'⟩
      · exfalso
        have g4 : σ' i' = some L' := by rw [← hσ2' i']; exact h4
        obtain ⟨q1, q2⟩ := holdW r R L b e1 e2 g3 h5
        rcases hnew i' R2 L' b e1' g4 h6 with h | h
        · exact q2 h
        · omega
      · have : σ2 r' = σ r' := if_neg (by omega)
        rw [this] at h4
        exact hm.inj r r' R R' L L' b e2 e2' g3 h4 h5 h6
  · rcases hk2 r R h1 with ⟨i, R1, rfl, e1, _⟩ | ⟨e1, e2, e3⟩
    · have g3 : σ' i = some L := by rw [← hσ2' i]; exact h2
      rcases hnew i R1 L b e1 g3 h3 with h | h
      · exact hBW b h
      · right; omega
    · have : σ2 r = σ r := if_neg (by omega)
      rw [this] at h2
      exact hm.own r R L b e2 h2 h3
  · refine (SV.rel_ren _ _).2 ?_
    rw [hσ2]
    exact SV.rel_mono (fun _ _ h => h) (fun b hb => ⟨hz3 b hb, rfl⟩) _ _ hr
  · rcases hBW b h with h | h
    · exact hw h
    · omega
end

/-! ### a region under another number -/
mutual
def SV.mv (p q : Nat) : SV → SV
  | .r x => .r x
  | .ptr z row k fld => if z = p then .ptr q row k fld else if z = q then .r .any else .ptr z row k fld
  | .sl z k lo n c => if z = p then .sl q k lo n c else if z = q then .r .any else .sl z k lo n c
  | .mp z => if z = p then .mp q else if z = q then .r .any else .mp z
  | .fn f fi ca => .fn f (SV.mvL p q fi) (SV.mvL p q ca)
  | .agg l => .agg (SV.mvL p q l)
  | .tup l => .tup (SV.mvL p q l)
def SV.mvL (p q : Nat) : List SV → List SV
  | [] => []
  | s :: l => s.mv p q :: SV.mvL p q l
end
def Reg.mv (p q : Nat) : Reg → Reg
  | .box l => .box (SV.mvL p q l)
  | .vec e k n g => .vec e k n fun i j => (g i j).mv p q
  | .kmap kd has val st => .kmap kd has (fun a => (val a).mv p q) st
  | .iter m f c all left la => .iter (m.mv p q) f c all left la
def mvM (p q : Nat) (M : Mem) : Mem := fun r => if r = q then (M p).map (Reg.mv p q) else if r = p then none else (M r).map (Reg.mv p q)
attribute [go_sem] SV.mv SV.mvL Reg.mv mvM
@[go_sem] theorem SV.mv_ite (p q : Nat) (c : Prop) [Decidable c] (x y : SV) : SV.mv p q (if c then x else y) = if c then x.mv p q else y.mv p q := by split <;> rfl

section
variable {σ σ' : Sig} {Z Z' : Nat → Prop} {w : World} {p q : Nat}
mutual
theorem SV.rel_mv (hp : σ' q = σ p) (hs : ∀ r, r ≠ p → r ≠ q → σ' r = σ r) (hz : ∀ b, Z b → Z' b) : ∀ (s : SV) (y : Value), s.rel σ Z w y → (s.mv p q).rel σ' Z' w y
  | .r x, y, h => by
    unfold SV.mv
    exact RV.rel_mono (fun b hb => ⟨hz b hb, rfl⟩) x y h
  | .ptr z row k fld, y, h => by
    unfold SV.mv
    obtain ⟨L, b, h1, h2, h3⟩ := h
    split
    · rename_i e; subst e; exact ⟨L, b, hp.trans h1, h2, h3⟩
    · split
      · trivial
      · rename_i e1 e2; exact ⟨L, b, (hs z e1 e2).trans h1, h2, h3⟩
  | .sl z k lo n c, y, h => by
    unfold SV.mv
    obtain ⟨L, A, h1, h2⟩ := h
    split
    · rename_i e; subst e; exact ⟨L, A, hp.trans h1, h2⟩
    · split
      · trivial
      · rename_i e1 e2; exact ⟨L, A, (hs z e1 e2).trans h1, h2⟩
  | .mp z, y, h => by
    unfold SV.mv
    obtain ⟨L, b, h1, h2, h3⟩ := h
    split
    · rename_i e; subst e; exact ⟨L, b, hp.trans h1, h2, h3⟩
    · split
      · trivial
      · rename_i e1 e2; exact ⟨L, b, (hs z e1 e2).trans h1, h2, h3⟩
  | .fn f fi ca, y, h => by
    obtain ⟨vs, ws, e, h1, h2⟩ := h
    exact ⟨vs, ws, e, SV.relL_mv hp hs hz _ _ h1, SV.relL_mv hp hs hz _ _ h2⟩
  | .agg l, y, h => by
    obtain ⟨vs, e, h1, h2⟩ := h
    exact ⟨vs, e, h1, SV.relL_mv hp hs hz _ _ h2⟩
  | .tup l, y, h => by
    obtain ⟨vs, e, h2⟩ := h
    exact ⟨vs, e, SV.relL_mv hp hs hz _ _ h2⟩
theorem SV.relL_mv (hp : σ' q = σ p) (hs : ∀ r, r ≠ p → r ≠ q → σ' r = σ r) (hz : ∀ b, Z b → Z' b) : ∀ (l : List SV) (ys : List Value), SV.relL σ Z w l ys → SV.relL σ' Z' w (SV.mvL p q l) ys
  | [], ys, h => h
  | s :: l, ys, h => by
    obtain ⟨v, vs', e, h1, h2⟩ := h
    exact ⟨v, vs', e, SV.rel_mv hp hs hz s v h1, SV.relL_mv hp hs hz l vs' h2⟩
end
theorem RegOK.mv {L : Loc} {R : Reg} (hp : σ' q = σ p) (hs : ∀ r, r ≠ p → r ≠ q → σ' r = σ r) (hz : ∀ b, Z b → Z' b) (h : RegOK σ Z w L R) : RegOK σ' Z' w L (R.mv p q) := by
  cases R with
  | box l =>
    obtain ⟨b', cs, ty, h1, h2, h3, h4⟩ := h
    exact ⟨b', cs, ty, h1, h2, h3, SV.relL_mv hp hs hz _ _ h4⟩
  | vec e k n g =>
    obtain ⟨h0, hm, h | ⟨b', cs, h1, h2, h3, ho, h5⟩⟩ := h
    · exact ⟨h0, hm, .inl h⟩
    · refine ⟨h0, hm, .inr ⟨b', cs, h1, h2, h3, ho, fun i j hi hj => ?_⟩⟩
      obtain ⟨v, hv, ho, hr⟩ := h5 i j hi hj
      exact ⟨v, hv, ho, SV.rel_mv hp hs hz _ _ hr⟩
  | kmap kd has val st =>
    obtain ⟨b', es, ck, h1, h2, h3, h4⟩ := h
    exact ⟨b', es, ck, h1, h2, h3.mono fun a v _ hv => SV.rel_mv hp hs hz _ _ hv, h4⟩
  | iter m f c all left la =>
    obtain ⟨b', mo, seen, sp, h1, h2, h3, h4, h5⟩ := h
    exact ⟨b', mo, seen, sp, h1, h2, h3, SV.rel_mv hp hs hz _ _ h4, h5⟩
end
theorem GSt.move {N : Cfg} {E : Env} {M : Mem} {nx : Nat} (p q : Nat) (hpq : p ≠ q) (hp : N.np ≤ p) (hq : N.np ≤ q) (hqx : q < nx) : GSt N E M nx (fun t => (E t).mv p q) (mvM p q M) nx := by
  intro B W w0 σ a w h
  let σ' : Sig := fun r => if r = q then σ p else if r = p then none else σ r
  have e1 : σ' q = σ p := if_pos rfl
  have e2 : ∀ r, r ≠ p → r ≠ q → σ' r = σ r := fun r h1 h2 => by
    show (if r = q then _ else _) = _
    rw [if_neg h2, if_neg h1]
  have hk : ∀ r R', mvM p q M r = some R' → (r = q ∧ ∃ R, M p = some R ∧ R' = R.mv p q) ∨ (r ≠ q ∧ r ≠ p ∧ ∃ R, M r = some R ∧ R' = R.mv p q) := by
    intro r R' h
    unfold mvM at h
    split at h
    · rename_i e
      cases hq : M p with
      | none => rw [hq] at h; cases h
      | some R => rw [hq] at h; cases h; exact .inl ⟨e, R, rfl, rfl⟩
    · split at h
      · cases h
      · rename_i e e'
        cases hq : M r with
        | none => rw [hq] at h; cases h
        | some R => rw [hq] at h; cases h; exact .inr ⟨e, e', R, rfl, rfl⟩
  have hk' : ∀ r R' L, mvM p q M r = some R' → σ' r = some L → ∃ r0 R, M r0 = some R ∧ R' = R.mv p q ∧ σ r0 = some L ∧ (r = q ∧ r0 = p ∨ r ≠ q ∧ r ≠ p ∧ r0 = r) := by
    intro r R' L h1 h2
    rcases hk r R' h1 with ⟨rfl, R, h3, h4⟩ | ⟨h5, h6, R, h3, h4⟩
    · exact ⟨p, R, h3, h4, by rw [← e1]; exact h2, .inl ⟨rfl, rfl⟩⟩
    · exact ⟨r, R, h3, h4, by rw [← e2 r h6 h5]; exact h2, .inr ⟨h5, h6, rfl⟩⟩
  have hz : ∀ b, Zof B σ M w b → Zof B σ' (mvM p q M) w b := fun b hb => ⟨hb.1, fun r R' L h1 h2 h3 => by
    obtain ⟨r0, R, g1, _, g3, _⟩ := hk' r R' L h1 h2
    exact hb.2 r0 R L g1 g3 h3⟩
  refine ⟨σ', fun t => SV.rel_mv e1 e2 hz _ _ (h.env t), ⟨h.mem.newB, fun r hr => ?_, fun r R' h1 => ?_, fun r r' R R' L L' b h1 h2 h3 h4 h5 h6 => ?_, fun r R' L b h1 h2 h3 => ?_⟩, h.fr, h.defers.keep (fun b hb => ⟨hz b hb, rfl⟩), h.size, h.low, fun r hr => ?_, h.good⟩
  · have hr' : nx ≤ r := hr
    by_cases e : r = p
    · subst e
      show (if r = q then _ else if r = r then none else _) = none
      rw [if_neg hpq, if_pos rfl]
    · rw [e2 r e (by omega)]
      exact h.mem.fresh r hr
  · rcases hk r R' h1 with ⟨rfl, R, h3, rfl⟩ | ⟨h5, h6, R, h3, rfl⟩
    · obtain ⟨L, g1, g2⟩ := h.mem.reg p R h3
      exact ⟨L, by rw [e1]; exact g1, g2.mv e1 e2 hz⟩
    · obtain ⟨L, g1, g2⟩ := h.mem.reg r R h3
      exact ⟨L, by rw [e2 r h6 h5]; exact g1, g2.mv e1 e2 hz⟩
  · obtain ⟨r0, R0, g1, _, g3, g4⟩ := hk' r R L h1 h3
    obtain ⟨r1, R1, k1, _, k3, k4⟩ := hk' r' R' L' h2 h4
    have := h.mem.inj r0 r1 R0 R1 L L' b g1 k1 g3 k3 h5 h6
    omega
  · obtain ⟨r0, R0, g1, _, g3, g4⟩ := hk' r R' L h1 h2
    exact h.mem.own r0 R0 L b g1 g3 h3
  · rw [e2 r (by omega) (by omega)]
    exact h.pin r hr
end Go.Gx
/-
  Regions of open order in which some operations (values that are moved, ahead of a call) go first, some float, and the rest is in order.
-/
set_option linter.unusedVariables false
set_option linter.unusedSimpArgs false
namespace Go.Gx
open Go.RowKit

section
variable {P : Program} {T : Tab} {B W F : Nat → Prop} {w0 : W0} {N : Cfg} {n0 : Nat} {σ σ' : Sig} {M M' : Mem} {nx : Nat} {w w' : World} {a : Act} {E E' : Env} {ops : Array Oper}
variable {m : Nat} {vals : Nat → SV × Option Reg} {q : Nat → Nat} {tk : List Nat}

structure DT (ops : Array Oper) (m : Nat) (tk : List Nat) : Prop where
  le : m ≤ ops.size
  pair : ∀ i j, i < m → j < m → i ≠ j → clashes ops i j = true → (if i < j then ahead_ ops i j else ahead_ ops j i) = true
  tail : ∀ j, m ≤ j → j < ops.size → ∀ i, i < j → i < m → i ∈ tk ∨ ahead_ ops i j = true
  late : ∀ j i, m ≤ i → i < j → j < ops.size → ahead_ ops i j = true
  wf : ∀ j o, ops[j]? = some o → ∀ e ∈ o.after, Region.binds .any e = true → e.on < j
  guard : ∀ i, i < m → ∀ o, ops[i]? = some o → ∀ g, o.guard = some g → g.1 < m
  tkm : ∀ i ∈ tk, i < m
  tko : ∀ i ∈ tk, ∃ d x ty pos af, ops[i]? = some ⟨d, .move x, ty, pos, af, none⟩ ∧ ∀ e ∈ af, Region.binds .any e = false
  nd : tk.Nodup
def isMv (o : Oper) : Bool := o.guard.isNone && (o.after.all fun e => !Region.binds .any e) && (match o.op with | .move _ => true | _ => false)
def drawOKt (ops : Array Oper) (m : Nat) (tk : List Nat) : Bool :=
  decide (m ≤ ops.size) && ((List.range m).all fun j => (List.range m).all fun i => decide (i = j) || !clashes ops i j || (if i < j then ahead_ ops i j else ahead_ ops j i)) &&
  ((List.range ops.size).all fun j => decide (j < m) || (List.range j).all fun i => (decide (i < m) && decide (i ∈ tk)) || ahead_ ops i j) &&
  (ops.toList.zipIdx.all fun (o, j) => o.after.all fun e => !Region.binds .any e || decide (e.on < j)) &&
  ((List.range m).all fun i => match ops[i]? with | some o => (match o.guard with | some g => decide (g.1 < m) | none => true) | none => true) &&
  (tk.all fun i => decide (i < m) && match ops[i]? with | some o => isMv o | none => false) && decide tk.Nodup
theorem drawOKt_spec (h : drawOKt ops m tk = true) : DT ops m tk := by
  unfold drawOKt at h
  simp only [Bool.and_eq_true] at h
  obtain ⟨⟨⟨⟨⟨⟨h1, h2⟩, h3⟩, h4⟩, h5⟩, h6⟩, h7⟩ := h
  have ht : ∀ j, m ≤ j → j < ops.size → ∀ i, i < j → (i < m ∧ i ∈ tk) ∨ ahead_ ops i j = true := fun j hj hs i hi => by
    have := List.all_eq_true.1 h3 j (List.mem_range.2 hs)
    rw [Bool.or_eq_true] at this
    rcases this with h | h
    · have := of_decide_eq_true h; omega
    · have := List.all_eq_true.1 h i (List.mem_range.2 hi)
      rw [Bool.or_eq_true, Bool.and_eq_true] at this
      rcases this with h | h
      · exact .inl ⟨of_decide_eq_true h.1, of_decide_eq_true h.2⟩
      · exact .inr h
  refine ⟨of_decide_eq_true h1, fun i j hi hj hne hc => ?_, fun j hj hs i hi him => (ht j hj hs i hi).imp (·.2) id, fun j i hi hj hs => (ht j (by omega) hs i hj).resolve_left fun h => by omega, fun j o ho e he hb => ?_, fun i hi o ho g hg => ?_, fun i hi => ?_, fun i hi => ?_, of_decide_eq_true h7⟩
  · have := List.all_eq_true.1 (List.all_eq_true.1 h2 j (List.mem_range.2 hj)) i (List.mem_range.2 hi)
    rw [Bool.or_eq_true, Bool.or_eq_true] at this
    rcases this with (h | h) | h
    · exact absurd (by simpa using h) hne
    · rw [hc] at h; cases h
    · exact h
  · have := List.all_eq_true.1 h4 (o, j) (by rw [List.mk_mem_zipIdx_iff_getElem?]; simpa using ho)
    simp only at this
    have := Array.all_eq_true_iff_forall_mem.1 this e he
    rw [Bool.or_eq_true] at this
    rcases this with h | h
    · rw [hb] at h; cases h
    · exact of_decide_eq_true h
  · have := List.all_eq_true.1 h5 i (List.mem_range.2 hi)
    simp only [ho, hg] at this
    exact of_decide_eq_true this
  · have := List.all_eq_true.1 h6 i hi
    rw [Bool.and_eq_true] at this
    exact of_decide_eq_true this.1
  · have := List.all_eq_true.1 h6 i hi
    rw [Bool.and_eq_true] at this
    have h8 := this.2
    split at h8
    · rename_i o ho
      obtain ⟨d, op, ty, pos, af, g⟩ := o
      simp only [isMv, Bool.and_eq_true, Option.isNone_iff_eq_none] at h8
      obtain ⟨⟨h9, h10⟩, h11⟩ := h8
      subst h9
      have hb : ∀ e ∈ af, Region.binds .any e = false := fun e he => by
        have := Array.all_eq_true_iff_forall_mem.1 h10 e he
        simpa using this
      split at h11
      · exact ⟨d, _, ty, pos, af, ho, hb⟩
      · cases h11
    · cases h8

theorem extract_get {i : Nat} (hi : i < m) (hm : m ≤ ops.size) : (ops.extract 0 m)[i]? = ops[i]? := by
  rw [Array.getElem?_extract]
  simp
  omega
theorem extract_some {i : Nat} {o : Oper} (h : (ops.extract 0 m)[i]? = some o) : ops[i]? = some o := by
  rw [Array.getElem?_extract] at h
  split at h
  · simpa using h
  · cases h
theorem ESl_take (vals : Nat → SV × Option Reg) (E : Env) (lf : Nat → Bool) (m : Nat) (hm' : m ≤ m) : ∀ k, k ≤ m → m ≤ ops.size → ESl (ops.extract 0 m) vals E lf k = ESl ops vals E lf k
  | 0, _, _ => rfl
  | k + 1, hk, hs => by
    simp only [ESl, ESl_take vals E lf m hm' k (by omega) hs, extract_get (show k < m by omega) hs]
theorem yielded_take {j : Nat} (hj : j < m) (hm : m ≤ ops.size) (tmps : Array Value) : yielded (ops.extract 0 m) tmps j = yielded ops tmps j := by
  unfold yielded
  rw [extract_get hj hm]
theorem befGo_take : ∀ (l : List Oper) (n : Nat) (acc : Array Nat) (j : Nat), j < acc.size + n → (befGo acc (l.take n)).getD j 0 = (befGo acc l).getD j 0
  | [], n, acc, j, _ => by simp
  | o :: l, 0, acc, j, h => by
    rw [List.take_zero]
    exact (befGo_old (o :: l) acc j (by omega)).symm
  | o :: l, n + 1, acc, j, h => by
    simp only [List.take_succ_cons, befGo]
    exact befGo_take l n _ j (by simp; omega)
theorem ahead_take {i j : Nat} (hm : m ≤ ops.size) (hj : j < m) : ahead_ (ops.extract 0 m) i j = ahead_ ops i j := by
  unfold ahead_ befs
  have : (ops.extract 0 m).toList = ops.toList.take m := by simp
  rw [this, befGo_take _ _ _ _ (by simpa using hj)]
theorem wpOp_take {i : Nat} (hi : i < m) (hm : m ≤ ops.size) (hg : ∀ o g, ops[i]? = some o → o.guard = some g → g.1 < m) {Q : Exit → Act → World → Prop} {K : Act → World → Prop} (h : wpOpIn Fence.wide 0 P (ops.extract 0 m) Q i K a w) : wpOpIn Fence.wide 0 P ops Q i K a w := by
  unfold wpOpIn at h ⊢
  rw [extract_get hi hm] at h
  cases ho : ops[i]? with
  | none => rw [ho] at h; exact h
  | some o =>
    rw [ho] at h
    simp only at h ⊢
    have : Region.wanted o (yielded (ops.extract 0 m) a.tmps) = Region.wanted o (yielded ops a.tmps) := by
      unfold Region.wanted
      cases hgd : o.guard with
      | none => rfl
      | some g =>
        have := hg o g ho hgd
        simp only [yielded_take this hm]
    rw [this] at h
    exact h

theorem tail_any2 (hT : TabOK P T) (ok : DT ops m tk) {Q : GQ} : ∀ (fuel : Nat) (U : List Nat) (p : Nat) (listed : Array Bool) (E : Env) (M : Mem) (nx : Nat) (σ : Sig) (a : Act) (w : World),
    U.length = fuel → U.Nodup → (∀ j, j ∈ U ↔ j < ops.size ∧ listed.getD j false = false) → listed.size = ops.size → m ≤ p → (∀ j, j < ops.size → (listed.getD j false = true ↔ j < p)) →
    St B W w0 N σ E M nx a w → gops P T N ops (ops.toList.drop p) E M nx (Q .normal) → wpAnyIn Fence.wide 0 P .any ops (QQ B W w0 N Q) fuel listed a w := by
  intro fuel
  induction fuel with
  | zero =>
    intro U p listed E M nx σ a w hl hnd hU hsz hmp hp h hg
    have hU0 : U = [] := List.eq_nil_of_length_eq_zero hl
    subst hU0
    have hall : ops.size ≤ p := by
      rcases Nat.lt_or_ge p ops.size with h1 | h1
      · have : listed.getD p false = false := by
          cases h2 : listed.getD p false with
          | false => rfl
          | true => have := (hp p h1).1 h2; omega
        have := (hU p).2 ⟨h1, this⟩
        simp at this
      · exact h1
    rw [List.drop_of_length_le (by simpa using hall)] at hg
    refine ⟨?_, _, _, _, _, hg, h⟩
    apply List.eq_nil_iff_forall_not_mem.2
    intro i hi
    have := (unl listed i).1 (mem_ready.1 hi).1
    have := (hU i).2 ⟨by omega, this.2⟩
    simp at this
  | succ fuel ih =>
    intro U p listed E M nx σ a w hl hnd hU hsz hmp hp h hg
    have hready : ∀ i, i ∈ Region.ready .any ops listed → i = p := by
      intro i hi
      obtain ⟨h1, o, ho, h2⟩ := mem_ready.1 hi
      obtain ⟨h3, h4⟩ := (unl listed i).1 h1
      have h5 : ¬ i < p := fun hlt => by rw [(hp i (by omega)).2 hlt] at h4; cases h4
      rcases Nat.lt_or_ge p i with h6 | h6
      · have h7 := ahead_in (l := fun j => listed.getD j false = true) ok.wf (fun j o' hj ho' e he hb => by
          have hlt := (Array.getElem?_eq_some_iff.1 ho').1
          have := (hp j hlt).1 hj
          have h8 := ok.wf j o' ho' e he hb
          exact (hp e.on (by omega)).2 (by omega)) i (fun o' ho' => by rw [ho] at ho'; cases ho'; exact h2) (ok.late i p hmp h6 (by omega))
        have := (hp p (by omega)).1 h7
        omega
      · omega
    refine ⟨fun hr => ?_, fun i hi => ?_⟩
    · rcases Nat.lt_or_ge p ops.size with h1 | h1
      · have : p ∈ Region.ready .any ops listed := by
          refine mem_ready.2 ⟨(unl listed p).2 ⟨by omega, ?_⟩, ops[p], Array.getElem?_eq_getElem h1, fun e he hb => ?_⟩
          · cases h2 : listed.getD p false with
            | false => rfl
            | true => have := (hp p h1).1 h2; omega
          · have h8 := ok.wf p _ (Array.getElem?_eq_getElem h1) e he hb
            exact (hp e.on (by omega)).2 h8
        rw [hr] at this; simp at this
      · rw [List.drop_of_length_le (by simpa using h1)] at hg
        exact ⟨_, _, _, _, hg, h⟩
    · have := hready i hi
      subst this
      obtain ⟨h1, o, ho, h2⟩ := mem_ready.1 hi
      obtain ⟨h3, h4⟩ := (unl listed i).1 h1
      have hlt : i < ops.toList.length := by simpa using (by omega : i < ops.size)
      have hget : ops.toList[i] = o := by
        have := (Array.getElem?_eq_some_iff.1 ho).2
        simpa using this
      rw [List.drop_eq_getElem_cons hlt, hget] at hg
      have hs := gops_step (Q := QQ B W w0 N Q) (next := wpAnyIn Fence.wide 0 P .any ops (QQ B W w0 N Q) fuel (listed.setIfInBounds i true)) hT h hg (fun E' M' nx' σ' a' w' hk hs => by
        refine ih (U.erase i) (i + 1) _ E' M' nx' σ' a' w' ?_ (hnd.erase i) ?_ (by simpa using hsz) (by omega) ?_ hs hk
        · rw [List.length_erase_of_mem ((hU i).2 ⟨by omega, h4⟩), hl]; rfl
        · intro j
          rw [hnd.mem_erase_iff, hU, getD_put _ h3]
          by_cases hj : j = i
          · simp [hj]
          · simp [hj]
        · intro j hj
          rw [getD_put _ h3]
          by_cases hji : j = i
          · simp [hji]
          · rw [if_neg hji, hp j hj]; omega)
      unfold wpOpIn; rw [ho]; simp only []
      split
      · rename_i hw; rw [if_pos hw] at hs; exact hs
      · rename_i hw; rw [if_neg hw] at hs; exact ⟨fun _ _ => trivial, hs⟩

theorem phase_any2 (hT : TabOK P T) (ok : DT ops m tk) (tr : Tr P T N (ops.extract 0 m) m vals q E M nx) (hlow : N.np ≤ nx) {Q : GQ} (hfin : gops P T N ops (ops.toList.drop m) (ESl ops vals E (fun _ => true) m) (MSl vals q M (fun _ => true) m) (q m) (Q .normal)) : ∀ (fuel : Nat) (U : List Nat) (listed : Array Bool) (σ : Sig) (a : Act) (w : World),
    U.length = fuel → U.Nodup → (∀ j, j ∈ U ↔ j < ops.size ∧ listed.getD j false = false) → listed.size = ops.size → Clo ops (fun j => listed.getD j false) → (∀ j, listed.getD j false = true → j < m) → (∀ j ∈ tk, listed.getD j false = true) →
    StF B W w0 N σ (ESl ops vals E (fun j => listed.getD j false) m) (MSl vals q M (fun j => listed.getD j false) m) (FS m vals q nx (fun j => listed.getD j false)) a w → wpAnyIn Fence.wide 0 P .any ops (QQ B W w0 N Q) fuel listed a w := by
  have hsl : ∀ lf, ESl (ops.extract 0 m) vals E lf m = ESl ops vals E lf m := fun lf => ESl_take vals E lf m (Nat.le_refl m) m (Nat.le_refl m) ok.le
  have done : ∀ (fuel : Nat) (U : List Nat) (listed : Array Bool) (σ : Sig) (a : Act) (w : World),
    U.length = fuel → U.Nodup → (∀ j, j ∈ U ↔ j < ops.size ∧ listed.getD j false = false) → listed.size = ops.size → Clo ops (fun j => listed.getD j false) → (∀ j, listed.getD j false = true → j < m) →
    StF B W w0 N σ (ESl ops vals E (fun j => listed.getD j false) m) (MSl vals q M (fun j => listed.getD j false) m) (FS m vals q nx (fun j => listed.getD j false)) a w →
    (∀ j, j < m → listed.getD j false = true) → wpAnyIn Fence.wide 0 P .any ops (QQ B W w0 N Q) fuel listed a w := by
    intro fuel U listed σ a w hl hnd hU hsz hcl hm h hall
    refine tail_any2 hT ok fuel U m listed _ _ (q m) σ a w hl hnd hU hsz (Nat.le_refl _) (fun j _ => ⟨hm j, hall j⟩) ?_ hfin
    have e1 : ESl ops vals E (fun j => listed.getD j false) m = ESl ops vals E (fun _ => true) m := by
      funext t; exact ESl_agree m (fun k hk _ => hall k hk)
    have e2 : MSl vals q M (fun j => listed.getD j false) m = MSl vals q M (fun _ => true) m := MSl_congr m (fun k hk => hall k hk)
    rw [e1, e2] at h
    refine ⟨h.env, h.mem.weaken fun r hr => ⟨Nat.le_trans (tr.qge m) hr, fun c h1 _ h2 => ?_⟩, h.fr, h.defers, h.size, Nat.le_trans hlow (tr.qge m), h.pin, h.good⟩
    have h3 := tr.qlt c h1 h2
    have h4 : q m ≤ r := hr
    omega
  intro fuel
  induction fuel with
  | zero =>
    intro U listed σ a w hl hnd hU hsz hcl hm htk h
    refine done 0 U listed σ a w hl hnd hU hsz hcl hm h fun j hj => ?_
    have hU0 : U = [] := List.eq_nil_of_length_eq_zero hl
    subst hU0
    cases h2 : listed.getD j false with
    | true => rfl
    | false =>
      have := (hU j).2 ⟨Nat.lt_of_lt_of_le hj ok.le, h2⟩
      simp at this
  | succ fuel ih =>
    intro U listed σ a w hl hnd hU hsz hcl hm htk h
    by_cases hall : ∀ j, j < m → listed.getD j false = true
    · exact done _ U listed σ a w hl hnd hU hsz hcl hm h hall
    · have hle := ok.le
      refine ⟨fun hr => ?_, fun i hi => ?_⟩
      · exfalso
        apply hall
        intro j
        induction j using Nat.strongRecOn with
        | _ j ihj =>
          intro hj
          cases h2 : listed.getD j false with
          | true => rfl
          | false =>
            have hlt : j < ops.size := by omega
            have : j ∈ Region.ready .any ops listed := mem_ready.2 ⟨(unl listed j).2 ⟨by omega, h2⟩, ops[j], Array.getElem?_eq_getElem hlt, fun e he hb => by
              have h8 := ok.wf j _ (Array.getElem?_eq_getElem hlt) e he hb
              exact ihj e.on h8 (by omega)⟩
            rw [hr] at this; simp at this
      · obtain ⟨h1, o, ho, h2⟩ := mem_ready.1 hi
        obtain ⟨h3, h4⟩ := (unl listed i).1 h1
        have him : i < m := by
          rcases Nat.lt_or_ge i m with h5 | h5
          · exact h5
          · exfalso
            apply hall
            intro j hj
            apply Classical.byContradiction
            intro hnj
            exact hnj <| ahead_in (l := fun j => listed.getD j false = true) ok.wf (fun j o hj ho => hcl j o hj ho) i (fun o' ho' => by rw [ho] at ho'; cases ho'; exact h2) ((ok.tail i h5 (by omega) j (by omega) hj).resolve_left fun hjk => hnj (htk j hjk))
        have e0 : (fun j => (listed.setIfInBounds i true).getD j false) = (fun k => if k = i then true else listed.getD k false) := by
          funext j; exact getD_put listed h3 j
        have hoX : (ops.extract 0 m)[i]? = some o := by rw [extract_get him ok.le]; exact ho
        refine wpOp_take him ok.le (fun o' g ho' hg => ok.guard i him o' ho' g hg) ?_
        refine phase_step hT tr (lf := fun j => listed.getD j false) him hoX h4 h2 (fun j o' hj ho' => hcl j o' hj (extract_some ho')) (by rw [hsl]; exact h) fun σ' a' w' hs => ?_
        rw [hsl] at hs
        refine ih (U.erase i) _ σ' a' w' ?_ (hnd.erase i) ?_ (by simpa using hsz) ?_ ?_ ?_ ?_
        · rw [List.length_erase_of_mem ((hU i).2 ⟨by omega, h4⟩), hl]; rfl
        · intro j
          rw [hnd.mem_erase_iff, hU, getD_put _ h3]
          by_cases hj : j = i
          · simp [hj]
          · simp [hj]
        · rw [e0]
          intro j o' hj ho' e he hb
          show (if e.on = i then true else listed.getD e.on false) = true
          by_cases hji : j = i
          · subst hji
            rw [ho] at ho'; cases ho'
            have := h2 e he hb
            simp only [this]; split <;> rfl
          · have hj' : listed.getD j false = true := by simpa [hji] using hj
            have := hcl j o' hj' ho' e he hb
            simp only at this
            simp only [this]; split <;> rfl
        · intro j hj
          rw [getD_put _ h3] at hj
          by_cases hji : j = i
          · omega
          · rw [if_neg hji] at hj; exact hm j hj
        · intro j hj
          rw [getD_put _ h3]
          by_cases hji : j = i
          · rw [if_pos hji]
          · rw [if_neg hji]; exact htk j hj
        · rw [e0]; exact hs


theorem DStep_take {i : Nat} {o : Oper} {E : Env} {M : Mem} {p : Nat} {v : SV} {u : Option Reg} (hm : m ≤ ops.size) (hg : ∀ g, o.guard = some g → g.1 < m) (h : DStep P T N ops o E M p v u) : DStep P T N (ops.extract 0 m) o E M p v u := by
  cases hgd : o.guard with
  | none => exact (DStep_none hgd).2 ((DStep_none hgd).1 h)
  | some g =>
    obtain ⟨j, want⟩ := g
    have hj := hg _ hgd
    refine (DStep_some hgd).2 ?_
    have := (DStep_some hgd).1 h
    rw [← extract_get (show j < m from hj) hm] at this
    exact this
def freeSeq (ops : Array Oper) : List Nat → Array Bool → Bool
  | [], _ => true
  | i :: tk, listed => Region.free .any ops listed i && (Region.ready .any ops listed).contains i && freeSeq ops tk (listed.setIfInBounds i true)
theorem takes_any (hT : TabOK P T) (ok : DT ops m tk) (tr : Tr P T N (ops.extract 0 m) m vals q E M nx) (hlow : N.np ≤ nx) (hsel : Region.noSelect ops = true) {Q : GQ} (hp : ∀ c E M nx, Q (.panic c) E M nx → False)
    (hfin : gops P T N ops (ops.toList.drop m) (ESl ops vals E (fun _ => true) m) (MSl vals q M (fun _ => true) m) (q m) (Q .normal)) : ∀ (tl : List Nat) (fuel : Nat) (U : List Nat) (listed : Array Bool) (σ : Sig) (a : Act) (w : World),
    (∀ i ∈ tl, i ∈ tk) → tl.Nodup → (∀ i ∈ tl, listed.getD i false = false) → (∀ i ∈ tk, i ∈ tl ∨ listed.getD i false = true) → freeSeq ops tl listed = true →
    U.length = fuel → U.Nodup → (∀ j, j ∈ U ↔ j < ops.size ∧ listed.getD j false = false) → listed.size = ops.size → Clo ops (fun j => listed.getD j false) → (∀ j, listed.getD j false = true → j < m) →
    StF B W w0 N σ (ESl ops vals E (fun j => listed.getD j false) m) (MSl vals q M (fun j => listed.getD j false) m) (FS m vals q nx (fun j => listed.getD j false)) a w → wpAnyIn Fence.wide 0 P .any ops (QQ B W w0 N Q) fuel listed a w := by
  have hsl : ∀ lf k, k ≤ m → ESl (ops.extract 0 m) vals E lf k = ESl ops vals E lf k := fun lf k hk => ESl_take vals E lf m (Nat.le_refl m) k hk ok.le
  intro tl
  induction tl with
  | nil =>
    intro fuel U listed σ a w _ _ _ htk _ hl hnd hU hsz hcl hm h
    exact phase_any2 hT ok tr hlow hfin fuel U listed σ a w hl hnd hU hsz hcl hm (fun j hj => (htk j hj).resolve_left (by simp)) h
  | cons i tl ih =>
    intro fuel U listed σ a w hsub hnd2 hun htk hfr hl hnd hU hsz hcl hm h
    have hik := hsub i (by simp)
    have him := ok.tkm i hik
    have hle := ok.le
    have h4 := hun i (by simp)
    have h3 : i < listed.size := by omega
    obtain ⟨d, x, ty, pos, af, ho, hbn⟩ := ok.tko i hik
    have hiU : i ∈ U := (hU i).2 ⟨by omega, h4⟩
    cases fuel with
    | zero =>
      have : U = [] := List.eq_nil_of_length_eq_zero hl
      rw [this] at hiU; simp at hiU
    | succ fuel =>
      simp only [freeSeq, Bool.and_eq_true] at hfr
      obtain ⟨⟨hf1, hf2⟩, hf3⟩ := hfr
      have hoX : (ops.extract 0 m)[i]? = some ⟨d, .move x, ty, pos, af, none⟩ := by rw [extract_get him hle]; exact ho
      have hcl' : Clo (ops.extract 0 m) (fun j => listed.getD j false) := fun j o' hj ho' => hcl j o' hj (extract_some ho')
      have h2 : ∀ e ∈ (⟨d, .move x, ty, pos, af, none⟩ : Oper).after, Region.binds .any e = true → listed.getD e.on false = true := fun e he hb => by rw [hbn e he] at hb; cases hb
      obtain ⟨hdst, hrun⟩ := (DStep_none rfl).1 (tr.step i _ him hoX)
      have hrun := ((DRun_else (by intro c x y h; cases h)).1 hrun).2
      simp only [DRun', gop] at hrun
      obtain ⟨_, hv, hu⟩ := hrun
      have hops : ev (ESl ops vals E (fun j => listed.getD j false) m) x = ev (ESl ops vals E (fun _ => true) i) x := by
        cases x with
        | tmp t =>
          have := phase_env tr him hoX h4 h2 hcl' (t := t) fun k _ _ hd => clash_operand hoX hd (by simp [Op.operands])
          rw [hsl _ m (Nat.le_refl m), hsl _ i (by omega)] at this
          exact this
        | _ => rfl
      have hE' := ESl_put (ops := ops) (vals := vals) (E := E) (l := fun j => listed.getD j false) h4 m him (fun k h1 h2' hl t hti htk' => by
        have h5 := ok.pair k i h2' him (by omega) (clash_dst (o := ⟨d, .move x, ty, pos, af, none⟩) ho htk' (by rw [ho] at hti; simpa using hti))
        rw [if_neg (by omega)] at h5
        have := ahead_in (l := fun j => listed.getD j false = true) ok.wf (fun j o hj ho => hcl j o hj ho) k (fun o' ho' => hcl k o' hl ho') h5
        rw [h4] at this; cases this)
      have hM' := MSl_put (M := M) (vals := vals) (q := q) (l := fun j => listed.getD j false) h4 m him (fun k hk hne h1 h2 => tr.qne k i hne h1 h2)
      have hdsto : (ops[i]?).bind (·.dst) = d := by rw [ho]; rfl
      rw [hdsto, hv] at hE'
      rw [hu] at hM'
      rw [hsl _ i (by omega)] at hE'
      rw [← hops] at hE'
      have e0 : (fun j => (listed.setIfInBounds i true).getD j false) = (fun k => if k = i then true else listed.getD k false) := by
        funext j; exact getD_put listed h3 j
      have hst := h.put hdst (ev_rel h.env x)
      refine wpAnyIn_take (v := a.eval x) rfl ho hsel hf1 hf2 (fun c a w hh => ?_) ⟨.inl ⟨by simp [Region.wanted], fun w => rfl⟩, fun _ => rfl⟩ ?_
      · obtain ⟨_, _, _, _, hq, _⟩ := hh
        exact (hp _ _ _ _ hq).elim
      refine ih fuel (U.erase i) _ σ _ w (fun j hj => hsub j (by simp [hj])) (List.nodup_cons.1 hnd2).2 (fun j hj => ?_) (fun j hj => ?_) hf3 ?_ (hnd.erase i) ?_ (by simpa using hsz) ?_ ?_ ?_
      · rw [getD_put _ h3, if_neg fun e => (List.nodup_cons.1 hnd2).1 (by rw [← e]; exact hj)]
        exact hun j (by simp [hj])
      · rw [getD_put _ h3]
        rcases htk j hj with h5 | h5
        · rcases List.mem_cons.1 h5 with rfl | h5
          · exact .inr (if_pos rfl)
          · exact .inl h5
        · by_cases e : j = i
          · exact .inr (if_pos e)
          · exact .inr (by rw [if_neg e]; exact h5)
      · rw [List.length_erase_of_mem hiU, hl]; rfl
      · intro j
        rw [hnd.mem_erase_iff, hU, getD_put _ h3]
        by_cases hj : j = i
        · simp [hj]
        · simp [hj]
      · rw [e0]
        intro j o' hj ho' e he hb
        show (if e.on = i then true else listed.getD e.on false) = true
        by_cases hji : j = i
        · subst hji
          rw [ho] at ho'; cases ho'
          rw [hbn e he] at hb; cases hb
        · have hj' : listed.getD j false = true := by simpa [hji] using hj
          have := hcl j o' hj' ho' e he hb
          simp only at this
          simp only [this]; split <;> rfl
      · intro j hj
        rw [getD_put _ h3] at hj
        by_cases hji : j = i
        · omega
        · rw [if_neg hji] at hj; exact hm j hj
      · rw [e0, hE', hM']
        refine StF.weak hst fun r hr => ⟨hr.1, fun c h1 h2 h3 => hr.2 c h1 ?_ h3⟩
        simp only [h2]; split <;> rfl
theorem gdraw2 (hT : TabOK P T) (hm : P.follows .mixedOrders = true) {id : Nat} (tk : List Nat) (m : Nat) (hok : drawOKt ops m tk = true) (hfree : freeSeq ops tk (Array.replicate ops.size false) = true) (hsel : Region.noSelect ops = true) {Q : GQ} (hp : ∀ c E M nx, Q (.panic c) E M nx → False)
    {nw : FuncId → Bool} (h : gphase nw P T N ops (ops.toList.take m) E M nx (fun E M nx => gops P T N ops (ops.toList.drop m) E M nx (Q .normal))) : GW P N (.region id ops true) E M nx Q := by
  intro r hr B W w0 σ a w hs
  have ok := drawOKt_spec hok
  obtain ⟨vals, h1, h2⟩ := gphase_trace _ _ _ _ h
  have hlen : (ops.toList.take m).length = m := by have := ok.le; simp; omega
  have hget : ∀ k, k < m → (ops.toList.take m)[k]? = ops[k]? := fun k hk => by
    rw [List.getElem?_take_of_lt hk]; simp
  have hE := fun j hj => SL_env (E := E) (M := M) (nx := nx) (ops := ops) (l := ops.toList.take m) (vals := vals) (fun k hk => by rw [hget k (by omega)]) j hj
  have hM := SL_mem (E := E) (M := M) (nx := nx) (l := ops.toList.take m) (vals := vals)
  have hsz' : (ops.extract 0 m).size = m := by have := ok.le; simp; omega
  have okx : DK (ops.extract 0 m) m := by
    refine ⟨by rw [hsz']; exact Nat.le_refl m, fun i j hi hj hne hc => ?_, fun j hj hs => by rw [hsz'] at hs; omega, fun j o ho => ok.wf j o (extract_some ho)⟩
    have hcl : clashes (ops.extract 0 m) i j = clashes ops i j := by
      unfold clashes
      rw [extract_get hi ok.le, extract_get hj ok.le]
      cases (ops[i]?).bind (·.dst) with
      | none => rfl
      | some d =>
        cases hgj : ops[j]? with
        | none => rfl
        | some o =>
          dsimp only
          congr 1
          cases hgd : o.guard with
          | none => rfl
          | some g =>
            have := ok.guard j hj o hgj g hgd
            obtain ⟨g1, g2⟩ := g
            dsimp only at this ⊢
            rw [extract_get this ok.le]
    have hah : ∀ i j, j < m → ahead_ (ops.extract 0 m) i j = ahead_ ops i j := fun i j hj => ahead_take ok.le hj
    rw [hcl] at hc
    have := ok.pair i j hi hj hne hc
    rw [hah i j hj, hah j i hi]
    exact this
  have tr : Tr P T N (ops.extract 0 m) m vals (fun k => (SL (ops.toList.take m) vals E M nx k).2.2) E M nx := {
    ok := okx
    step := fun k o hk ho => by
      have ho' := extract_some ho
      have := h1 k o (by rw [hget k hk]; exact ho')
      rw [hE k (by omega), hM k] at this
      rw [ESl_take vals E _ m (Nat.le_refl m) k (by omega) ok.le]
      exact DStep_take (i := k) ok.le (fun g hg => ok.guard k hk o ho' g hg) this
    qne := fun i j hne hi hj => q_ne hne hi hj
    qfind := fun x j h1 h2 => q_find h1 h2
    qge := fun j => q_mono (i := 0) (Nat.zero_le j)
    qlt := fun c hc hu => q_lt hc hu
    base := fun r hr => by
      cases hM : M r with
      | none => rfl
      | some R =>
        obtain ⟨L, e1, _⟩ := hs.mem.reg r R hM
        rw [hs.mem.fresh r hr] at e1
        cases e1 }
  rw [hlen, hE m (by omega), hM m] at h2
  refine wpIn_region_fw (hr.imp (fun h => h) fun h => h) hm ?_
  have e0 : (fun j => (Array.replicate ops.size false).getD j false) = fun _ => false := by
    funext j; exact rep_getD _ j
  have e1 : ∀ m, ESl ops vals E (fun _ => false) m = E := by
    intro m; induction m with
    | zero => rfl
    | succ m ih => simp only [ESl]; exact ih
  have e2 : ∀ q m, MSl vals q M (fun _ => false) m = M := by
    intro q m; induction m with
    | zero => rfl
    | succ m ih => simp only [MSl]; exact ih
  have hd := hs.drawn
  refine takes_any hT ok tr hs.low hsel hp h2 tk ops.size (List.range ops.size) _ σ a _ (fun _ h => h) ok.nd (fun i _ => rep_getD _ i) (fun i hi => .inl hi) hfree (by simp) List.nodup_range (fun j => by rw [rep_getD]; simp) (by simp) ?_ ?_ ?_
  · rw [e0]; intro j o hj; cases hj
  · intro j hj; rw [rep_getD] at hj; cases hj
  · rw [e0, e1, e2]
    exact ⟨hd.env, hd.mem.weaken fun r hr => hr.1, hd.fr, hd.defers, hd.size, fun r hr => Nat.le_trans hd.low hr.1, hd.pin, hd.good⟩
end
theorem GDraw_mix {P : Program} {T : Tab} {N : Cfg} {k : List It} {Q : GQ} {E : Env} {M : Mem} {nx : Nat} (nw : FuncId → Bool) (hT : TabOK P T) (hm : P.follows .mixedOrders = true) {id : Nat} {ops : List Oper} (tk : List Nat) (m : Nat) (hok : drawOKt ops.toArray m tk = true)
    (hfree : freeSeq ops.toArray tk (Array.replicate ops.toArray.size false) = true) (hsel : Region.noSelect ops.toArray = true) (hp : ∀ c E M nx, GK P T N k Q (.panic c) E M nx → False) {l fin : List Oper} (hl : ops.take m = l) (hf : ops.drop m = fin)
    (h : GPh nw P T N ops.toArray l fin k Q E M nx) : GDraw P T N id ops.toArray k Q E M nx := by
  subst hl; subst hf
  exact gdraw2 hT hm tk m hok hfree hsel hp h
end Go.Gx
/-
  Regions of open order by all their orders; what reads no memory goes first (checks of pointers too).
-/
set_option linter.unusedVariables false
set_option linter.unusedSimpArgs false
namespace Go.Gx
open Go.RowKit

/-- What goes first: it reads no memory. -/
def takesX (o : Oper) : Bool := o.guard.isNone && match o.op with | .fieldAddr .. | .move _ | .assign _ | .nilCheck _ => true | _ => false
def gtakeX (T : Tab) (E : Env) : Op → GR
  | .fieldAddr t x f => gfield T t (ev E x) f
  | .move x | .assign x => .pure True (ev E x)
  | .nilCheck x => gnilop (ev E x)
  | _ => .bad
def TT.makeX (ops : Array Oper) : Nat → Array Bool → TT
  | 0, l => if (Region.ready .any ops l).isEmpty then .done else .bad
  | n + 1, l =>
    let r := Region.ready .any ops l
    if r.isEmpty then .done else
    match r.find? fun i => ((ops[i]?).map takesX).getD false && Region.free .any ops l i with
    | some i => .take i (TT.makeX ops n (l.setIfInBounds i true))
    | none => r.foldr (fun i t => .alt i (TT.makeX ops n (l.setIfInBounds i true)) t) .nil

section
variable (P : Program) (T : Tab) (N : Cfg)
def TQX (K : Env → Mem → Nat → Prop) : GQ := fun e E M nx => match e with | .normal => K E M nx | _ => True
def GTkX (g : GR) (d : Option Tmp) (K : Env → Mem → Nat → Prop) (E : Env) (M : Mem) (nx : Nat) : Prop :=
  match g with
  | .pure ob s => ob ∧ dOK N.n d ∧ K (envPut E d s) M nx
  | _ => False
def GUX (all : Array Oper) : TT → List It → GQ → Env → Mem → Nat → Prop
  | .done, k, Q, E, M, nx => GK P T N k Q .normal E M nx
  | .bad, _, _, _, _, _ => False
  | .nil, _, _, _, _, _ => True
  | .alt i sub more, k, Q, E, M, nx => (match all[i]? with | some o => GO P T N all [o] [] (TQX (GUX all sub k Q)) E M nx | none => False) ∧ GUX all more k Q E M nx
  | .take i sub, k, Q, E, M, nx => match all[i]? with | some o => GTkX N (gtakeX T E o.op) o.dst (GUX all sub k Q) E M nx | none => False
def GUoX (o : Option Oper) (all : Array Oper) (sub : TT) (k : List It) (Q : GQ) (E : Env) (M : Mem) (nx : Nat) : Prop :=
  match o with | some o => GO P T N all [o] [] (TQX (GUX P T N all sub k Q)) E M nx | none => False
def GUtX (o : Option Oper) (all : Array Oper) (sub : TT) (k : List It) (Q : GQ) (E : Env) (M : Mem) (nx : Nat) : Prop :=
  match o with | some o => GTkX N (gtakeX T E o.op) o.dst (GUX P T N all sub k Q) E M nx | none => False
end
section
variable {P : Program} {T : Tab} {N : Cfg} {k : List It} {Q : GQ} {E : Env} {M : Mem} {nx : Nat}
@[go_sem] theorem TQX_normal (K : Env → Mem → Nat → Prop) : TQX K .normal E M nx = K E M nx := (rfl)
@[go_sem] theorem GUX_done (all : Array Oper) : GUX P T N all .done k Q E M nx = GK P T N k Q .normal E M nx := (rfl)
@[go_sem] theorem GUX_nil (all : Array Oper) : GUX P T N all .nil k Q E M nx = True := (rfl)
@[go_sem] theorem GUX_alt (all : Array Oper) (i : Nat) (s m : TT) : GUX P T N all (.alt i s m) k Q E M nx = (GUoX P T N all[i]? all s k Q E M nx ∧ GUX P T N all m k Q E M nx) := (rfl)
@[go_sem] theorem GUX_take (all : Array Oper) (i : Nat) (s : TT) : GUX P T N all (.take i s) k Q E M nx = GUtX P T N all[i]? all s k Q E M nx := (rfl)
@[go_sem] theorem GUoX_some (all : Array Oper) (o : Oper) (s : TT) : GUoX P T N (some o) all s k Q E M nx = GO P T N all [o] [] (TQX (GUX P T N all s k Q)) E M nx := (rfl)
@[go_sem] theorem GUtX_some (all : Array Oper) (d : Option Tmp) (op : Op) (ty : TypeId) (pos : String) (af : Array Edge) (g : Option (Nat × Bool)) (s : TT) :
    GUtX P T N (some ⟨d, op, ty, pos, af, g⟩) all s k Q E M nx = GTkX N (gtakeX T E op) d (GUX P T N all s k Q) E M nx := (rfl)
@[go_sem] theorem GTkX_pure (ob : Prop) (s : SV) (d : Option Tmp) (K : Env → Mem → Nat → Prop) : GTkX N (.pure ob s) d K E M nx = (ob ∧ dOK N.n d ∧ K (envPut E d s) M nx) := (rfl)
@[go_sem] theorem gtakeX_fieldAddr (t : TypeId) (x : Operand) (f : Nat) : gtakeX T E (.fieldAddr t x f) = gfield T t (ev E x) f := (rfl)
@[go_sem] theorem gtakeX_move (x : Operand) : gtakeX T E (.move x) = .pure True (ev E x) := (rfl)
@[go_sem] theorem gtakeX_nilCheck (x : Operand) : gtakeX T E (.nilCheck x) = gnilop (ev E x) := (rfl)
@[go_sem] theorem gtakeX_assign (x : Operand) : gtakeX T E (.assign x) = .pure True (ev E x) := (rfl)

theorem guX_alts {all : Array Oper} {f : Nat → TT} : ∀ (l : List Nat), GUX P T N all (l.foldr (fun i t => .alt i (f i) t) .nil) k Q E M nx →
    ∀ i ∈ l, ∃ o, all[i]? = some o ∧ gops P T N all [o] E M nx (fun E M nx => GUX P T N all (f i) k Q E M nx)
  | [], _, i, hi => by simp at hi
  | j :: l, h, i, hi => by
    simp only [List.foldr_cons, GUX] at h
    rcases List.mem_cons.1 hi with rfl | hi
    · have h1 := h.1
      cases ho : all[i]? with
      | none => rw [ho] at h1; exact h1.elim
      | some o => rw [ho] at h1; exact ⟨o, rfl, h1⟩
    · exact guX_alts l h.2 i hi

theorem guX_any (hT : TabOK P T) {B W : Nat → Prop} {w0 : W0} {all : Array Oper} (hsel : Region.noSelect all = true) {R : Exit → Act → World → Prop}
    (hK : ∀ E M nx σ a w, GK P T N k Q .normal E M nx → St B W w0 N σ E M nx a w → R .normal a w) (hR : ∀ c a w, ¬ R (.panic c) a w) : ∀ (fuel : Nat) (listed : Array Bool) (E : Env) (M : Mem) (nx : Nat) (σ : Sig) (a : Act) (w : World),
    St B W w0 N σ E M nx a w → GUX P T N all (TT.makeX all fuel listed) k Q E M nx → wpAnyIn Fence.wide 0 P .any all R fuel listed a w := by
  intro fuel
  induction fuel with
  | zero =>
    intro listed E M nx σ a w h hg
    simp only [TT.makeX] at hg
    split at hg
    · rename_i hr
      exact ⟨List.isEmpty_iff.1 hr, hK _ _ _ _ _ _ hg h⟩
    · exact hg.elim
  | succ fuel ih =>
    intro listed E M nx σ a w h hg
    simp only [TT.makeX] at hg
    split at hg
    · rename_i hr
      have hr' := List.isEmpty_iff.1 hr
      refine ⟨fun _ => hK _ _ _ _ _ _ hg h, fun i hi => ?_⟩
      rw [hr'] at hi; simp at hi
    · rename_i hr
      split at hg
      · rename_i i hi
        have hp := List.find?_some hi
        have hmem := List.mem_of_find?_eq_some hi
        simp only [Bool.and_eq_true] at hp
        obtain ⟨hp1, hp2⟩ := hp
        simp only [GUX] at hg
        cases ho : all[i]? with
        | none => rw [ho] at hg; exact hg.elim
        | some o =>
          rw [ho] at hg hp1
          simp only [Option.map_some, Option.getD_some] at hp1
          obtain ⟨dst, op, ty, pos, af, gd⟩ := o
          simp only [takesX, Bool.and_eq_true, Option.isNone_iff_eq_none] at hp1
          obtain ⟨rfl, hp1⟩ := hp1
          have hw : Region.wanted ⟨dst, op, ty, pos, af, none⟩ (yielded all a.tmps) = true := by simp [Region.wanted]
          have fin : ∀ (s : SV) (y : Value), (∀ w, (execOp a.eval ⟨dst, op, ty, pos, af, none⟩).run P w = .ok (.value y) w) → (∀ w, Oper.about P w a.eval ⟨dst, op, ty, pos, af, none⟩ = none) → s.rel σ (Zof B σ M w) w y → dOK N.n dst → GUX P T N all (TT.makeX all fuel (listed.setIfInBounds i true)) k Q (envPut E dst s) M nx → wpAnyIn Fence.wide 0 P .any all R (fuel + 1) listed a w := by
            intro s y h1 h0 h2 h3 h4
            exact wpAnyIn_take (v := y) rfl ho hsel hp2 (by simpa using hmem) (fun c a w hh => (hR _ _ _ hh).elim) ⟨.inl ⟨hw, h1⟩, h0⟩ (ih _ _ _ _ _ _ _ (h.put h3 h2) h4)
          cases op with
          | fieldAddr t x f =>
            simp only [gtakeX] at hg
            cases hq : gfield T t (ev E x) f with
            | pure ob s =>
              rw [hq] at hg
              obtain ⟨h1, h2, h3⟩ := hg
              obtain ⟨y, e1, e2⟩ := take_field hT hq h1 (ev_rel h.env x)
              exact fin s y (fun w => by simp [execOp, e1]) (fun _ => rfl) e2 h2 h3
            | _ => rw [hq] at hg; exact hg.elim
          | move x =>
            obtain ⟨_, h2, h3⟩ := hg
            exact fin _ (a.eval x) (fun w => rfl) (fun _ => rfl) (ev_rel h.env x) h2 h3
          | assign x =>
            obtain ⟨_, h2, h3⟩ := hg
            exact fin _ (a.eval x) (fun w => rfl) (fun _ => rfl) (ev_rel h.env x) h2 h3
          | nilCheck x =>
            simp only [gtakeX] at hg
            have hx := ev_rel h.env x
            unfold gnilop at hg
            split at hg
            · rename_i a1 a2 a3 a4 heq
              rw [heq] at hx
              obtain ⟨_, h2, h3⟩ := hg
              obtain ⟨L, b, q1, q2, q3⟩ := hx
              exact fin (.ptr a1 a2 a3 a4) (a.eval x) (fun w => by simp [execOp, q3]) (fun _ => rfl) ⟨L, b, q1, q2, q3⟩ h2 h3
            · rename_i a1 a2 a3 a4 a5 heq
              rw [heq] at hx
              obtain ⟨_, h2, h3⟩ := hg
              obtain ⟨b, o, q1, q2⟩ := hx
              exact fin (.r (.rp a1 a2 a3 a4 a5)) (a.eval x) (fun w => by simp [execOp, q1]) (fun _ => rfl) ⟨b, o, q1, q2⟩ h2 h3
            · rename_i f a1 a2 heq
              rw [heq] at hx
              split at hg
              · rename_i f'
                obtain ⟨_, h2, h3⟩ := hg
                obtain ⟨vs, ws, q1, q2⟩ := hx
                exact fin (.fn (.func f') a1 a2) (a.eval x) (fun w => by simp [execOp, q1]) (fun _ => rfl) ⟨vs, ws, q1, q2⟩ h2 h3
              · exact hg.elim
            · exact hg.elim
          | _ => simp at hp1
      · refine ⟨fun h' => absurd (List.isEmpty_iff.2 h') hr, fun i hi => ?_⟩
        obtain ⟨o, ho, hgo⟩ := guX_alts _ hg i hi
        have hs := gops_step (Q := R) (next := wpAnyIn Fence.wide 0 P .any all R fuel (listed.setIfInBounds i true)) hT h hgo (fun E' M' nx' σ' a' w' hk hs => ih _ E' M' nx' σ' a' w' hs hk)
        unfold wpOpIn; rw [ho]; simp only []
        split
        · rename_i hw; rw [if_pos hw] at hs; exact hs
        · rename_i hw; rw [if_neg hw] at hs; exact ⟨fun _ _ => trivial, hs⟩

/-- A region of open order, by all its orders. -/
theorem GDraw_x (hT : TabOK P T) (hm : P.follows .mixedOrders = true) {id : Nat} {all : Array Oper} {t : TT} (hsel : Region.noSelect all = true) (ht : TT.makeX all all.size (Array.replicate all.size false) = t)
    (hp : ∀ c E M nx, GK P T N k Q (.panic c) E M nx → False) (h : GUX P T N all t k Q E M nx) : GDraw P T N id all k Q E M nx := by
  subst ht
  intro r hr B W w0 σ a w hs
  refine wpIn_region_fw (hr.imp (fun h => h) fun h => h) hm (guX_any hT hsel (R := fun e a' w' => ∃ E' M' nx' σ', GK P T N k Q e E' M' nx' ∧ St B W w0 N σ' E' M' nx' a' w') (fun E M nx σ a w hk hst => ⟨E, M, nx, σ, hk, hst⟩) (fun c a w ⟨E, M, nx, σ, hk, _⟩ => hp _ _ _ _ hk) _ _ E M nx σ a _ hs.drawn h)
end
end Go.Gx
/-
  Families of regions again, in the form that simp reckons with: regions i + b.
-/
set_option linter.unusedVariables false
set_option linter.unusedSimpArgs false
namespace Go.Gx
open Go.RowKit

section
variable {P : Program} {T : Tab} {N : Cfg} {k : List It} {Q : GQ} {E : Env} {M M' : Mem} {nx : Nat}
def famN (M : Mem) (b n : Nat) (R : Nat → Option Reg) : Mem := fun r => if b ≤ r ∧ r < n + b then R (r - b) else M r
@[go_sem] theorem famN_app (M : Mem) (b n : Nat) (R : Nat → Option Reg) (r : Nat) : famN M b n R r = if b ≤ r ∧ r < n + b then R (r - b) else M r := rfl
theorem famN_eq (M : Mem) (b n : Nat) (R : Nat → Option Reg) : famN M b n R = famM M b n R := by
  funext r
  unfold famN famM
  rw [Nat.add_comm n b]
theorem Fit.of_famN {S : List (Nat × SV)} {l : List (Option Reg)} {b cnt n : Nat} {R : Nat → Option Reg} (hn : N.np ≤ n) (h : slotsS n E S) (hl : l.length = b) (h1 : regsS 0 (trimM n M) l)
    (h2 : ∀ i, i < cnt → Reg.sub (trimM n M (i + b)) (R i)) : Fit N E M nx S (famN (memL l) b cnt R) n := by
  rw [famN_eq]
  exact Fit.of_fam hn h hl h1 fun i hi => by rw [Nat.add_comm]; exact h2 i hi
theorem memR_famN (l : List Reg) (n : Nat) (f : Nat → Reg) : memR (l ++ (List.range n).map f) = famN (memR l) l.length n (fun i => some (f i)) := by
  rw [famN_eq]; exact memR_fam' l n f
@[go_sem] theorem addS_famN (b i n : Nat) (f : Nat → Reg) (M : Mem) : addS (fun i => b + i) i ((List.range n).map f) M = famN M (b + i) n fun j => some ((f j).ren fun i => b + i) := by
  have := addS_map b (fun i => b + i) (fun _ => rfl) f n 0 i M
  rw [List.range_eq_range', famN_eq]
  simpa using this
@[go_sem] theorem famL_def (n : Nat) (f : Nat → Reg) : famL n f = (List.range n).map f := rfl
/-- The regions of an export: some, and a family. -/
def famR (l : List Nat) (n b : Nat) : List Nat := l ++ (List.range n).map fun i => i + b
theorem famR_nodup {l : List Nat} {n b : Nat} (h : l.Nodup) (hl : ∀ x ∈ l, x < b) : (famR l n b).Nodup :=
  nodup_fam h (fun i j _ _ h => by omega) fun x hx i _ => by have := hl x hx; omega
theorem famR_getD (l : List Nat) (n b D r : Nat) : ((famR l n b)[r]?).getD D = if r < l.length then (l[r]?).getD D else if r < n + l.length then r - l.length + b else D := by
  unfold famR
  rw [getD_fam, Nat.add_comm l.length n]
theorem famR_lo {l : List Nat} {n b D r : Nat} (h : r < l.length) : ((famR l n b)[r]?).getD D = (l[r]?).getD D := by
  rw [famR_getD, if_pos h]
theorem famR_hi {l : List Nat} {n b D i : Nat} (h : i < n) : ((famR l n b)[i + l.length]?).getD D = i + b := by
  rw [famR_getD, if_neg (by omega), if_pos (by omega)]; omega
theorem gexpR_famN {ρ : Nat → Nat} {l : List Nat} {Rs : List Reg} {n b : Nat} {f : Nat → Reg} (h : gexpR M ρ l Rs) (h' : ∀ i, i < n → Reg.sub (M (i + b)) (some ((f i).ren ρ))) : gexpR M ρ (famR l n b) (Rs ++ (List.range n).map f) :=
  gexpR_fam h h'
end
end Go.Gx
/-
  Cells of which less is known.
-/
set_option linter.unusedVariables false
set_option linter.unusedSimpArgs false
namespace Go.Gx
open Go.RowKit

section
variable {P : Program} {T : Tab} {N : Cfg} {k : List It} {Q : GQ} {E : Env} {M M' : Mem} {nx : Nat}
/-- As Reg.sub; of the cells of rows less may be known. -/
def Reg.wk (R R' : Option Reg) : Prop :=
  Reg.sub R R' ∨ ∃ e k n n' g g', R = some (.vec e k n g) ∧ R' = some (.vec e k n' g') ∧ n' ≤ n ∧ ∀ i j, i < n' → j < k → (g i j).sub (g' i j)
theorem Reg.wk_vec {e k n n' : Nat} {g g' : Nat → Nat → SV} (hn : n' ≤ n) (h : ∀ i j, i < n' → j < k → (g i j).sub (g' i j)) : Reg.wk (some (.vec e k n g)) (some (.vec e k n' g')) := .inr ⟨e, k, n, n', g, g', rfl, rfl, hn, h⟩
theorem Reg.wk_ok {σ : Sig} {Z Z' : Nat → Prop} {w : World} {L : Loc} {R R' : Reg} (h : Reg.wk (some R) (some R')) (hz : ∀ b, Z b → Z' b) (hr : RegOK σ Z w L R) : RegOK σ Z' w L R' := by
  rcases h with h | ⟨e, k, n, n', g, g', h1, h2, hn, hg⟩
  · exact Reg.sub_ok h hz hr
  · cases h1; cases h2
    have hr' := hr.mono (fun _ _ h => h) (fun b hb => ⟨hz b hb, rfl⟩) (fun _ _ => rfl)
    obtain ⟨h0, hm, h⟩ := hr'
    refine ⟨Nat.le_trans hn h0, hm, h.imp id fun ⟨b, cs, h1, h2, h3, ho, h5⟩ => ⟨b, cs, h1, h2, h3, ho, fun i j hi hj => ?_⟩⟩
    obtain ⟨v, v1, v0, v2⟩ := h5 i j (by omega) hj
    exact ⟨v, v1, v0, SV.sub_rel _ _ _ (hg i j hi hj) v2⟩
theorem MOK.wk {B W F : Nat → Prop} {n0 : Nat} {σ : Sig} {w : World} (hm : MOK B W n0 σ M F w) (hs : ∀ r, Reg.wk (M r) (M' r)) : MOK B W n0 σ M' F w ∧ ∀ b, Zof B σ M w b → Zof B σ M' w b := by
  have hk : ∀ r R', M' r = some R' → ∃ R1, M r = some R1 ∧ Reg.wk (some R1) (some R') := by
    intro r R' h
    have := hs r
    rw [h] at this
    cases hq : M r with
    | none =>
      rw [hq] at this
      rcases this with h | ⟨_, _, _, _, _, _, h, _⟩
      · simp [Reg.sub] at h
      · cases h
    | some R1 => rw [hq] at this; exact ⟨R1, rfl, this⟩
  have hz : ∀ b, Zof B σ M w b → Zof B σ M' w b := fun b hb => ⟨hb.1, fun r R' L' h1 h2 h3 => by
    obtain ⟨R1, e1, _⟩ := hk r R' h1
    exact hb.2 r R1 L' e1 h2 h3⟩
  refine ⟨⟨hm.newB, hm.fresh, fun r R' h => ?_, fun r r' R1 R2 L1 L2 x h1 h2 h3 h4 h5 h6 => ?_, fun r R' L' x h1 h2 h3 => ?_⟩, hz⟩
  · obtain ⟨R1, e1, e2⟩ := hk r R' h
    obtain ⟨L', g1, g2⟩ := hm.reg r R1 e1
    exact ⟨L', g1, Reg.wk_ok e2 hz g2⟩
  · obtain ⟨R3, e1, _⟩ := hk r R1 h1
    obtain ⟨R4, e2, _⟩ := hk r' R2 h2
    exact hm.inj r r' R3 R4 L1 L2 x e1 e2 h3 h4 h5 h6
  · obtain ⟨R3, e1, _⟩ := hk r R' h1
    exact hm.own r R3 L' x e1 h2 h3
theorem Fit.of_wk {S : List (Nat × SV)} {M1 : Mem} {n : Nat} (hn : N.np ≤ n) (h : slotsS n E S) (hM : ∀ r, Reg.wk (trimM n M r) (M1 r)) : Fit N E M nx S M1 n := by
  refine ⟨trimE n E, fun B W w0 σ a w h3 => ?_⟩
  have h4 := h3.trim n hn
  obtain ⟨m1, m2⟩ := h4.mem.wk hM
  exact ⟨_, updL_sub _ _ (slotsS_all h) fun t => SV.rel_mono (fun _ _ h => h) (fun b hb => ⟨m2 b hb, rfl⟩) _ _ (h4.env t), m1, h4.fr, h4.defers.keep (fun b hb => ⟨m2 b hb, rfl⟩), h4.size, h4.low, h4.pin, h4.good⟩
/-- Less is known of the memory, ahead of a call. -/
theorem callK_wk {np : Nat} {f : FuncId} {args : List SV} {K : SV → Mem → Nat → (SV → SV) → Prop} (hs : ∀ r, Reg.wk (M r) (M' r)) (h : CallK P np f args M' nx K) : CallK P np f args M nx K := by
  intro B W n0 σ w vs hm hn hl ha
  obtain ⟨m1, m2⟩ := hm.wk hs
  have ha' := SV.relL_mono (σ := σ) (σ' := σ) (w := w) (w' := w) (fun _ _ h => h) (fun b hb => ⟨m2 b hb, rfl⟩) args vs ha
  have conv : ∀ e w', CallPost np B W n0 σ M' w K e w' → CallPost np B W n0 σ M w K e w' := by
    rintro e w' ⟨y, s, M1, nx', σ', up, rfl, p1, p2, p3, p4, p5, p6⟩
    exact ⟨y, s, M1, nx', σ', up, rfl, p1, p2, fun b hb => p3 b (m2 b hb), p4, fun t z hz' => p5 _ _ (SV.rel_mono (fun _ _ h => h) (fun b hb => ⟨m2 b hb, rfl⟩) _ _ hz'), p6⟩
  rcases h B W n0 σ w vs m1 hn hl ha' with ⟨c1, c2⟩ | ⟨y, w', c1, c2⟩
  · exact .inl ⟨c1, c2.mono fun e w' hp => conv e w' hp⟩
  · exact .inr ⟨y, w', c1, conv _ _ c2⟩
end
end Go.Gx
/-
  Calls that move cells whose plain cells are known.
-/
set_option linter.unusedVariables false
set_option linter.unusedSimpArgs false
namespace Go.Gx
open Go.RowKit
section
variable {P : Program} {T : Tab} {N : Cfg} {k : List It} {Q : GQ} {E : Env} {M : Mem} {nx : Nat}
theorem callK_opq2 {np : Nat} {f : FuncId} {args : List SV} {K : SV → Mem → Nat → (SV → SV) → Prop} (refs : List Nat) (hr : ∀ r ∈ refs, ∃ e k n get, M r = some (.vec e k n get)) {S : SV} {M2 : Mem} {q k m nx' : Nat} {e' : TypeId} {get' : Nat → Nat → SV}
    (H : ∀ Nm : SV → Value → Prop, (∀ x y, Nm (.r (.v x)) y ↔ y = x) → ∀ M1, NmM Nm refs M M1 → CallK P np f args M1 nx fun s M' nx1 up => up = id ∧ nx1 = nx' ∧ s = S ∧ ∃ d : Nat → Nat → Value, (∀ i j, i < m → j < k → Nm (get' i j) (d i j)) ∧ M' = upd M2 q (some (.vec e' k m fun i j => .r (.v (d i j)))))
    (hK : K S (upd M2 q (some (.vec e' k m get'))) nx' id) : CallK P np f args M nx K := by
  intro B W n0 σ w vs hm hn hl ha
  let M1 : Mem := fun r => if r ∈ refs then (match M r with | some (.vec e k n get) => some (.vec e k n fun i j => .r (.v (nmC σ w r k i j))) | R => R) else M r
  have hdom : ∀ r, (M r).isSome = (M1 r).isSome := fun r => by
    show _ = Option.isSome (if r ∈ refs then _ else _)
    split
    · split
      · rename_i h; rw [h]; rfl
      · rfl
    · rfl
  have hcell : ∀ r e k n get, M r = some (.vec e k n get) → ∃ L, σ r = some L ∧ RegOK σ (Zof B σ M w) w L (.vec e k n fun i j => .r (.v (nmC σ w r k i j))) ∧ ∀ i j, i < n → j < k → (get i j).rel σ (Zof B σ M w) w (nmC σ w r k i j) ∧ (nmC σ w r k i j).oneCell' = true := by
    intro r e k n get h
    obtain ⟨L, g1, g2⟩ := hm.reg r _ h
    obtain ⟨f0, fm, f | ⟨b, cs, f1, f2, f3, fo, f5⟩⟩ := g2
    · exact ⟨L, g1, ⟨f0, fm, .inl f⟩, fun i j hi => by omega⟩
    · have key : ∀ i j v, cs[i * k + j]? = some v → nmC σ w r k i j = v := fun i j v hv => by
        simp [nmC, g1, f1, World.cell?, f2, hv]
      refine ⟨L, g1, ⟨f0, fm, .inr ⟨b, cs, f1, f2, f3, fo, fun i j hi hj => ?_⟩⟩, fun i j hi hj => ?_⟩
      · obtain ⟨v, h1, h2, h3⟩ := f5 i j hi hj
        exact ⟨v, h1, h2, (key i j v h1).symm⟩
      · obtain ⟨v, h1, h2, h3⟩ := f5 i j hi hj
        rw [key i j v h1]; exact ⟨h3, h2⟩
  have hm1 : MOK B W n0 σ M1 (From nx) w := hm.swap hdom fun r R' h => by
    have h' : (if r ∈ refs then (match M r with | some (.vec e k n get) => some (.vec e k n fun i j => .r (.v (nmC σ w r k i j))) | R => R) else M r) = some R' := h
    split at h'
    · split at h'
      · rename_i e k n get hM
        cases h'
        obtain ⟨L, g1, g2, _⟩ := hcell r e k n get hM
        exact ⟨L, g1, g2⟩
      · exact hm.reg r R' h'
    · exact hm.reg r R' h'
  have hZ1 := Zof_dom (B := B) (σ := σ) (w := w) hdom
  have hNm : NmM (fun s y => s.rel σ (Zof B σ M w) w y) refs M M1 := ⟨fun r h => if_neg h, fun r h e k n get hM => ⟨nmC σ w r k, by
    show (if r ∈ refs then _ else _) = _
    rw [if_pos h, hM], (hcell r e k n get hM).elim fun L h => h.2.2⟩⟩
  have conv : ∀ e w', CallPost np B W n0 σ M1 w (fun s M' nx1 up => up = id ∧ nx1 = nx' ∧ s = S ∧ ∃ d : Nat → Nat → Value, (∀ i j, i < m → j < k → (get' i j).rel σ (Zof B σ M w) w (d i j)) ∧ M' = upd M2 q (some (.vec e' k m fun i j => .r (.v (d i j))))) e w' → CallPost np B W n0 σ M w K e w' := by
    rintro e w' ⟨y, s, M', nx1, σ', up, rfl, ⟨rfl, rfl, rfl, d, hd, rfl⟩, p1, p2, p3, p4, p5, p6, p7⟩
    have hdom' : ∀ r, (upd M2 q (some (.vec e' k m fun i j => .r (.v (d i j)))) r).isSome = (upd M2 q (some (.vec e' k m get')) r).isSome := fun r => by
      simp only [upd_app]
      split <;> rfl
    have hZ2 := Zof_dom (B := B) (σ := σ') (w := w') hdom'
    have hm2 : MOK B W n0 σ' (upd M2 q (some (.vec e' k m get'))) (From nx1) w' := p1.swap hdom' fun r R' h => by
      rw [upd_app] at h
      split at h
      · rename_i hq
        subst hq
        cases h
        obtain ⟨L, g1, g2⟩ := p1.reg r _ (upd_same ..)
        obtain ⟨f0, fm, f | ⟨b, cs, f1, f2, f3, fo, f5⟩⟩ := g2
        · exact ⟨L, g1, f0, fm, .inl f⟩
        · refine ⟨L, g1, f0, fm, .inr ⟨b, cs, f1, f2, f3, fo, fun i j hi hj => ?_⟩⟩
          obtain ⟨v, h1, h2, h3⟩ := f5 i j hi hj
          refine ⟨v, h1, h2, ?_⟩
          rw [show v = d i j from h3]
          have := p4 (get' i j) (d i j) (by rw [← hZ1]; exact hd i j hi hj)
          exact this
      · rename_i hq
        exact p1.reg r R' (by rw [upd_ne _ _ hq]; exact h)
    refine ⟨y, _, _, _, σ', id, rfl, hK, hm2, ?_, ?_, fun t z hz => ?_, p5, p6, p7⟩
    · rw [← hZ2, hZ1]; exact p2
    · rw [← hZ2]; exact p3
    · rw [← hZ2]; rw [hZ1] at hz; exact p4 t z hz
  rcases H _ (fun x y => Iff.rfl) M1 hNm B W n0 σ w vs hm1 hn hl (by rw [← hZ1]; exact ha) with ⟨c1, c2⟩ | ⟨y, w', c1, c2⟩
  · exact .inl ⟨c1, c2.mono fun e w' hp => conv e w' hp⟩
  · exact .inr ⟨y, w', c1, conv _ _ c2⟩
/-- Less is known of what a call hands back. -/
theorem OwnS.less {np : Nat} {f : FuncId} {Rs Rs' Rs2 : List Reg} {args : List SV} {S : SV} (h : OwnS P np f Rs args S Rs') (hl : Rs'.length = Rs2.length) (hs : ∀ r, Reg.sub (memR Rs' r) (memR Rs2 r)) : OwnS P np f Rs args S Rs2 := by
  intro B σ w vs hm ha
  obtain ⟨h1, h2⟩ := h B σ w vs hm ha
  refine ⟨h1, h2.mono fun e w' ⟨y, σ', e1, e2, e3, e4, e5⟩ => ?_⟩
  rw [hl] at e2
  obtain ⟨m1, m2⟩ := e2.sub hs
  exact ⟨y, σ', e1, m1, SV.rel_mono (fun _ _ h => h) (fun b hb => ⟨m2 b hb, rfl⟩) _ _ e3, e4, e5⟩
end
end Go.Gx
/-
  Regions of open order by all their orders, told behind the region by slots and regions alone (a join).
-/
set_option linter.unusedVariables false
set_option linter.unusedSimpArgs false
namespace Go.Gx
open Go.RowKit

section
variable {P : Program} {T : Tab} {N : Cfg} {k : List It} {Q : GQ} {E : Env} {M : Mem} {nx : Nat}
def JQ (S : List (Nat × SV)) (n : Nat) (φ : Mem → Prop) : GQ := fun e E M nx => match e with | .normal => slotsS n E S ∧ φ (trimM n M) | _ => False
@[go_sem] theorem JQ_normal (S : List (Nat × SV)) (n : Nat) (φ : Mem → Prop) : JQ S n φ .normal E M nx = (slotsS n E S ∧ φ (trimM n M)) := (rfl)
theorem gdraw_xj (hT : TabOK P T) (hm : P.follows .mixedOrders = true) {id : Nat} {all : Array Oper} {t : TT} (hsel : Region.noSelect all = true) (ht : TT.makeX all all.size (Array.replicate all.size false) = t)
    (hp : ∀ c E M nx, GK P T N k Q (.panic c) E M nx → False) {S : List (Nat × SV)} {n : Nat} {φ : Mem → Prop} {M1 : Mem} (hφ : ∀ E M nx, slotsS n E S → φ (trimM n M) → Fit N E M nx S M1 n)
    (h : GUX P T N all t [] (JQ S n φ) E M nx) (hk : ∀ J, GK P T N k Q .normal (updL J S) M1 n) : GDraw P T N id all k Q E M nx := by
  subst ht
  intro r hr B W w0 σ a w hs
  refine wpIn_region_fw (hr.imp (fun h => h) fun h => h) hm (guX_any hT hsel (R := fun e a' w' => ∃ E' M' nx' σ', GK P T N k Q e E' M' nx' ∧ St B W w0 N σ' E' M' nx' a' w') (fun E M nx σ a w hk0 hst => ?_) (fun c a w ⟨E, M, nx, σ, hk, _⟩ => hp _ _ _ _ hk) _ _ E M nx σ a _ hs.drawn h)
  have hk1 : slotsS n E S ∧ φ (trimM n M) := hk0
  obtain ⟨J, hv⟩ := hφ E M nx hk1.1 hk1.2
  obtain ⟨σ1, h1⟩ := hv _ _ _ _ _ _ hst
  exact ⟨_, _, _, σ1, hk J, h1⟩
/-- Behind the region: the slots S and the regions l. -/
theorem GDraw_xs (S : List (Nat × SV)) (l : List (Option Reg)) (n : Nat) (hT : TabOK P T) (hm : P.follows .mixedOrders = true) {id : Nat} {all : Array Oper} {t : TT} (hsel : Region.noSelect all = true)
    (ht : TT.makeX all all.size (Array.replicate all.size false) = t) (hp : ∀ c E M nx, GK P T N k Q (.panic c) E M nx → False) (hl : l.length = n)
    (h : GUX P T N all t [] (JQ S n fun M => regsS 0 M l) E M nx) (hk : ∀ J, GK P T N k Q .normal (updL J S) (memL l) n) (hnp : N.np ≤ n := by first | exact Nat.zero_le _ | decide) : GDraw P T N id all k Q E M nx :=
  gdraw_xj hT hm hsel ht hp (fun E M nx h1 h2 => Fit.of_slotsS hnp h1 (regsS_memL hl h2)) h hk
/-- Behind the region: the slots S, the regions l, and a family. -/
theorem GDraw_xf (S : List (Nat × SV)) (l : List (Option Reg)) (b cnt : Nat) (R : Nat → Option Reg) (n : Nat) (hT : TabOK P T) (hm : P.follows .mixedOrders = true) {id : Nat} {all : Array Oper} {t : TT} (hsel : Region.noSelect all = true)
    (ht : TT.makeX all all.size (Array.replicate all.size false) = t) (hp : ∀ c E M nx, GK P T N k Q (.panic c) E M nx → False) (hl : l.length = b)
    (h : GUX P T N all t [] (JQ S n fun M => regsS 0 M l ∧ ∀ i, i < cnt → Reg.sub (M (i + b)) (R i)) E M nx) (hk : ∀ J, GK P T N k Q .normal (updL J S) (famN (memL l) b cnt R) n) (hnp : N.np ≤ n := by first | exact Nat.zero_le _ | decide) : GDraw P T N id all k Q E M nx :=
  gdraw_xj hT hm hsel ht hp (fun E M nx h1 h2 => Fit.of_famN hnp h1 hl h2.1 h2.2) h hk
end
end Go.Gx
/-
  Regions of open order: what is read and reckoned goes first, as ghosts; it is read again behind each step that is not so (nothing that was read has changed).
-/
set_option linter.unusedVariables false
set_option linter.unusedSimpArgs false
namespace Go.Gx
open Go.RowKit

/-- Two acts that differ at the places D alone. -/
def Agree (D : Nat → Prop) (a b : Act) : Prop := a.defers = b.defers ∧ a.tmps.size = b.tmps.size ∧ ∀ t, ¬ D t → a.tmps[t]? = b.tmps[t]?
section
variable {P : Program} {ops : Array Oper} {Q : Exit → Act → World → Prop} {D : Nat → Prop} {a b : Act} {w : World}
theorem Agree.eval (h : Agree D a b) {x : Operand} (hx : ∀ t, x = .tmp t → ¬ D t) : a.eval x = b.eval x := by
  cases x with
  | tmp t =>
    simp only [Act.eval, Array.getD_eq_getD_getElem?]
    rw [h.2.2 t (hx t rfl)]
  | _ => rfl
theorem Agree.put (h : Agree D a b) (d : Option Tmp) (v : Value) : Agree D (a.put d v) (b.put d v) := by
  cases d with
  | none => exact h
  | some d =>
    refine ⟨h.1, by simpa [Act.put] using h.2.1, fun t ht => ?_⟩
    simp only [Act.put, Array.getElem?_setIfInBounds, h.2.1, h.2.2 t ht]
theorem Agree.wanted (h : Agree D a b) (o : Oper) (hx : ∀ t ∈ o.looksAt ops, ¬ D t) : Region.wanted o (yielded ops a.tmps) = Region.wanted o (yielded ops b.tmps) := by
  unfold Region.wanted
  cases hg : o.guard with
  | none => rfl
  | some gw =>
    obtain ⟨g, want⟩ := gw
    have hy : yielded ops a.tmps g = yielded ops b.tmps g := by
      unfold yielded
      cases ht : (ops[g]?).bind (·.dst) with
      | none => rfl
      | some t =>
        have : a.tmps[t]? = b.tmps[t]? := h.2.2 t (hx t (by simp [Oper.looksAt, hg, ht]))
        simp [this]
    simp only [hy]
theorem Agree.exec (h : Agree D a b) (o : Oper) (hs : ∀ cs b, o.op ≠ .select cs b) (hx : ∀ t ∈ o.looksAt ops, ¬ D t) : execOp a.eval o = execOp b.eval o :=
  execOp_congr o hs fun x hx2 => h.eval fun t ht => hx t (by
    subst ht
    exact List.mem_append_left _ (List.mem_filterMap.2 ⟨.tmp t, by simpa using hx2, rfl⟩))
theorem wpOp_agree {j : Nat} {o : Oper} (hj : ops[j]? = some o) (hs : ∀ cs b, o.op ≠ .select cs b) (hx : ∀ t ∈ o.looksAt ops, ¬ D t) (hab : Agree D a b) (hQ : ∀ c a w, ¬ Q (.panic c) a w) {K K' : Act → World → Prop}
    (hK : ∀ a' b' w', Agree D a' b' → K' b' w' → K a' w') (h : wpOpIn Fence.wide 0 P ops Q j K' b w) : wpOpIn Fence.wide 0 P ops Q j K a w := by
  unfold wpOpIn at *
  simp only [hj] at *
  rw [hab.wanted o hx]
  split
  · rename_i hw
    simp only [hw, if_true] at h
    refine ⟨fun _ _ => trivial, ?_⟩
    have h := h.2
    show o.uponIn _ _ _ _ _ _ ((execOp a.eval o).run P w)
    have h : o.uponIn Fence.wide 0 P b K' Q ((execOp b.eval o).run P w) := h
    rw [hab.exec o hs hx]
    generalize (execOp b.eval o).run P w = r at *
    cases r with
    | ok n w' =>
      cases n <;> simp only [Oper.uponIn] at h ⊢
      case value u => exact hK _ _ _ (hab.put _ _) h
      case skip => exact hK _ _ _ (hab.put _ _) h
      case defer d =>
        refine hK _ _ _ (Agree.put (a := { a with defers := d :: a.defers }) (b := { b with defers := d :: b.defers }) ⟨by simp [hab.1], hab.2.1, hab.2.2⟩ _ _) h
      case enter f args =>
        refine ⟨h.1, CallsIn.mono h.2 fun e w'' he => ?_⟩
        cases e with
        | returned u => exact hK _ _ _ (hab.put _ _) he
        | panicked c => exact (hQ _ _ _ he).elim
        | outgrown => exact he
      case row row args => exact ⟨h.1, RowsIn.mono h.2 fun u w'' he => hK _ _ _ (hab.put _ _) he⟩
      case round l f t2 as bo =>
        refine ⟨h.1, RoundIn.mono h.2 fun e w'' he => ?_⟩
        cases e with
        | returned u => exact hK _ _ _ (hab.put _ _) he
        | panicked c => exact (hQ _ _ _ he).elim
        | outgrown => exact he
    | halt x w' =>
      cases x <;> simp only [Oper.uponIn] at h ⊢
      case panic u => exact (hQ _ _ _ h).elim
  · rename_i hw
    simp only [hw] at h
    exact ⟨fun _ _ => trivial, hK _ _ _ (hab.put _ _) h.2⟩
end

/-- Trees of orders; p: what may stand out still at this place. -/
inductive TL where
  | done (p : List Nat)
  | bad
  | nil
  | alt (i : Nat) (p : List Nat) (sub more : TL)
  | take (i : Nat) (sub : TL)
def takesL (o : Oper) : Bool := o.guard.isNone && match o.op with
  | .fieldAddr .. | .indexAddr .. | .move _ | .assign _ | .nilCheck _ | .load .. | .slice .. | .binOp .. | .unOp .. | .extract .. | .convert .. | .field .. | .index .. | .build .. | .lookup .. => true
  | .call c => match c.callee with | .builtin .len => true | _ => false
  | _ => false
def okU (ops : Array Oper) (i : Nat) : Bool := match ops[i]? with
  | none => false
  | some oi => takesL oi && match oi.dst with
    | none => true
    | some d => (List.range ops.size).all fun j => match ops[j]? with
      | none => true
      | some oj => if j == i then !(oj.looksAt ops).contains d else oj.dst != some d && (!(oj.looksAt ops).contains d || oj.after.any fun e => Region.binds .any e && e.on == i)
def edge (ops : Array Oper) (j i : Nat) : Bool := match ops[j]? with | some oj => oj.after.any fun e => Region.binds .any e && e.on == i | none => false
def TL.make (ops : Array Oper) : Nat → Array Bool → List Nat → TL
  | 0, l, p => if (Region.ready .any ops l).isEmpty then .done p else .bad
  | n + 1, l, p =>
    let r := Region.ready .any ops l
    if r.isEmpty then .done p else
    match r.find? (okU ops) with
    | some i => .take i (TL.make ops n (l.setIfInBounds i true) (i :: p))
    | none => r.foldr (fun i t => .alt i p (TL.make ops n (l.setIfInBounds i true) (p.filter fun q => !edge ops i q)) t) .nil

section
variable (P : Program) (T : Tab) (N : Cfg)
def dEq (E : Env) (d : Option Tmp) (s : SV) : Prop := match d with | some d => E d = s | none => True
def PendG (E : Env) (d : Option Tmp) : GR → Prop | .pure ob s => ob ∧ dEq E d s | _ => False
def PendOp (E : Env) (M : Mem) (nx : Nat) : Option Oper → Prop | some o => PendG E o.dst (gop T o.op E M nx) | none => False
def PendOK (all : Array Oper) : List Nat → Env → Mem → Nat → Prop
  | [], _, _, _ => True
  | i :: l, E, M, nx => PendOp T E M nx all[i]? ∧ PendOK all l E M nx
def GUL (all : Array Oper) : TL → List It → GQ → Env → Mem → Nat → Prop
  | .done p, k, Q, E, M, nx => PendOK T all p E M nx ∧ GK P T N k Q .normal E M nx
  | .bad, _, _, _, _, _ => False
  | .nil, _, _, _, _, _ => True
  | .alt i p sub more, k, Q, E, M, nx => PendOK T all p E M nx ∧ (match all[i]? with | some o => GO P T N all [o] [] (TQX (GUL all sub k Q)) E M nx | none => False) ∧ GUL all more k Q E M nx
  | .take i sub, k, Q, E, M, nx => match all[i]? with | some o => GTkX N (gop T o.op E M nx) o.dst (GUL all sub k Q) E M nx | none => False
end
section
variable {P : Program} {T : Tab} {N : Cfg} {k : List It} {Q : GQ} {E : Env} {M : Mem} {nx : Nat} {all : Array Oper}

theorem PendOK.get : ∀ {p : List Nat}, PendOK T all p E M nx → ∀ i ∈ p, ∃ o ob s, all[i]? = some o ∧ gop T o.op E M nx = .pure ob s ∧ ob ∧ dEq E o.dst s
  | [], _, i, hi => by simp at hi
  | j :: l, h, i, hi => by
    rcases List.mem_cons.1 hi with rfl | hi
    · have h1 := h.1
      unfold PendOp at h1
      cases ho : all[i]? with
      | none => rw [ho] at h1; exact h1.elim
      | some o =>
        rw [ho] at h1
        simp only [] at h1
        unfold PendG at h1
        split at h1
        · rename_i ob s hg
          exact ⟨o, ob, s, rfl, hg, h1.1, h1.2⟩
        · exact h1.elim
    · exact PendOK.get h.2 i hi
theorem guL_alts {f : Nat → TL} {p : List Nat} : ∀ (l : List Nat), GUL P T N all (l.foldr (fun i t => .alt i p (f i) t) .nil) k Q E M nx →
    ∀ i ∈ l, PendOK T all p E M nx ∧ ∃ o, all[i]? = some o ∧ gops P T N all [o] E M nx (fun E M nx => GUL P T N all (f i) k Q E M nx)
  | [], _, i, hi => by simp at hi
  | j :: l, h, i, hi => by
    simp only [List.foldr_cons, GUL] at h
    rcases List.mem_cons.1 hi with rfl | hi
    · have h1 := h.2.1
      cases ho : all[i]? with
      | none => rw [ho] at h1; exact h1.elim
      | some o => rw [ho] at h1; exact ⟨h.1, o, rfl, h1⟩
    · exact guL_alts l h.2.2 i hi

/-- What may stand out, in the order in which it was taken (last first). -/
def POrd (all : Array Oper) (lr : Array Bool) : List Nat → Prop
  | [] => True
  | i :: l => (∃ o, all[i]? = some o ∧ ∀ e ∈ o.after, Region.binds .any e = true → lr.getD e.on false = true ∨ e.on ∈ l) ∧ POrd all lr l
theorem getD_ff {l : Array Bool} {i : Nat} (h : l.getD i false = true) : l.getD i true = true := by
  rcases Nat.lt_or_ge i l.size with h' | h'
  · simpa [h'] using h
  · simp [Array.getElem?_eq_none h'] at h
theorem getD_tf {l : Array Bool} {i : Nat} (hi : i < l.size) (h : l.getD i true = true) : l.getD i false = true := by
  simpa [hi] using h
theorem POrd.ready {lr : Array Bool} (hsz : lr.size = all.size) : ∀ {p : List Nat}, POrd all lr p → ∀ i ∈ p, lr.getD i true = false → ∃ q, q ∈ Region.ready .any all lr
  | [], _, i, hi, _ => by simp at hi
  | j :: l, h, i, hi, hf => by
    by_cases hl : ∃ q ∈ l, lr.getD q true = false
    · obtain ⟨q, h1, h2⟩ := hl
      exact POrd.ready hsz h.2 q h1 h2
    · have hall : ∀ q ∈ l, lr.getD q true = true := fun q hq => by
        cases hh : lr.getD q true with
        | true => rfl
        | false => exact absurd ⟨q, hq, hh⟩ hl
      rcases List.mem_cons.1 hi with rfl | hi
      · obtain ⟨o, ho, hall2⟩ := h.1
        refine ⟨i, mem_ready.2 ⟨hf, o, ho, fun e he hb => ?_⟩⟩
        rcases hall2 e he hb with h1 | h1
        · exact h1
        · have h2 := hall _ h1
          refine getD_tf ?_ h2
          rcases Nat.lt_or_ge e.on lr.size with h' | h'
          · exact h'
          · exfalso
            -- an edge out of bounds: e.on is in l, so it is an operation
            have : ∀ {p : List Nat}, POrd all lr p → ∀ q ∈ p, q < all.size := by
              intro p
              induction p with
              | nil => intro _ q hq; simp at hq
              | cons x xs ih =>
                intro hp q hq
                rcases List.mem_cons.1 hq with rfl | hq
                · obtain ⟨o', ho', _⟩ := hp.1
                  exact (Array.getElem?_eq_some_iff.1 ho').1
                · exact ih hp.2 q hq
            have := this h.2 _ h1
            omega
      · have := hall i hi
        rw [this] at hf; cases hf
theorem POrd.more {lr lr' : Array Bool} (h : ∀ i, lr.getD i false = true → lr'.getD i false = true) : ∀ {p : List Nat}, POrd all lr p → POrd all lr' p
  | [], _ => trivial
  | i :: l, hp => ⟨by
      obtain ⟨o, ho, h1⟩ := hp.1
      exact ⟨o, ho, fun e he hb => (h1 e he hb).imp (h _) id⟩, POrd.more h hp.2⟩
theorem POrd.filter {lr : Array Bool} {φ : Nat → Bool} : ∀ {p : List Nat}, (∀ i ∈ p, φ i = false → lr.getD i false = true) → POrd all lr p → POrd all lr (p.filter φ)
  | [], _, _ => trivial
  | i :: l, h, hp => by
    have ih := POrd.filter (φ := φ) (fun q hq => h q (List.mem_cons_of_mem _ hq)) hp.2
    rw [List.filter_cons]
    split
    · refine ⟨?_, ih⟩
      obtain ⟨o, ho, h1⟩ := hp.1
      refine ⟨o, ho, fun e he hb => ?_⟩
      rcases h1 e he hb with h2 | h2
      · exact .inl h2
      · cases hφ : φ e.on with
        | true => exact .inr (List.mem_filter.2 ⟨h2, hφ⟩)
        | false => exact .inl (h _ (List.mem_cons_of_mem _ h2) hφ)
    · exact ih

/-- What stands out: taken by the ghosts, not done yet. -/
def Out (all : Array Oper) (lr : Array Bool) (p : List Nat) (t : Nat) : Prop := ∃ i ∈ p, lr.getD i true = false ∧ ∃ o, all[i]? = some o ∧ o.dst = some t
def left (all : Array Oper) (lr : Array Bool) : Nat := ((List.range all.size).filter fun i => !lr.getD i true).length
structure Inv (all : Array Oper) (lr lg : Array Bool) (p : List Nat) : Prop where
  sr : lr.size = all.size
  sg : lg.size = all.size
  h1 : ∀ i, lg.getD i true = false → lr.getD i true = false
  h2 : ∀ i, lr.getD i true = false → lg.getD i true = false ∨ i ∈ p
  h3 : ∀ i ∈ p, okU all i = true ∧ lg.getD i true = true
  h4 : POrd all lr p
theorem okU_spec {i : Nat} (h : okU all i = true) : ∃ o, all[i]? = some o ∧ o.guard = none ∧ ∀ d, o.dst = some d → d ∉ o.looksAt all ∧ ∀ j oj, all[j]? = some oj → j ≠ i → oj.dst ≠ some d ∧ (d ∈ oj.looksAt all → ∃ e ∈ oj.after, Region.binds .any e = true ∧ e.on = i) := by
  unfold okU at h
  cases ho : all[i]? with
  | none => rw [ho] at h; cases h
  | some o =>
    rw [ho] at h
    simp only [Bool.and_eq_true] at h
    obtain ⟨ht, h⟩ := h
    refine ⟨o, rfl, ?_, fun d hd => ?_⟩
    · simp only [takesL, Bool.and_eq_true, Option.isNone_iff_eq_none] at ht
      exact ht.1
    rw [hd] at h
    simp only [List.all_eq_true, List.mem_range] at h
    refine ⟨?_, fun j oj hj hne => ?_⟩
    · have := h i (Array.getElem?_eq_some_iff.1 ho).1
      simp only [ho, beq_self_eq_true, if_true, Bool.not_eq_true', List.contains_eq_mem, decide_eq_false_iff_not] at this
      exact this
    · have := h j (Array.getElem?_eq_some_iff.1 hj).1
      simp only [hj, beq_iff_eq, hne, if_false, Bool.and_eq_true, bne_iff_ne, ne_eq, Bool.or_eq_true, Bool.not_eq_true', List.contains_eq_mem, decide_eq_false_iff_not] at this
      refine ⟨this.1, fun hm => ?_⟩
      rcases this.2 with h5 | h5
      · exact absurd hm h5
      · obtain ⟨e, he, hb⟩ := Array.any_eq_true'.1 h5
        simp only [Bool.and_eq_true, beq_iff_eq] at hb
        exact ⟨e, he, hb⟩
theorem Inv.looks {lr lg : Array Bool} {p : List Nat} (hI : Inv all lr lg p) {j : Nat} {oj : Oper} (hj : j ∈ Region.ready .any all lr) (hoj : all[j]? = some oj) : ∀ t ∈ oj.looksAt all, ¬ Out all lr p t := by
  rintro t ht ⟨i, hi, hf, o, ho, hd⟩
  obtain ⟨o', ho', _, hU⟩ := okU_spec (hI.h3 i hi).1
  rw [ho] at ho'; cases ho'
  obtain ⟨u1, u2⟩ := hU t hd
  by_cases hij : j = i
  · subst hij
    rw [ho] at hoj; cases hoj
    exact u1 ht
  · obtain ⟨e, he, hb, hon⟩ := (u2 j oj hoj hij).2 ht
    obtain ⟨_, oj', hoj', hall⟩ := mem_ready.1 hj
    rw [hoj] at hoj'; cases hoj'
    have := getD_ff (hall e he hb)
    rw [hon, hf] at this; cases this
theorem set_tt {l : Array Bool} {i j : Nat} : (l.setIfInBounds j true).getD i true = if i = j then true else l.getD i true := by
  by_cases h : i = j
  · subst h
    rw [if_pos rfl]
    rcases Nat.lt_or_ge i l.size with h' | h'
    · simp [h']
    · simp [Array.getElem?_eq_none h']
  · rw [if_neg h]
    exact getD_set_ne true fun e => h e.symm
theorem left_set {lr : Array Bool} {j : Nat} (hj : j ∈ Region.ready .any all lr) : left all (lr.setIfInBounds j true) < left all lr := by
  obtain ⟨hf, o, ho, _⟩ := mem_ready.1 hj
  have hlt := (Array.getElem?_eq_some_iff.1 ho).1
  have e : (List.range all.size).filter (fun i => !(lr.setIfInBounds j true).getD i true) = ((List.range all.size).filter fun i => !lr.getD i true).filter fun i => decide (i ≠ j) := by
    rw [List.filter_filter]
    congr 1
    funext i
    rw [set_tt]
    by_cases h : i = j <;> simp [h]
  unfold left
  rw [e]
  exact List.length_filter_lt_length_iff_exists.2 ⟨j, List.mem_filter.2 ⟨List.mem_range.2 hlt, by simpa using hf⟩, by simp⟩
theorem left_zero {lr : Array Bool} (h : left all lr = 0) : Region.ready .any all lr = [] := by
  cases hr : Region.ready .any all lr with
  | nil => rfl
  | cons j l =>
    have := left_set (all := all) (lr := lr) (j := j) (by rw [hr]; simp)
    omega

variable {B W : Nat → Prop} {w0 : W0} {R : Exit → Act → World → Prop}
theorem envPut_dEq {E : Env} {d : Option Tmp} {s : SV} (h : dEq E d s) : envPut E d s = E := by
  cases d with
  | none => rfl
  | some d =>
    funext t
    show upd E d s t = E t
    unfold upd
    split
    · rename_i e; rw [e]; exact h.symm
    · rfl
/-- What stands out is done now. -/
theorem pend_step (hT : TabOK P T) (hsel : Region.noSelect all = true) {fuel : Nat} {lr lg : Array Bool} {p : List Nat} {σ : Sig} {a b : Act} {w : World} (hI : Inv all lr lg p) (hab : Agree (Out all lr p) a b)
    (hs : St B W w0 N σ E M nx b w) (hp : PendOK T all p E M nx) {j : Nat} (hj : j ∈ Region.ready .any all lr) (hg : lg.getD j true = true)
    (hnext : ∀ lr' a' b', Inv all lr' lg p → Agree (Out all lr' p) a' b' → St B W w0 N σ E M nx b' w → left all lr' < left all lr → wpAnyIn Fence.wide 0 P .any all R fuel lr' a' w) :
    wpOpIn Fence.wide 0 P all R j (wpAnyIn Fence.wide 0 P .any all R fuel (lr.setIfInBounds j true)) a w := by
  obtain ⟨hf, oj, hoj, hall⟩ := mem_ready.1 hj
  have hjp : j ∈ p := (hI.h2 j hf).resolve_left (by rw [hg]; simp)
  obtain ⟨o, ob, s, ho, hgo, hob, hd⟩ := PendOK.get hp j hjp
  rw [hoj] at ho; cases ho
  obtain ⟨o', ho', hgd, hU⟩ := okU_spec (hI.h3 j hjp).1
  rw [hoj] at ho'; cases ho'
  have hlook := hI.looks hj hoj
  have hsn := snd_op hT hs.mem (nx := nx) (Nat.le_refl nx) hs.fr.size hs.env oj
  rw [hgo] at hsn
  obtain ⟨y, hy, hrel⟩ := hsn hob
  have hdk : dOK N.n oj.dst → True := fun _ => trivial
  have hfin : wpAnyIn Fence.wide 0 P .any all R fuel (lr.setIfInBounds j true) (a.put oj.dst y) w := by
    refine hnext _ _ (b.put oj.dst y) ⟨by simpa using hI.sr, hI.sg, fun i hi => ?_, fun i hi => ?_, hI.h3, hI.h4.more fun i hi => getD_set_true hi⟩ ?_ ?_ (left_set hj)
    · rw [set_tt]
      by_cases e : i = j
      · subst e; rw [hg] at hi; cases hi
      · rw [if_neg e]; exact hI.h1 i hi
    · rw [set_tt] at hi
      by_cases e : i = j
      · rw [if_pos e] at hi; cases hi
      · rw [if_neg e] at hi; exact hI.h2 i hi
    · cases hdst : oj.dst with
      | none =>
        refine ⟨hab.1, hab.2.1, fun t ht => hab.2.2 t fun ⟨i, hi, h1, o2, h2, h3⟩ => ht ⟨i, hi, ?_, o2, h2, h3⟩⟩
        rw [set_tt]
        by_cases e : i = j
        · subst e; rw [hoj] at h2; cases h2; rw [hdst] at h3; cases h3
        · rw [if_neg e]; exact h1
      | some d =>
        refine ⟨hab.1, by simpa [Act.put] using hab.2.1, fun t ht => ?_⟩
        simp only [Act.put, Array.getElem?_setIfInBounds, hab.2.1]
        by_cases e : d = t
        · simp [e]
        · simp only [e, if_false]
          refine hab.2.2 t fun ⟨i, hi, h1, o2, h2, h3⟩ => ht ⟨i, hi, ?_, o2, h2, h3⟩
          rw [set_tt]
          by_cases e2 : i = j
          · subst e2; rw [hoj] at h2; cases h2; rw [hdst] at h3; cases h3; exact absurd rfl e
          · rw [if_neg e2]; exact h1
    · have h1 := hs.env
      refine ⟨fun t => ?_, hs.mem, hs.fr, ?_, ?_, hs.low, hs.pin, hs.good⟩
      · cases hdst : oj.dst with
        | none => exact h1 t
        | some d =>
          rw [hdst] at hd
          simp only [Act.put, Array.getD_eq_getD_getElem?, Array.getElem?_setIfInBounds]
          by_cases e : d = t
          · subst e
            by_cases hlt : d < b.tmps.size
            · simp only [hlt, if_true]
              rw [show E d = s from hd]
              exact hrel
            · simp only [hlt, if_true, if_false]
              have := h1 d
              simpa [Array.getD_eq_getD_getElem?, Array.getElem?_eq_none (Nat.le_of_not_lt hlt)] using this
          · simp only [e, if_false]
            simpa [Array.getD_eq_getD_getElem?] using h1 t
      · cases oj.dst <;> exact hs.defers
      · cases oj.dst with
        | none => exact hs.size
        | some d => simpa [Act.put] using hs.size
  unfold wpOpIn
  simp only [hoj]
  rw [if_pos (by simp [Region.wanted, hgd])]
  refine wpIn_of_wp ?_
  unfold Oper.wp
  rw [hab.exec oj (Region.noSelect_spec hsel j oj · · hoj) hlook]
  rcases hy with hy | ⟨hy, rfl⟩
  · rw [hy]; exact hfin
  · rw [hy]; exact hfin
theorem ready_lg {lr lg : Array Bool} {p : List Nat} (hI : Inv all lr lg p) {j : Nat} (hj : j ∈ Region.ready .any all lr) (hg : lg.getD j true = false) : j ∈ Region.ready .any all lg := by
  obtain ⟨hf, o, ho, hall⟩ := mem_ready.1 hj
  refine mem_ready.2 ⟨hg, o, ho, fun e he hb => ?_⟩
  have h1 := hall e he hb
  have h2 : lg.getD e.on true = true := by
    cases hh : lg.getD e.on true with
    | true => rfl
    | false =>
      have := hI.h1 _ hh
      rw [getD_ff h1] at this; cases this
  refine getD_tf ?_ h2
  rcases Nat.lt_or_ge e.on lr.size with h' | h'
  · rw [hI.sg, ← hI.sr]; exact h'
  · simp [Array.getElem?_eq_none h'] at h1
/-- Nothing is ready: nothing stands out, and nothing is left. -/
theorem none_ready {lr lg : Array Bool} {p : List Nat} (hI : Inv all lr lg p) (h : Region.ready .any all lr = []) : (∀ i ∈ p, lr.getD i true = true) ∧ Region.ready .any all lg = [] := by
  have h1 : ∀ i ∈ p, lr.getD i true = true := fun i hi => by
    cases hh : lr.getD i true with
    | true => rfl
    | false =>
      obtain ⟨q, hq⟩ := hI.h4.ready hI.sr i hi hh
      rw [h] at hq; cases hq
  refine ⟨h1, ?_⟩
  cases hr : Region.ready .any all lg with
  | nil => rfl
  | cons j l =>
    have hj : j ∈ Region.ready .any all lg := by rw [hr]; simp
    obtain ⟨hf, o, ho, hall⟩ := mem_ready.1 hj
    have : j ∈ Region.ready .any all lr := by
      refine mem_ready.2 ⟨hI.h1 j hf, o, ho, fun e he hb => ?_⟩
      have h2 := hall e he hb
      have h3 : lr.getD e.on true = true := by
        cases hh : lr.getD e.on true with
        | true => rfl
        | false =>
          rcases hI.h2 _ hh with h4 | h4
          · rw [getD_ff h2] at h4; cases h4
          · rw [h1 _ h4] at hh; cases hh
      refine getD_tf ?_ h3
      rcases Nat.lt_or_ge e.on lg.size with h' | h'
      · rw [hI.sr, ← hI.sg]; exact h'
      · simp [Array.getElem?_eq_none h'] at h2
    rw [h] at this; cases this
theorem agree_none {lr : Array Bool} {p : List Nat} {a b : Act} (hab : Agree (Out all lr p) a b) (h : ∀ i ∈ p, lr.getD i true = true) : a = b := by
  have : ∀ t, a.tmps[t]? = b.tmps[t]? := fun t => hab.2.2 t fun ⟨i, hi, hf, _⟩ => by rw [h i hi] at hf; cases hf
  obtain ⟨at1, d1⟩ := a
  obtain ⟨at2, d2⟩ := b
  congr 1
  · exact Array.ext_getElem? this
  · exact hab.1
theorem guL_any (hT : TabOK P T) (hsel : Region.noSelect all = true)
    (hK : ∀ E M nx σ a w, GK P T N k Q .normal E M nx → St B W w0 N σ E M nx a w → R .normal a w) (hR : ∀ c a w, ¬ R (.panic c) a w) : ∀ (fuel n : Nat) (lr lg : Array Bool) (p : List Nat) (E : Env) (M : Mem) (nx : Nat) (σ : Sig) (a b : Act) (w : World),
    left all lr ≤ fuel → Inv all lr lg p → Agree (Out all lr p) a b → St B W w0 N σ E M nx b w → GUL P T N all (TL.make all n lg p) k Q E M nx → wpAnyIn Fence.wide 0 P .any all R fuel lr a w := by
  suffices H : ∀ (fuel : Nat), (∀ m, fuel = m + 1 → ∀ (n : Nat) (lr lg : Array Bool) (p : List Nat) (E : Env) (M : Mem) (nx : Nat) (σ : Sig) (a b : Act) (w : World),
      left all lr ≤ m → Inv all lr lg p → Agree (Out all lr p) a b → St B W w0 N σ E M nx b w → GUL P T N all (TL.make all n lg p) k Q E M nx → wpAnyIn Fence.wide 0 P .any all R m lr a w) →
      ∀ (n : Nat) (lr lg : Array Bool) (p : List Nat) (E : Env) (M : Mem) (nx : Nat) (σ : Sig) (a b : Act) (w : World),
      left all lr ≤ fuel → Inv all lr lg p → Agree (Out all lr p) a b → St B W w0 N σ E M nx b w → GUL P T N all (TL.make all n lg p) k Q E M nx → wpAnyIn Fence.wide 0 P .any all R fuel lr a w by
    intro fuel
    induction fuel with
    | zero => exact H 0 fun m hm => by cases hm
    | succ fuel ih => exact H (fuel + 1) fun m hm => by cases hm; exact ih
  intro fuel ihf n
  have hdone : ∀ (n : Nat) (lr lg : Array Bool) (p : List Nat) (E : Env) (M : Mem) (nx : Nat) (σ : Sig) (a b : Act) (w : World),
      left all lr ≤ fuel → Inv all lr lg p → Agree (Out all lr p) a b → St B W w0 N σ E M nx b w → Region.ready .any all lg = [] → PendOK T all p E M nx → GK P T N k Q .normal E M nx →
      GUL P T N all (TL.make all n lg p) k Q E M nx → wpAnyIn Fence.wide 0 P .any all R fuel lr a w := by
    intro n lr lg p E M nx σ a b w hle hI hab hs hr hp hk hg
    have fin : Region.ready .any all lr = [] → R .normal a w := fun h => by
      have := agree_none hab (none_ready hI h).1
      rw [this]
      exact hK _ _ _ _ _ _ hk hs
    cases fuel with
    | zero => exact ⟨left_zero (by omega), fin (left_zero (by omega))⟩
    | succ m =>
      refine ⟨fin, fun j hj => pend_step hT hsel hI hab hs hp hj ?_ fun lr' a' b' hI' hab' hs' hlt => ihf m rfl n lr' lg p E M nx σ a' b' w (by omega) hI' hab' hs' hg⟩
      cases hh : lg.getD j true with
      | true => rfl
      | false =>
        have := ready_lg hI hj hh
        rw [hr] at this; cases this
  induction n with
  | zero =>
    intro lr lg p E M nx σ a b w hle hI hab hs hg
    have hg0 := hg
    simp only [TL.make] at hg
    split at hg
    · rename_i hr
      exact hdone 0 lr lg p E M nx σ a b w hle hI hab hs (List.isEmpty_iff.1 hr) hg.1 hg.2 hg0
    · exact hg.elim
  | succ n ihn =>
    intro lr lg p E M nx σ a b w hle hI hab hs hg
    have hg0 := hg
    simp only [TL.make] at hg
    split at hg
    · rename_i hr
      exact hdone (n + 1) lr lg p E M nx σ a b w hle hI hab hs (List.isEmpty_iff.1 hr) hg.1 hg.2 hg0
    rename_i hr
    have hne : Region.ready .any all lg ≠ [] := fun h => hr (List.isEmpty_iff.2 h)
    split at hg
    · rename_i i hi
      have hok := List.find?_some hi
      have hmem := List.mem_of_find?_eq_some hi
      obtain ⟨hf, o, ho, hall⟩ := mem_ready.1 hmem
      obtain ⟨o', ho', hgd, hU⟩ := okU_spec hok
      rw [ho] at ho'; cases ho'
      simp only [GUL, ho] at hg
      unfold GTkX at hg
      split at hg
      · rename_i ob s hgo
        obtain ⟨hob, hd, hg⟩ := hg
        have hsn := snd_op hT hs.mem (nx := nx) (Nat.le_refl nx) hs.fr.size hs.env o
        rw [hgo] at hsn
        obtain ⟨y, hy, hrel⟩ := hsn hob
        have hlrf := hI.h1 i hf
        refine ihn lr (lg.setIfInBounds i true) (i :: p) _ _ _ _ a (b.put o.dst y) w hle ⟨hI.sr, by simpa using hI.sg, fun q hq => ?_, fun q hq => ?_, fun q hq => ?_, ⟨o, ho, fun e he hb => ?_⟩, hI.h4⟩ ?_ (hs.put hd hrel) hg
        · rw [set_tt] at hq
          by_cases e : q = i
          · rw [if_pos e] at hq; cases hq
          · rw [if_neg e] at hq; exact hI.h1 q hq
        · by_cases e : q = i
          · exact .inr (by rw [e]; simp)
          · rw [set_tt, if_neg e]
            exact (hI.h2 q hq).imp id (List.mem_cons_of_mem _)
        · rw [set_tt]
          rcases List.mem_cons.1 hq with rfl | hq
          · exact ⟨hok, by rw [if_pos rfl]⟩
          · refine ⟨(hI.h3 q hq).1, ?_⟩
            split
            · rfl
            · exact (hI.h3 q hq).2
        · have h1 := hall e he hb
          cases hh : lr.getD e.on true with
          | true =>
            refine .inl (getD_tf ?_ hh)
            rcases Nat.lt_or_ge e.on lg.size with h' | h'
            · rw [hI.sr, ← hI.sg]; exact h'
            · simp [Array.getElem?_eq_none h'] at h1
          | false =>
            rcases hI.h2 _ hh with h4 | h4
            · rw [getD_ff h1] at h4; cases h4
            · exact .inr h4
        · refine ⟨?_, ?_, fun t ht => ?_⟩
          · cases o.dst <;> exact hab.1
          · cases o.dst with
            | none => exact hab.2.1
            | some d => simpa [Act.put] using hab.2.1
          · have h5 : ¬ Out all lr p t := fun ⟨q, hq, h1, o2, h2, h3⟩ => ht ⟨q, List.mem_cons_of_mem _ hq, h1, o2, h2, h3⟩
            rw [hab.2.2 t h5]
            cases hdst : o.dst with
            | none => rfl
            | some d =>
              have hne2 : d ≠ t := fun e => ht ⟨i, by simp, hlrf, o, ho, by rw [hdst, e]⟩
              simp [Act.put, Array.getElem?_setIfInBounds_ne hne2]
      · exact hg.elim
    · rename_i hfind
      have hp0 : PendOK T all p E M nx := by
        cases hr2 : Region.ready .any all lg with
        | nil => exact absurd hr2 hne
        | cons j l => exact (guL_alts (f := fun i => TL.make all n (lg.setIfInBounds i true) (p.filter fun q => !edge all i q)) _ hg j (by rw [hr2]; simp)).1
      have hno : Region.ready .any all lr ≠ [] := fun h => hne (none_ready hI h).2
      cases fuel with
      | zero => exact absurd (left_zero (by omega)) hno
      | succ m =>
        refine ⟨fun h => absurd h hno, fun j hj => ?_⟩
        cases hgj : lg.getD j true with
        | true => exact pend_step hT hsel hI hab hs hp0 hj hgj fun lr' a' b' hI' hab' hs' hlt => ihf m rfl (n + 1) lr' lg p E M nx σ a' b' w (by omega) hI' hab' hs' hg0
        | false =>
          obtain ⟨_, o, ho, hgo⟩ := guL_alts (f := fun i => TL.make all n (lg.setIfInBounds i true) (p.filter fun q => !edge all i q)) _ hg j (ready_lg hI hj hgj)
          obtain ⟨hf, o', ho', hall⟩ := mem_ready.1 hj
          rw [ho] at ho'; cases ho'
          have hjs : j < all.size := (Array.getElem?_eq_some_iff.1 ho).1
          have hedge : ∀ q ∈ p, edge all j q = true → lr.getD q false = true := fun q hq he => by
            unfold edge at he
            rw [ho] at he
            obtain ⟨e, he1, he2⟩ := Array.any_eq_true'.1 he
            simp only [Bool.and_eq_true, beq_iff_eq] at he2
            rw [← he2.2]
            exact hall e he1 he2.1
          have hs2 := gops_step (Q := R) (next := fun b' w' => ∃ E' M' nx' σ', GUL P T N all (TL.make all n (lg.setIfInBounds j true) (p.filter fun q => !edge all j q)) k Q E' M' nx' ∧ St B W w0 N σ' E' M' nx' b' w') hT hs hgo (fun E' M' nx' σ' a' w' hk hst => ⟨E', M', nx', σ', hk, hst⟩)
          have hb : wpOpIn Fence.wide 0 P all R j (fun b' w' => ∃ E' M' nx' σ', GUL P T N all (TL.make all n (lg.setIfInBounds j true) (p.filter fun q => !edge all j q)) k Q E' M' nx' ∧ St B W w0 N σ' E' M' nx' b' w') b w := by
            unfold wpOpIn; rw [ho]; simp only []
            split
            · rename_i hw; rw [if_pos hw] at hs2; exact hs2
            · rename_i hw; rw [if_neg hw] at hs2; exact ⟨fun _ _ => trivial, hs2⟩
          refine wpOp_agree ho (Region.noSelect_spec hsel j o · · ho) (hI.looks hj ho) hab hR ?_ hb
          rintro a' b' w' hab' ⟨E', M', nx', σ', hg', hs'⟩
          have hlt := left_set (all := all) hj
          refine ihf m rfl n (lr.setIfInBounds j true) (lg.setIfInBounds j true) _ E' M' nx' σ' a' b' w' (by omega) ⟨by simpa using hI.sr, by simpa using hI.sg, fun q hq => ?_, fun q hq => ?_, fun q hq => ?_, (POrd.filter (fun q hq he => hedge q hq (by simpa using he)) hI.h4).more fun q hq => getD_set_true hq⟩ ?_ hs' hg'
          · rw [set_tt] at hq ⊢
            by_cases e : q = j
            · rw [if_pos e] at hq; cases hq
            · rw [if_neg e] at hq ⊢; exact hI.h1 q hq
          · rw [set_tt] at hq ⊢
            by_cases e : q = j
            · rw [if_pos e] at hq; cases hq
            · rw [if_neg e] at hq ⊢
              refine (hI.h2 q hq).imp id fun h5 => List.mem_filter.2 ⟨h5, ?_⟩
              cases he : edge all j q with
              | false => rfl
              | true =>
                have := getD_ff (hedge q h5 he)
                rw [hq] at this; cases this
          · have h5 := List.mem_filter.1 hq
            refine ⟨(hI.h3 q h5.1).1, ?_⟩
            rw [set_tt]
            split
            · rfl
            · exact (hI.h3 q h5.1).2
          · refine ⟨hab'.1, hab'.2.1, fun t ht => hab'.2.2 t fun ⟨q, hq, h1, o2, h2, h3⟩ => ht ⟨q, List.mem_filter.2 ⟨hq, ?_⟩, ?_, o2, h2, h3⟩⟩
            · cases he : edge all j q with
              | false => rfl
              | true =>
                have := getD_ff (hedge q hq he)
                rw [h1] at this; cases this
            · rw [set_tt]
              by_cases e : q = j
              · subst e
                rw [(hI.h3 q hq).2] at hgj; cases hgj
              · rw [if_neg e]; exact h1

end
section
variable {P : Program} {T : Tab} {N : Cfg} {k : List It} {Q : GQ} {E : Env} {M : Mem} {nx : Nat} {all : Array Oper}
def GULo (P : Program) (T : Tab) (N : Cfg) (o : Option Oper) (all : Array Oper) (sub : TL) (k : List It) (Q : GQ) (E : Env) (M : Mem) (nx : Nat) : Prop :=
  match o with | some o => GO P T N all [o] [] (TQX (GUL P T N all sub k Q)) E M nx | none => False
def GULt (P : Program) (T : Tab) (N : Cfg) (o : Option Oper) (all : Array Oper) (sub : TL) (k : List It) (Q : GQ) (E : Env) (M : Mem) (nx : Nat) : Prop :=
  match o with | some o => GTkX N (gop T o.op E M nx) o.dst (GUL P T N all sub k Q) E M nx | none => False
@[go_sem] theorem GUL_done (p : List Nat) : GUL P T N all (.done p) k Q E M nx = (PendOK T all p E M nx ∧ GK P T N k Q .normal E M nx) := (rfl)
@[go_sem] theorem GUL_nil : GUL P T N all .nil k Q E M nx = True := (rfl)
@[go_sem] theorem GUL_alt (i : Nat) (p : List Nat) (s m : TL) : GUL P T N all (.alt i p s m) k Q E M nx = (PendOK T all p E M nx ∧ GULo P T N all[i]? all s k Q E M nx ∧ GUL P T N all m k Q E M nx) := (rfl)
@[go_sem] theorem GUL_take (i : Nat) (s : TL) : GUL P T N all (.take i s) k Q E M nx = GULt P T N all[i]? all s k Q E M nx := (rfl)
@[go_sem] theorem GULo_some (o : Oper) (s : TL) : GULo P T N (some o) all s k Q E M nx = GO P T N all [o] [] (TQX (GUL P T N all s k Q)) E M nx := (rfl)
@[go_sem] theorem GULt_some (d : Option Tmp) (op : Op) (ty : TypeId) (pos : String) (af : Array Edge) (g : Option (Nat × Bool)) (s : TL) :
    GULt P T N (some ⟨d, op, ty, pos, af, g⟩) all s k Q E M nx = GTkX N (gop T op E M nx) d (GUL P T N all s k Q) E M nx := (rfl)
@[go_sem] theorem PendOK_nil : PendOK T all [] E M nx = True := (rfl)
@[go_sem] theorem PendOK_cons (i : Nat) (l : List Nat) : PendOK T all (i :: l) E M nx = (PendOp T E M nx all[i]? ∧ PendOK T all l E M nx) := (rfl)
@[go_sem] theorem PendOp_some (d : Option Tmp) (op : Op) (ty : TypeId) (pos : String) (af : Array Edge) (g : Option (Nat × Bool)) : PendOp T E M nx (some ⟨d, op, ty, pos, af, g⟩) = PendG E d (gop T op E M nx) := (rfl)
@[go_sem] theorem PendG_pure (d : Option Tmp) (ob : Prop) (s : SV) : PendG E d (.pure ob s) = (ob ∧ dEq E d s) := (rfl)
@[go_sem] theorem dEq_some (d : Nat) (s : SV) : dEq E (some d) s = (E d = s) := (rfl)
@[go_sem] theorem dEq_none (s : SV) : dEq E none s = True := (rfl)
@[go_sem] theorem gop_move (x : Operand) : gop T (.move x) E M nx = .pure True (ev E x) := (rfl)
@[go_sem] theorem gop_assign (x : Operand) : gop T (.assign x) E M nx = .pure True (ev E x) := (rfl)
@[go_sem] theorem gop_load (t : TypeId) (x : Operand) : gop T (.load t x) E M nx = gload T t M (ev E x) := (rfl)
@[go_sem] theorem gop_slice (t : TypeId) (x : Operand) (lo hi mx : Option Operand) : gop T (.slice t x lo hi mx) E M nx = gslice T M t (ev E x) (lo.map (ev E)) (hi.map (ev E)) (mx.map (ev E)) := (rfl)
@[go_sem] theorem gop_fieldAddr (t : TypeId) (x : Operand) (f : Nat) : gop T (.fieldAddr t x f) E M nx = gfield T t (ev E x) f := (rfl)
@[go_sem] theorem gop_indexAddr (t : TypeId) (x i : Operand) : gop T (.indexAddr t x i) E M nx = gindex T t (ev E x) (ev E i) := (rfl)
@[go_sem] theorem gop_nilCheck (x : Operand) : gop T (.nilCheck x) E M nx = gnilop (ev E x) := (rfl)
@[go_sem] theorem gop_binOp (op : BinOp) (t : TypeId) (x y : Operand) (t2 : TypeId) : gop T (.binOp op t x y t2) E M nx = gbinop T op t (ev E x) (ev E y) := (rfl)
@[go_sem] theorem gop_unOp (op : UnOp) (t : TypeId) (x : Operand) : gop T (.unOp op t x) E M nx = gunop op (ev E x) := (rfl)
@[go_sem] theorem gop_convert (t t2 : TypeId) (x : Operand) : gop T (.convert t t2 x) E M nx = gconvop T t t2 (ev E x) := (rfl)
@[go_sem] theorem gop_extract (x : Operand) (i : Nat) : gop T (.extract x i) E M nx = gextop (ev E x) i := (rfl)
@[go_sem] theorem gop_field (t : TypeId) (x : Operand) (f : Nat) : gop T (.field t x f) E M nx = gfieldV T t (ev E x) f := (rfl)
@[go_sem] theorem gop_index (t : TypeId) (x i : Operand) : gop T (.index t x i) E M nx = gindexV T t (ev E x) (ev E i) := (rfl)
@[go_sem] theorem gop_lookup (t : TypeId) (m x : Operand) (ok : Bool) : gop T (.lookup t m x ok) E M nx = glookup T M t (ev E m) (ev E x) ok := (rfl)
@[go_sem] theorem gop_build (t : TypeId) (ps : List (Nat × Operand)) : gop T (.build t ps.toArray) E M nx = gbuild T t (ps.map fun p => (p.1, ev E p.2)) := (rfl)

theorem inv0 : Inv all (Array.replicate all.size false) (Array.replicate all.size false) [] := by
  refine ⟨by simp, by simp, fun i h => h, fun i h => .inl h, fun i hi => by simp at hi, trivial⟩
theorem left0 : left all (Array.replicate all.size false) ≤ all.size := by
  unfold left
  exact Nat.le_trans (List.length_filter_le _ _) (by simp)
theorem gdraw_l (hT : TabOK P T) (hm : P.follows .mixedOrders = true) {id : Nat} {all : Array Oper} {t : TL} (hsel : Region.noSelect all = true) (ht : TL.make all all.size (Array.replicate all.size false) [] = t)
    {k0 : List It} {Q0 : GQ} {φ : Env → Mem → Nat → Prop} {E' : Env} (h0 : ∀ c E M nx, GK P T N k Q (.panic c) E M nx → False)
    (hK : ∀ (B W : Nat → Prop) (w0 : W0) E M nx σ a w, GK P T N k0 Q0 .normal E M nx → St B W w0 N σ E M nx a w → ∃ E' M' nx' σ', GK P T N k Q .normal E' M' nx' ∧ St B W w0 N σ' E' M' nx' a w)
    (h : GUL P T N all t k0 Q0 E M nx) : GDraw P T N id all k Q E M nx := by
  subst ht
  intro r hr B W w0 σ a w hs
  have hs' := hs.drawn
  refine wpIn_region_fw (hr.imp (fun h => h) fun h => h) hm (guL_any hT hsel (k := k0) (Q := Q0) (B := B) (W := W) (w0 := w0) (R := fun e a' w' => ∃ E' M' nx' σ', GK P T N k Q e E' M' nx' ∧ St B W w0 N σ' E' M' nx' a' w') (fun E M nx σ a w hk hst => hK _ _ _ _ _ _ _ _ _ hk hst)
    (fun c a w ⟨E, M, nx, σ, hk, _⟩ => h0 _ _ _ _ hk) _ _ _ _ [] E M nx σ a a _ left0 inv0 ⟨rfl, rfl, fun _ _ => rfl⟩ hs' h)
/-- A region of open order: what is read and reckoned first, the rest by all its orders. -/
theorem GDraw_l (hT : TabOK P T) (hm : P.follows .mixedOrders = true) {id : Nat} {all : Array Oper} {t : TL} (hsel : Region.noSelect all = true) (ht : TL.make all all.size (Array.replicate all.size false) [] = t)
    (hp : ∀ c E M nx, GK P T N k Q (.panic c) E M nx → False) (h : GUL P T N all t k Q E M nx) : GDraw P T N id all k Q E M nx :=
  gdraw_l hT hm hsel ht (φ := fun _ _ _ => True) (E' := E) hp (fun B W w0 E M nx σ a w hk hst => ⟨E, M, nx, σ, hk, hst⟩) h
/-- The same, told behind the region by slots and regions alone. -/
theorem GDraw_ls (S : List (Nat × SV)) (l : List (Option Reg)) (n : Nat) (hT : TabOK P T) (hm : P.follows .mixedOrders = true) {id : Nat} {all : Array Oper} {t : TL} (hsel : Region.noSelect all = true)
    (ht : TL.make all all.size (Array.replicate all.size false) [] = t) (hp : ∀ c E M nx, GK P T N k Q (.panic c) E M nx → False) (hl : l.length = n)
    (h : GUL P T N all t [] (JQ S n fun M => regsS 0 M l) E M nx) (hk : ∀ J, GK P T N k Q .normal (updL J S) (memL l) n) (hnp : N.np ≤ n := by first | exact Nat.zero_le _ | decide) : GDraw P T N id all k Q E M nx :=
  gdraw_l hT hm hsel ht (φ := fun _ _ _ => True) (E' := E) hp (fun B W w0 E M nx σ a w hk0 hst => by
    have hk1 : slotsS n E S ∧ regsS 0 (trimM n M) l := hk0
    obtain ⟨J, hv⟩ := Fit.of_slotsS (nx := nx) hnp hk1.1 (regsS_memL hl hk1.2)
    obtain ⟨σ1, h1⟩ := hv _ _ _ _ _ _ hst
    exact ⟨_, _, _, σ1, hk J, h1⟩) h
/-- The same, with a family of regions. -/
theorem GDraw_lf (S : List (Nat × SV)) (l : List (Option Reg)) (b cnt : Nat) (R : Nat → Option Reg) (n : Nat) (hT : TabOK P T) (hm : P.follows .mixedOrders = true) {id : Nat} {all : Array Oper} {t : TL} (hsel : Region.noSelect all = true)
    (ht : TL.make all all.size (Array.replicate all.size false) [] = t) (hp : ∀ c E M nx, GK P T N k Q (.panic c) E M nx → False) (hl : l.length = b)
    (h : GUL P T N all t [] (JQ S n fun M => regsS 0 M l ∧ ∀ i, i < cnt → Reg.sub (M (i + b)) (R i)) E M nx) (hk : ∀ J, GK P T N k Q .normal (updL J S) (famN (memL l) b cnt R) n) (hnp : N.np ≤ n := by first | exact Nat.zero_le _ | decide) : GDraw P T N id all k Q E M nx :=
  gdraw_l hT hm hsel ht (φ := fun _ _ _ => True) (E' := E) hp (fun B W w0 E M nx σ a w hk0 hst => by
    have hk1 : slotsS n E S ∧ (regsS 0 (trimM n M) l ∧ ∀ i, i < cnt → Reg.sub (trimM n M (i + b)) (R i)) := hk0
    obtain ⟨J, hv⟩ := Fit.of_famN (nx := nx) hnp hk1.1 hl hk1.2.1 hk1.2.2
    obtain ⟨σ1, h1⟩ := hv _ _ _ _ _ _ hst
    exact ⟨_, _, _, σ1, hk J, h1⟩) h
end
end Go.Gx
/-
  Two operations on maps: mapEntry (an entry is made or found, its stamp told), entryStore (an entry of that stamp is written to).
-/
set_option linter.unusedVariables false
set_option linter.unusedSimpArgs false
namespace Go.Gx
open Go.RowKit Go.ChangeMaps

section
variable {P : Program} {T : Tab} {N : Cfg} {k : List It} {Q : GQ} {E : Env} {M : Mem} {nx : Nat} {all : Array Oper} {rest : List Oper} {d : Option Tmp} {ty : TypeId} {pos : String} {af : Array Edge}
@[go_sem] theorem GO_mapEntry (t : TypeId) (m x : Operand) : GO P T N all (⟨d, .mapEntry t m x, ty, pos, af, none⟩ :: rest) k Q E M nx = (dOK N.n d ∧ GStep P T N ⟨d, .mapEntry t m x, ty, pos, af, none⟩ .bad d all rest k Q E M nx) := (rfl)
@[go_sem] theorem GO_entryStore (t : TypeId) (m x y : Operand) : GO P T N all (⟨d, .entryStore t m x y, ty, pos, af, none⟩ :: rest) k Q E M nx = (dOK N.n d ∧ GStep P T N ⟨d, .entryStore t m x y, ty, pos, af, none⟩ .bad d all rest k Q E M nx) := (rfl)
end

theorem MapOf.stamps {kd : KK} {has : Int → Bool} {R : Int → Value → Prop} {es : List MapEntry} {ck : Nat} (h : MapOf kd has R es ck) : ∃ f : Int → Nat, ∀ e ∈ es, ∀ a, e.key = kd.val a → e.born = f a := by
  refine ⟨fun a => ((es.find? fun e => decide (kd.dec e.key = a)).map (·.born)).getD 0, ?_⟩
  intro e he a hka
  show e.born = _
  cases hq : es.find? (fun e => decide (kd.dec e.key = a)) with
  | none =>
    have := List.find?_eq_none.1 hq e he
    rw [hka] at this; simp [KK.dec_val] at this
  | some e' =>
    have h4 := List.find?_some hq
    have h5 := List.mem_of_find?_eq_some hq
    have h6 : e'.key = kd.val a := by
      obtain ⟨a', k1, _⟩ := h.1 e' h5
      rw [k1, KK.dec_val] at h4
      rw [k1, of_decide_eq_true h4]
    rw [h.key_inj he h5 (by rw [hka, h6])]
    simp only [hq]
    rfl
section
variable {P : Program} {T : Tab} {N : Cfg} {E : Env} {M : Mem} {nx : Nat}
theorem GOp_kmapEntry (hT : TabOK P T) {K : Env → Mem → Nat → Prop} {d : Option Tmp} {t ty : TypeId} {pos : String} {af : Array Edge} {m x : Operand} {q : Nat} {kd : KK} {has : Int → Bool} {val : Int → SV} {st : Option ((Int → Nat) × Nat)} {a : Int} {g : Prop} {e : TypeId} {ei : TI}
    (hx : ev E m = .mp q) (hy : kd.code (ev E x) = some (g, a)) (hg : g) (hQ : M q = some (.kmap kd has val st)) (ht : mapK T t = some (kd, e)) (hei : T.ti e = some ei) (hz1 : ei.zeroV.oneCell' = true) (hd : dOK N.n d)
    (h : ∀ (f : Int → Nat) (c : Nat), K (envPut E d (.tup [if has a = true then val a else .r (.v ei.zeroV), .r (.v (.int .i64 (f a)))])) (upd M q (some (.kmap kd (fun k => if k = a then true else has k) (fun k => if k = a then (if has a = true then val a else .r (.v ei.zeroV)) else val k) (some (f, c))))) nx) :
    GOpW P N ⟨d, .mapEntry t m x, ty, pos, af, none⟩ E M nx K := by
  intro B W w0 σ ac w hs next Q' hK
  obtain ⟨k, hu, hk⟩ := mapK_spec hT ht
  have hz := run_zero (hT.ti e ei hei) w
  have hr := ev_rel hs.env m
  rw [hx] at hr
  obtain ⟨L, b, h1, h2, h3⟩ := hr
  have hr2 := ev_rel hs.env x
  have hr2' : ac.eval x = kd.val a := KK.code_rel hy hg hr2
  obtain ⟨es, ck, g1, g2, g3⟩ := reg_map hs.mem hQ h1 h2
  obtain ⟨f, hf⟩ := g2.stamps
  rcases g2.find (P := P) (w := w) hk a with ⟨e1, e2, e3⟩ | ⟨e1, j, en, e2, e3, e4, e5, e6⟩
  · let o' : Obj := .map (es.push { key := kd.val a, val := ei.zeroV, born := ck }) (ck + 1)
    have hrun : (execOp ac.eval ⟨d, .mapEntry t m x, ty, pos, af, none⟩).run P w = .ok (.value (.tuple #[ei.zeroV, goInt ck])) (setBlock w b o') := by
      simp [execOp, h3, hr2', Instr.mapEntry, run_underlying hu, MapKept.run_getObj_map g1, hk.check, e2, hz, MapKept.run_setObj_map _ g1, Result.andThen, setBlock, o']
    obtain ⟨k1, k2, k3⟩ := heap_setB (o' := o') g1
    obtain ⟨m1, m2⟩ := mem_set (w' := setBlock w b o') (R := .kmap kd (fun k => if k = a then true else has k) (fun k => if k = a then .r (.v ei.zeroV) else val k) (some ((fun k => if k = a then ck else f k), ck + 1))) hs.mem hQ h1 h2 k3 k2
      (fun Z' hkp => ⟨b, _, _, h2, k1, by
        rw [Array.toList_push]
        refine g2.add e3 hz1 (by simp [SV.rel, RV.rel]) fun b v hb hv => ?_
        simp only [if_neg hb]
        exact SV.rel_mono (fun _ _ h => h) hkp _ _ hv, fun f' c' hc => by
        cases hc
        refine ⟨rfl, fun e' he' b' hb' => ?_⟩
        rw [Array.toList_push] at he'
        rcases List.mem_append.1 he' with hm | hm
        · have hne : b' ≠ a := by rintro rfl; exact e3 e' hm hb'
          simp only [if_neg hne]
          exact hf e' hm b' hb'
        · rw [List.mem_singleton.1 hm] at hb' ⊢
          have := KK.val_inj hb'
          subst this
          simp⟩)
    refine wpIn_of_wp ?_
    unfold Oper.wp
    rw [hrun]
    have hh := h (fun k => if k = a then ck else f k) (ck + 1)
    simp only [e1, Bool.false_eq_true, if_false, if_true] at hh
    refine hK _ _ _ _ _ _ hh (St.put (hs.go m1 (FrS.setB hs.mem hQ h1 h2 g1 _) m2 (fun t z hz => SV.rel_mono (fun _ _ h => h) m2 _ _ hz) hs.low fun _ _ => rfl) hd ?_)
    exact ⟨[ei.zeroV, .int .i64 ck], rfl, _, _, rfl, rfl, _, _, rfl, rfl, rfl⟩
  · have hstay := hk.stays w a
    have e3' : es[j]? = some en := by simpa using e3
    have hmod : (es.modify j fun e => { e with key := kd.val a }).toList = es.toList.set j { en with key := kd.val a, val := en.val } := by
      rw [Array.toList_modify, modify_eq_set _ _ _ _ e3]
    let o' : Obj := .map (es.modify j fun e => { e with key := kd.val a }) ck
    have hrun : (execOp ac.eval ⟨d, .mapEntry t m x, ty, pos, af, none⟩).run P w = .ok (.value (.tuple #[en.val, goInt en.born])) (setBlock w b o') := by
      simp [execOp, h3, hr2', Instr.mapEntry, run_underlying hu, MapKept.run_getObj_map g1, hk.check, e2, e3', e4, hstay, MapKept.run_setObj_map _ g1, Result.andThen, setBlock, o']
    obtain ⟨k1, k2, k3⟩ := heap_setB (o' := o') g1
    have hborn := hf en (List.mem_of_getElem? e3) a e4
    obtain ⟨m1, m2⟩ := mem_set (w' := setBlock w b o') (R := .kmap kd (fun k => if k = a then true else has k) (fun k => if k = a then val a else val k) (some (f, ck))) hs.mem hQ h1 h2 k3 k2
      (fun Z' hkp => ⟨b, _, _, h2, k1, by
        rw [hmod]
        refine g2.put e3 e4 e5 (by simpa using SV.rel_mono (fun _ _ h => h) hkp _ _ e6) fun b v hb hv => ?_
        simp only [if_neg hb]
        exact SV.rel_mono (fun _ _ h => h) hkp _ _ hv, fun f' c' hc => by
        cases hc
        refine ⟨rfl, fun e' he' b' hb' => ?_⟩
        rw [hmod] at he'
        rcases List.mem_or_eq_of_mem_set he' with hmem | rfl
        · exact hf e' hmem b' hb'
        · have := KK.val_inj hb'
          subst this
          exact hborn⟩)
    refine wpIn_of_wp ?_
    unfold Oper.wp
    rw [hrun]
    have hh := h f ck
    simp only [e1, if_true] at hh
    refine hK _ _ _ _ _ _ hh (St.put (hs.go m1 (FrS.setB hs.mem hQ h1 h2 g1 _) m2 (fun t z hz => SV.rel_mono (fun _ _ h => h) m2 _ _ hz) hs.low fun _ _ => rfl) hd ?_)
    exact ⟨[en.val, .int .i64 en.born], rfl, _, _, rfl, SV.rel_mono (fun _ _ h => h) m2 _ _ e6, _, _, rfl, by rw [hborn]; rfl, rfl⟩
theorem GOp_mapEntry (hT : TabOK P T) {K : Env → Mem → Nat → Prop} {d : Option Tmp} {t ty : TypeId} {pos : String} {af : Array Edge} {m x : Operand} {q : Nat} {has : Int → Bool} {val : Int → SV} {st : Option ((Int → Nat) × Nat)} {a : Int} {e : TypeId} {ei : TI}
    (hx : ev E m = .mp q) (hy : ev E x = .r (.v (.int .i64 a))) (hQ : M q = some (.map has val st)) (ht : mapE T t = some e) (hei : T.ti e = some ei) (hz1 : ei.zeroV.oneCell' = true) (hd : dOK N.n d)
    (h : ∀ (f : Int → Nat) (c : Nat), K (envPut E d (.tup [if has a = true then val a else .r (.v ei.zeroV), .r (.v (.int .i64 (f a)))])) (upd M q (some (.map (fun k => if k = a then true else has k) (fun k => if k = a then (if has a = true then val a else .r (.v ei.zeroV)) else val k) (some (f, c))))) nx) :
    GOpW P N ⟨d, .mapEntry t m x, ty, pos, af, none⟩ E M nx K :=
  GOp_kmapEntry hT (kd := .i) (g := True) hx (by rw [hy]; rfl) trivial hQ (by unfold mapK; rw [ht]) hei hz1 hd h
theorem GOp_kentryStore {K : Env → Mem → Nat → Prop} {d : Option Tmp} {t ty : TypeId} {pos : String} {af : Array Edge} {m x y : Operand} {q : Nat} {kd : KK} {has : Int → Bool} {val : Int → SV} {f : Int → Nat} {c : Nat} (a : Int)
    (hx : ev E m = .mp q) (hy : ev E x = .r (.v (.int .i64 (f a)))) (hQ : M q = some (.kmap kd has val (some (f, c)))) (ha : has a = true) (hone : (ev E y).one = true) (hd : dOK N.n d)
    (h : K (envPut E d (.r .any)) (upd M q (some (.kmap kd (fun k => if k = a then true else has k) (fun k => if k = a then ev E y else val k) (some (f, c))))) nx) :
    GOpW P N ⟨d, .entryStore t m x y, ty, pos, af, none⟩ E M nx K := by
  intro B W w0 σ ac w hs next Q' hK
  have hr := ev_rel hs.env m
  rw [hx] at hr
  obtain ⟨L, b, h1, h2, h3⟩ := hr
  have hr2 := ev_rel hs.env x
  rw [hy] at hr2
  have hr2' : ac.eval x = .int .i64 (f a) := hr2
  have hr3 := ev_rel hs.env y
  have hz1 := SV.one_rel hone hr3
  obtain ⟨es, ck, g1, g2, g3⟩ := reg_map hs.mem hQ h1 h2
  obtain ⟨rfl, hf⟩ := g3 f c rfl
  obtain ⟨en, hen, hek⟩ := g2.2.1 a ha
  obtain ⟨j, hj, hje⟩ := List.getElem_of_mem hen
  have hborn := hf en hen a hek
  have e3 : es.toList[j]? = some en := by rw [List.getElem?_eq_getElem hj, hje]
  have hfind : es.findIdx? (fun e => (e.born : Int) == ((f a : Nat) : Int)) = some j := by
    rw [Array.findIdx?_eq_some_iff_getElem]
    refine ⟨by simpa using hj, by
      have : es[j]'(by simpa using hj) = en := by simpa using hje
      rw [this, hborn]; simp, fun i hij => ?_⟩
    have hi : i < es.toList.length := by omega
    have hp := (List.pairwise_iff_getElem.1 g2.2.2.1 i j hi hj hij).2
    rw [hje, hborn] at hp
    have hp' : ¬ (es[i]'(by simpa using hi)).born = f a := by simpa using hp
    simp only [beq_iff_eq]
    intro hh
    exact hp' (by exact_mod_cast hh)
  have hmod : (es.modify j fun e => { e with val := ac.eval y }).toList = es.toList.set j { en with key := kd.val a, val := ac.eval y } := by
    rw [Array.toList_modify, modify_eq_set _ _ _ _ e3]
    congr 1
    cases en
    simp only at hek
    simp [hek]
  let o' : Obj := .map (es.modify j fun e => { e with val := ac.eval y }) ck
  have hrun : (execOp ac.eval ⟨d, .entryStore t m x y, ty, pos, af, none⟩).run P w = .ok .skip (setBlock w b o') := by
    simp [execOp, h3, hr2', Instr.entryStore, MapKept.run_getObj_map g1, hfind, MapKept.run_setObj_map _ g1, Result.andThen, setBlock, o', asInt, asIntOf]
  obtain ⟨k1, k2, k3⟩ := heap_setB (o' := o') g1
  obtain ⟨m1, m2⟩ := mem_set (w' := setBlock w b o') (R := .kmap kd (fun k => if k = a then true else has k) (fun k => if k = a then ev E y else val k) (some (f, ck))) hs.mem hQ h1 h2 k3 k2
    (fun Z' hkp => ⟨b, _, _, h2, k1, by
      rw [hmod]
      refine g2.put e3 hek hz1 (by simpa using SV.rel_mono (fun _ _ h => h) hkp _ _ hr3) fun b v hb hv => ?_
      simp only [if_neg hb]
      exact SV.rel_mono (fun _ _ h => h) hkp _ _ hv, fun f' c' hc => by
      cases hc
      refine ⟨rfl, fun e' he' b' hb' => ?_⟩
      rw [hmod] at he'
      rcases List.mem_or_eq_of_mem_set he' with hmem | rfl
      · exact hf e' hmem b' hb'
      · have := KK.val_inj hb'
        subst this
        exact hborn⟩)
  refine wpIn_of_wp ?_
  unfold Oper.wp
  rw [hrun]
  exact hK _ _ _ _ _ _ h (St.put (hs.go m1 (FrS.setB hs.mem hQ h1 h2 g1 _) m2 (fun t z hz => SV.rel_mono (fun _ _ h => h) m2 _ _ hz) hs.low fun _ _ => rfl) hd trivial)
theorem GOp_entryStore {K : Env → Mem → Nat → Prop} {d : Option Tmp} {t ty : TypeId} {pos : String} {af : Array Edge} {m x y : Operand} {q : Nat} {has : Int → Bool} {val : Int → SV} {f : Int → Nat} {c : Nat} (a : Int)
    (hx : ev E m = .mp q) (hy : ev E x = .r (.v (.int .i64 (f a)))) (hQ : M q = some (.map has val (some (f, c)))) (ha : has a = true) (hone : (ev E y).one = true) (hd : dOK N.n d)
    (h : K (envPut E d (.r .any)) (upd M q (some (.map (fun k => if k = a then true else has k) (fun k => if k = a then ev E y else val k) (some (f, c))))) nx) :
    GOpW P N ⟨d, .entryStore t m x y, ty, pos, af, none⟩ E M nx K :=
  GOp_kentryStore (kd := .i) a hx hy hQ ha hone hd h
end
end Go.Gx
