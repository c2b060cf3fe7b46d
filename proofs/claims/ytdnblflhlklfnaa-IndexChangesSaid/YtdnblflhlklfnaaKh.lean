/-
  The postings' lists in own memory: add, walked in the memory of the caller.
-/
import Derived.Test.YtdnblflhlklfnaaKg
set_option linter.unusedVariables false
set_option linter.unusedSimpArgs false
set_option maxRecDepth 20000
set_option maxHeartbeats 4000000
namespace Go.Gx.Ix
open Go.RowKit Go.Proofs Go.Proofs.Ytdnblflhlklfnaa

theorem insK97 {i n : Nat} {M : Mem} {np nx q p : Nat} {cs one : Nat → Nat → SV} {K : SV → Mem → Nat → (SV → SV) → Prop} (hn : n ≤ 1000000) (hi : i ≤ n) (hqp : q ≠ p) (hM : M q = some (.vec 75 3 n cs)) (hM2 : M p = some (.vec 75 3 1 one))
    (hK : K (.sl nx 3 0 (n + 1) none) (upd (upd (upd M q none) p none) nx (some (.vec 75 3 (n + 1) fun r c => if r < i then cs r c else if r = i then one 0 c else cs (r - 1) c))) (nx + 1) id) :
    CallK Try.prog np 97 [.sl q 3 0 n none, .i i, .sl p 3 0 1 none] M nx K := by
  refine callK_opq2 (S := .sl nx 3 0 (n + 1) none) (M2 := upd (upd M q none) p none) (q := nx) (k := 3) (m := n + 1) (nx' := nx + 1) (e' := 75) (get' := fun r c => if r < i then cs r c else if r = i then one 0 c else cs (r - 1) c) [q, p] (fun r hr => ?_) (fun Nm hNm M1 hM1 => ?_) hK
  · simp at hr
    rcases hr with rfl | rfl
    · exact ⟨_, _, _, _, hM⟩
    · exact ⟨_, _, _, _, hM2⟩
  obtain ⟨c, h7, hcell⟩ := hM1.2 q (by simp) _ _ _ _ hM
  obtain ⟨d, h8, hdell⟩ := hM1.2 p (by simp) _ _ _ _ hM2
  refine callK_own [q, p] (insert97 n i hn hi (fun r j => .v (c r j)) fun r j => .v (d r j)) (by simpa using hqp) rfl ⟨h7, h8, trivial⟩ ⟨rfl, rfl, rfl, fun r j => if r < i then c r j else if r = i then d 0 j else c (r - 1) j, fun r j hr hj => ?_, ?_⟩
  · by_cases h : r < i
    · simp only [h, if_true]; exact (hcell r j (by omega) hj).1
    · by_cases h' : r = i
      · simp only [h, h', if_true, if_false, Nat.lt_irrefl]; exact (hdell 0 j (by omega) hj).1
      · simp only [h, h', if_false]; exact (hcell (r - 1) j (by omega) hj).1
  · funext r
    simp only [addS, Gx.dropM, upd_app]
    by_cases h1 : r = nx
    · simp only [h1, Nat.add_zero, if_true, Reg.ren, SV.ren]
      congr 2
      funext a b
      unfold insR
      by_cases h : a < i
      · simp [h]
      · by_cases h' : a = i <;> simp [h, h']
    · by_cases h2 : r = q
      · subst h2
        simp [h1]
      · by_cases h3 : r = p
        · subst h3
          simp [h1]
        · simp [h1, h2, h3, hM1.1 r (by simp [h2, h3])]
/-- Where the cell of a posting is. -/
def key (m c : BitVec 8) : Nat := 256 * m.toNat + c.toNat
def PsG.k (p : PsG) : Nat := key p.m p.c
/-- Numbers in own memory. -/
def nuM (R : Option Reg) (l : List Int) : Prop := ∃ f, R = some (.vec 3 1 l.length f) ∧ ∀ a, a < l.length → f a 0 = .r (irows l a 0)
theorem nuM_kill {R : Option Reg} {l : List Int} (r : Nat) (h : nuM R l) : nuM (R.map (Reg.kill r)) l := by
  obtain ⟨f, rfl, h2⟩ := h
  exact ⟨_, rfl, fun i hi => by rw [h2 i hi]; rfl⟩
theorem nuM_fz {R : Option Reg} {l : List Int} (r : Nat) (R' : Reg) (h : nuM R l) : nuM (R.map (Reg.fz r R')) l := by
  obtain ⟨f, rfl, h2⟩ := h
  exact ⟨_, rfl, fun i hi => by rw [h2 i hi]; rfl⟩
/-- A list of postings in own memory; pos tells where the numbers of a cell are. -/
def psM (R : Option Reg) (L : List PsG) (pos : Nat → Nat) : Prop := ∃ f, R = some (.vec 75 3 L.length f) ∧ ∀ i, (h : i < L.length) → f i 0 = .r (.y L[i].c) ∧ f i 1 = .r (.y L[i].m) ∧ f i 2 = .sl (pos L[i].k) 1 0 L[i].ids.length none
theorem psM_kill {R : Option Reg} {L : List PsG} {pos : Nat → Nat} (r : Nat) (hr : ∀ p ∈ L, pos p.k ≠ r) (h : psM R L pos) : psM (R.map (Reg.kill r)) L pos := by
  obtain ⟨f, rfl, h2⟩ := h
  refine ⟨_, rfl, fun i hi => ?_⟩
  obtain ⟨q0, q1, q2⟩ := h2 i hi
  rw [q0, q1, q2]
  exact ⟨rfl, rfl, by simp [SV.kill, hr _ (List.getElem_mem hi)]⟩
theorem psM_fz {R : Option Reg} {L : List PsG} {pos : Nat → Nat} (r : Nat) (R' : Reg) (hr : ∀ p ∈ L, pos p.k ≠ r) (h : psM R L pos) : psM (R.map (Reg.fz r R')) L pos := by
  obtain ⟨f, rfl, h2⟩ := h
  refine ⟨_, rfl, fun i hi => ?_⟩
  obtain ⟨q0, q1, q2⟩ := h2 i hi
  rw [q0, q1, q2]
  exact ⟨rfl, rfl, by simp [SV.fz, hr _ (List.getElem_mem hi)]⟩
/-- What is left of a region when others (of A) were given up or frozen. -/
def Kept (A : Nat → Prop) (R R' : Option Reg) : Prop := ∀ X : Option Reg → Prop, (∀ s R, A s → X R → X (R.map (Reg.kill s))) → (∀ s Rf R, A s → X R → X (R.map (Reg.fz s Rf))) → X R → X R'
theorem Kept.refl {A : Nat → Prop} {R : Option Reg} : Kept A R R := fun X _ _ h => h
theorem Kept.trans {A : Nat → Prop} {R R' R'' : Option Reg} (h : Kept A R R') (k : Kept A R' R'') : Kept A R R'' := fun X h1 h2 h3 => k X h1 h2 (h X h1 h2 h3)
theorem Kept.mono {A A' : Nat → Prop} {R R' : Option Reg} (h : Kept A R R') (hA : ∀ s, A s → A' s) : Kept A' R R' := fun X h1 h2 h3 => h X (fun s R hs => h1 s R (hA s hs)) (fun s Rf R hs => h2 s Rf R (hA s hs)) h3
theorem Kept.kill {A : Nat → Prop} {R R' : Option Reg} {s : Nat} (h : Kept A R R') (hs : A s) : Kept A R (R'.map (Reg.kill s)) := fun X h1 h2 h3 => h1 s _ hs (h X h1 h2 h3)
theorem Kept.fz {A : Nat → Prop} {R R' : Option Reg} {s : Nat} (Rf : Reg) (h : Kept A R R') (hs : A s) : Kept A R (R'.map (Reg.fz s Rf)) := fun X h1 h2 h3 => h2 s Rf _ hs (h X h1 h2 h3)
theorem Kept.nu {A : Nat → Prop} {R R' : Option Reg} {l : List Int} (h : Kept A R R') (hn : nuM R l) : nuM R' l := h (fun R => nuM R l) (fun s R _ => nuM_kill s) (fun s Rf R _ => nuM_fz s Rf) hn
theorem Kept.ps {A : Nat → Prop} {R R' : Option Reg} {L : List PsG} {pos : Nat → Nat} (h : Kept A R R') (hp : ∀ P ∈ L, ¬ A (pos P.k)) (hn : psM R L pos) : psM R' L pos :=
  h (fun R => psM R L pos) (fun s R hs => psM_kill s fun P hP e => hp P hP (by rw [e]; exact hs)) (fun s Rf R hs => psM_fz s Rf fun P hP e => hp P hP (by rw [e]; exact hs)) hn
theorem psM_of {R : Option Reg} {L : List PsG} {pos : Nat → Nat} (n : Nat) (hn : n = L.length) (f : Nat → Nat → SV) (hR : R = some (.vec 75 3 n f)) (hf : ∀ i, (h : i < L.length) → f i 0 = .r (.y L[i].c) ∧ f i 1 = .r (.y L[i].m) ∧ f i 2 = .sl (pos L[i].k) 1 0 L[i].ids.length none) : psM R L pos := by
  subst hn; exact ⟨f, hR, hf⟩
theorem mod_at (L : List PsG) (k : Nat) (id : Int) (i : Nat) (hi : i < (L.modify k fun p => { p with ids := insI p.ids id }).length) (hil : i < L.length) : (L.modify k fun p => { p with ids := insI p.ids id })[i] = if i = k then ⟨L[i].c, L[i].m, insI L[i].ids id⟩ else L[i] := by
  rw [List.getElem_modify]
  by_cases h : k = i
  · rw [if_pos h, if_pos h.symm]
  · rw [if_neg h, if_neg (fun e => h e.symm)]
theorem key_inj {m c m' c' : BitVec 8} (h : key m c = key m' c') : m = m' ∧ c = c' := by
  unfold key at h
  have h1 := m.isLt
  have h2 := c.isLt
  have h3 := m'.isLt
  have h4 := c'.isLt
  exact ⟨BitVec.eq_of_toNat_eq (by omega), BitVec.eq_of_toNat_eq (by omega)⟩
theorem k_uniq {L : List PsG} (h : L.Pairwise bef) {i i' : Nat} (hi : i < L.length) (hi' : i' < L.length) (e : L[i].k = L[i'].k) : i = i' := by
  obtain ⟨e1, e2⟩ := key_inj e
  exact cell_uniq h hi hi' e1 e2
theorem pis_key {L : List PsG} {m c : BitVec 8} (h : pis L m c = true) : ∃ hl : pat L m c < L.length, L[pat L m c].k = key m c := by
  unfold pis fnd at h
  simp only [Bool.and_eq_true, decide_eq_true_eq] at h
  have hl : pat L m c < L.length := h.1
  refine ⟨hl, ?_⟩
  have h2 : pcm L m c (pat L m c) = 0 := h.2
  rw [pcm_at hl] at h2
  obtain ⟨e1, e2⟩ := ordI_zero.1 h2
  unfold PsG.k key
  omega
theorem pis_none {L : List PsG} {m c : BitVec 8} (hb : L.Pairwise bef) (h : pis L m c = false) : ∀ P ∈ L, P.k ≠ key m c := by
  intro P hP e
  obtain ⟨i, hi, rfl⟩ := List.mem_iff_getElem.1 hP
  obtain ⟨e1, e2⟩ := key_inj e
  have h0 : pcm L m c i = 0 := by rw [pcm_at hi]; exact ordI_zero.2 ⟨by rw [e1], by rw [e2]⟩
  have hat : bnd (pcm L m c) L.length = i := bnd_eq (by omega) (fun j hj => by
    have hjl : j < L.length := by omega
    have := List.pairwise_iff_getElem.1 hb j i hjl hi hj
    rw [pcm_at hjl]
    refine ordI_lt.2 ?_
    unfold bef at this
    rw [e1, e2] at this
    exact this) (fun j hj hjl => by
    rcases Nat.lt_or_ge i j with h1 | h1
    · have := List.pairwise_iff_getElem.1 hb i j hi hjl h1
      rw [pcm_at hjl]
      rcases Int.lt_or_le (ordI L[j].m.toNat L[j].c.toNat m.toNat c.toNat) 0 with h2 | h2
      · have h3 := ordI_lt.1 h2
        unfold bef at this
        rw [e1, e2] at this
        omega
      · exact h2
    · have : j = i := by omega
      subst this; omega)
  unfold pis fnd at h
  rw [hat] at h
  simp [hi, h0] at h
/-- The numbers with one more, as append made them. -/
theorem nu_ins (l : List Int) (id : Int) (q s : Nat) (hq : q ≤ l.length) (g : Nat → Nat → SV) (hg : ∀ a, a < l.length → g a 0 = .r (irows l a 0)) :
    nuM (some (Reg.vec 3 1 (q + 1 + (l.length - q)) fun i j => SV.kill s (joined (q + 1) (l.length - q) (joined q 1 (fun i j => SV.r (g i j).toRV) fun i j => [SV.r (RV.v (Value.int IntKind.i64 id))][i + j]?.getD (SV.r RV.any)) (fun i j => SV.r (g (q + i) j).toRV) i j))) (l.take q ++ id :: l.drop q) := by
  have hlen : (l.take q ++ id :: l.drop q).length = q + 1 + (l.length - q) := by simp; omega
  rw [nuM, hlen]
  refine ⟨_, rfl, fun a ha => ?_⟩
  rw [ins_cells _ _ q hq a (by omega)]
  unfold joined
  by_cases c1 : a < q + 1
  · by_cases c2 : a < q
    · simp [c1, c2, hg a (by omega), SV.kill, SV.toRV]
    · have c4 : a = q := by omega
      subst c4
      simp [SV.kill]
  · have c2 : ¬ a < q := by omega
    have c3 : ¬ a = q := by omega
    have c4 : q + (a - (q + 1)) = a - 1 := by omega
    simp [c1, c2, c3, c4, ha, hg (a - 1) (by omega), SV.kill, SV.toRV]
theorem add80K {np nx r : Nat} {M : Mem} {K : SV → Mem → Nat → (SV → SV) → Prop} {L : List PsG} {m c : BitVec 8} {id : Int} (h : Srt L m c id) {pos : Nat → Nat} (hnp : np ≤ nx) (hr : r < nx) (hL : psM (M r) L pos) (hbf : L.Pairwise bef)
    (hp : ∀ P ∈ L, pos P.k < nx ∧ pos P.k ≠ r ∧ nuM (M (pos P.k)) P.ids) (hin : ∀ P ∈ L, ∀ P' ∈ L, pos P.k = pos P'.k → P.k = P'.k)
    (hK : ∀ M' nx' r' p' pos', nx ≤ nx' → (r' = r ∨ nx ≤ r') → r' < nx' → nx ≤ p' → p' < nx' → r' ≠ p' → (pos' = fun k => if k = key m c then p' else pos k) → psM (M' r') (addP L m c id) pos' → (∀ P ∈ addP L m c id, nuM (M' (pos' P.k)) P.ids) →
      (∀ q, q < nx → q ≠ r → (∀ P ∈ L, P.k = key m c → q ≠ pos P.k) → Kept (fun s => s = r ∨ nx ≤ s ∨ ∃ P ∈ L, P.k = key m c ∧ s = pos P.k) (M q) (M' q)) →
      K (.sl r' 3 0 (addP L m c id).length none) M' nx' (SV.trim nx)) : CallK Try.prog np 80 [.sl r 3 0 L.length none, .agg [.y m, .y c], .i id] M nx K := by
  refine callK_in T_ok Try.func80 rfl (by kernel_rfl) (Nat.le_of_ble_eq_true rfl) rfl rfl nx hnp (Nat.le_refl _) ?_
  obtain ⟨f, hMr, hf⟩ := hL
  have hlen := h.len
  have hrn : ¬ r = nx := by omega
  have hrn' : ¬ nx = r := by omega
  have r1 : ¬ r = nx + 1 := by omega
  have r2 : ¬ r = nx + 1 + 1 := by omega
  have r3 : ¬ r = nx + 1 + 1 + 1 := by omega
  have r1' : ¬ nx + 1 = r := by omega
  have r2' : ¬ nx + 1 + 1 = r := by omega
  have r3' : ¬ nx + 1 + 1 + 1 = r := by omega
  have n01 : ¬ nx = nx + 1 := by omega
  have n02 : ¬ nx = nx + 1 + 1 := by omega
  have n03 : ¬ nx = nx + 1 + 1 + 1 := by omega
  have n10 : ¬ nx + 1 = nx := by omega
  have n12 : ¬ nx + 1 = nx + 1 + 1 := by omega
  have n13 : ¬ nx + 1 = nx + 1 + 1 + 1 := by omega
  have n20 : ¬ nx + 1 + 1 = nx := by omega
  have n21 : ¬ nx + 1 + 1 = nx + 1 := by omega
  have n23 : ¬ nx + 1 + 1 = nx + 1 + 1 + 1 := by omega
  have n30 : ¬ nx + 1 + 1 + 1 = nx := by omega
  have n31 : ¬ nx + 1 + 1 + 1 = nx + 1 := by omega
  have n32 : ¬ nx + 1 + 1 + 1 = nx + 1 + 1 := by omega
  simp [go_sem]
  refine call_lent (v := .tup [.i (pat L m c : Nat), .b (pis L m c)]) (by
    simp [go_sem, hrn, hrn', hMr]
    exact search95 L.length (by omega) _ m c 96 [] rfl (pcm L m c) h.cells (fun i hi => by
      obtain ⟨f0, f1, f2⟩ := hf i hi
      obtain ⟨p1, p2, g, hg, hgg⟩ := hp L[i] (List.getElem_mem hi)
      rw [f0, f1, f2, pcm_at hi]
      have pn : ¬ pos L[i].k = nx := by omega
      simp [viewRV, pn, hg, go_sem]
      exact compare96 _ _ _ _ _ _)) rfl ?_
  have hle : pat L m c ≤ L.length := bnd_le
  have hat := addL_at L m c
  simp [go_sem]
  obtain ⟨L2, hL2⟩ : ∃ L2, addL L m c = L2 := ⟨_, rfl⟩
  have hids := ids_at h
  have hadd : addP L m c id = L2.modify (pat L m c) fun p => { p with ids := insI p.ids id } := by rw [← hL2]; rfl
  rw [hL2] at hat hids
  rw [hadd] at hK
  generalize hk : pat L m c = k at *
  have hat' : (k : Int) < L2.length := by omega
  obtain ⟨hi1, hi2⟩ := hids L2[k] (List.getElem_mem hat)
  have hsr := search98 L2[k].ids.length (by omega) (irows L2[k].ids) (fun i => L2[k].ids.getD i 0) (fun i hi => by unfold irows; rw [rowsL_get (List.getElem?_eq_getElem hi)]; simp [List.getD, List.getElem?_eq_getElem hi]) id hi2
  have hins : insI L2[k].ids id = L2[k].ids.take (bnd (fun i => L2[k].ids.getD i 0 - id) L2[k].ids.length) ++ id :: L2[k].ids.drop (bnd (fun i => L2[k].ids.getD i 0 - id) L2[k].ids.length) := rfl
  have hql : bnd (fun i => L2[k].ids.getD i 0 - id) L2[k].ids.length ≤ L2[k].ids.length := bnd_le
  generalize bnd (fun i => L2[k].ids.getD i 0 - id) L2[k].ids.length = q at *
  generalize fnd (fun i => L2[k].ids.getD i 0 - id) L2[k].ids.length = fb at *
  cases hpi : pis L m c
  · have e2 : L2 = L.take k ++ ⟨c, m, []⟩ :: L.drop k := by rw [← hL2, ← hk]; unfold addL; rw [if_neg (by rw [hpi]; simp)]
    have e3 : L2.length = L.length + 1 := by rw [e2]; simp; omega
    have hL2k : L2[k] = ⟨c, m, []⟩ := by
      simp only [e2]
      rw [List.getElem_append_right (by simp; omega)]
      simp [Nat.min_eq_left hle]
    have hq0 : q = 0 := by rw [hL2k] at hql; simpa using hql
    subst hq0
    rw [hL2k] at hsr hins
    simp [go_sem, hrn, hrn']
    refine callK_wk (M' := upd (upd M nx (some (.box [.y m, .y c]))) (nx + 1) (some (.vec 75 3 1 fun i j => .r (prows [⟨c, m, []⟩] i j)))) (fun s => ?_) (insK97 (cs := f) (by omega) hle (by omega) (by rw [upd_ne _ _ r1, upd_ne _ _ hrn]; exact hMr) (upd_same ..) ?_)
    · by_cases hs : s = nx + 1
      · subst hs
        rw [upd_same, upd_same]
        refine Reg.wk_vec (Nat.le_refl _) fun i j hi hj => ?_
        obtain rfl : i = 0 := by omega
        rcases (show j = 0 ∨ j = 1 ∨ j = 2 by omega) with rfl | rfl | rfl
        · exact SV.sub_rfl _
        · exact SV.sub_rfl _
        · show SV.sub (.r (.v (.slice none 0 0))) (.r (.rs 1 0 _))
          simp [SV.sub, RV.sub]
      · rw [upd_ne _ _ hs, upd_ne _ _ hs]
        exact .inl (Reg.sub_rfl _)
    have o2 : prows [⟨c, m, []⟩] 0 2 = .rs 1 0 (irows []) := rfl
    have hat2 : k < L.length + 1 := by omega
    have hat2' : (k : Int) < (L.length : Int) + 1 := by omega
    simp [go_sem, hat2, hat2', o2]
    refine call_val hsr rfl rfl ?_
    simp [go_sem, hat2, hat2', o2]
    refine GDraw_l (t := (.take 0 (.take 1 (.take 2 (.take 3 (.take 6 (.take 7 (.take 8 (.take 9 (.take 10 (.take 11 (.take 12 (.alt 4 [12, 11, 10, 9, 8, 7, 6, 3, 2, 1, 0] (.alt 5 [12, 11, 10, 9, 8, 7, 6, 2, 1, 0] (.alt 13 [12, 11, 10, 9, 8, 7, 6, 1, 0] (.take 14 (.take 15 (.alt 16 [15, 14, 11, 10, 9, 8, 7, 6, 1, 0] (.done [14]) .nil))) .nil) .nil) .nil))))))))))))) T_ok (by kernel_rfl) (by kernel_rfl) (by kernel_rfl) (fun _ _ _ _ h => h) ?_
    simp [go_sem, hat2, hat2', o2]
    have hnone := pis_none hbf hpi
    have hml : (L2.modify k fun p => { p with ids := insI p.ids id }).length = L.length + 1 := by rw [List.length_modify, e3]
    have hi3 : insI [] id = [id] := by rw [hins]; rfl
    have hL2i : ∀ i, (hi : i < L2.length) → L2[i]? = if i < k then L[i]? else if i = k then some ⟨c, m, []⟩ else L[i - 1]? := fun i hi => by
      rw [e2, List.getElem?_append]
      have hl : (L.take k).length = k := by simp; omega
      rw [hl]
      by_cases h1 : i < k
      · rw [if_pos h1, if_pos h1, List.getElem?_take_of_lt h1]
      · rw [if_neg h1, if_neg h1]
        by_cases h2 : i = k
        · subst h2; simp
        · rw [if_neg h2, show i - k = (i - 1 - k) + 1 by omega, List.getElem?_cons_succ, List.getElem?_drop]
          congr 1; omega
    rw [hml] at hK
    refine ⟨by omega, ?_⟩
    refine hK _ _ (nx + 1 + 1) (nx + 1 + 1 + 1 + 1) _ (by omega) (.inr (by omega)) (by omega) (by omega) (by omega) (by omega) rfl ?_ ?_ ?_
    · refine psM_of (L.length + 1) hml.symm _ (upd_same ..) fun i hi => ?_
      have hil : i < L2.length := by simpa using hi
      rw [mod_at L2 k id i hi hil]
      have hg := hL2i i hil
      rw [List.getElem?_eq_getElem hil] at hg
      by_cases h2 : i = k
      · subst h2
        rw [if_neg (by omega), if_pos rfl] at hg
        simp [Option.some.inj hg, PsG.k, hi3, SV.kill]
        exact ⟨rfl, rfl⟩
      · by_cases h1 : i < k
        · have hiL : i < L.length := by omega
          rw [if_pos h1, List.getElem?_eq_getElem hiL] at hg
          obtain ⟨f0, f1, f2⟩ := hf i hiL
          have hne := hnone _ (List.getElem_mem hiL)
          have hpp := (hp _ (List.getElem_mem hiL)).1
          have e5 : ¬ pos L[i].k = nx + 1 + 1 + 1 + 1 := by omega
          simp [h2, h1, Option.some.inj hg, f0, f1, f2, hne, SV.kill, e5]
        · have hiL : i - 1 < L.length := by omega
          rw [if_neg h1, if_neg h2, List.getElem?_eq_getElem hiL] at hg
          obtain ⟨f0, f1, f2⟩ := hf (i - 1) hiL
          have hne := hnone _ (List.getElem_mem hiL)
          have hpp := (hp _ (List.getElem_mem hiL)).1
          have e5 : ¬ pos L[i - 1].k = nx + 1 + 1 + 1 + 1 := by omega
          simp [h2, h1, Option.some.inj hg, f0, f1, f2, hne, SV.kill, e5]
    · intro P hP
      obtain ⟨i, hi, rfl⟩ := List.mem_iff_getElem.1 hP
      have hil : i < L2.length := by simpa using hi
      rw [mod_at L2 k id i hi hil]
      have hg := hL2i i hil
      rw [List.getElem?_eq_getElem hil] at hg
      by_cases h2 : i = k
      · subst h2
        rw [if_neg (by omega), if_pos rfl] at hg
        simp only [if_true, Option.some.inj hg]
        have ek : PsG.k ⟨c, m, insI [] id⟩ = key m c := rfl
        rw [if_pos ek, upd_ne _ _ (by omega), upd_same, hi3]
        exact ⟨_, rfl, fun a ha => by
          obtain rfl : a = 0 := by simp at ha; omega
          rfl⟩
      · by_cases h1 : i < k
        · have hiL : i < L.length := by omega
          rw [if_pos h1, List.getElem?_eq_getElem hiL] at hg
          have hne := hnone _ (List.getElem_mem hiL)
          simp only [h2, if_false, Option.some.inj hg, hne]
          obtain ⟨hpp, hpr, hpn⟩ := hp _ (List.getElem_mem hiL)
          rw [upd_ne _ _ (by omega), upd_ne _ _ (by omega)]
          simp only [killM]
          rw [upd_ne _ _ (by omega), upd_ne _ _ (by omega), upd_ne _ _ (by omega), upd_ne _ _ (by omega), upd_ne _ _ hpr, upd_ne _ _ (by omega), upd_ne _ _ (by omega)]
          exact nuM_kill _ hpn
        · have hiL : i - 1 < L.length := by omega
          rw [if_neg h1, if_neg h2, List.getElem?_eq_getElem hiL] at hg
          have hne := hnone _ (List.getElem_mem hiL)
          simp only [h2, if_false, Option.some.inj hg, hne]
          obtain ⟨hpp, hpr, hpn⟩ := hp _ (List.getElem_mem hiL)
          rw [upd_ne _ _ (by omega), upd_ne _ _ (by omega)]
          simp only [killM]
          rw [upd_ne _ _ (by omega), upd_ne _ _ (by omega), upd_ne _ _ (by omega), upd_ne _ _ (by omega), upd_ne _ _ hpr, upd_ne _ _ (by omega), upd_ne _ _ (by omega)]
          exact nuM_kill _ hpn
    · intro s hs hsr hsp
      rw [upd_ne _ _ (by omega), upd_ne _ _ (by omega)]
      simp only [killM]
      rw [upd_ne _ _ (by omega), upd_ne _ _ (by omega), upd_ne _ _ (by omega), upd_ne _ _ (by omega), upd_ne _ _ hsr, upd_ne _ _ (by omega), upd_ne _ _ (by omega)]
      exact Kept.refl.kill (.inr (.inl (by omega)))
  · have hLe : L = L2 := by rw [← hL2]; unfold addL; rw [if_pos hpi]
    subst hLe
    obtain ⟨f0, f1, f2⟩ := hf k hat
    obtain ⟨p1, p2, g, hg, hgg⟩ := hp L[k] (List.getElem_mem hat)
    generalize hpk : pos L[k].k = p at *
    have pn : ¬ p = nx := by omega
    have pn' : ¬ nx = p := by omega
    have p2' : ¬ r = p := fun e => p2 e.symm
    simp [go_sem, hrn, hrn', hMr, hat, hat', f2]
    refine callK_freeze p (by simp [go_sem, pn]; exact hg) ?_
    simp [go_sem, hrn, hrn', hMr, hat, hat', f2, p2, p2', pn, pn']
    refine call_val (hsr.args ⟨le_rs fun i j hi hj => ?_, SV.le.rfl, trivial⟩) rfl rfl ?_
    · obtain rfl : j = 0 := by omega
      rw [hgg i hi]; rfl
    simp [go_sem, hrn, hrn', hMr, hat, hat', f2, p2, p2', pn, pn']
    refine ⟨hql, ?_⟩
    refine GDraw_l (t := (.take 0 (.take 1 (.take 2 (.take 3 (.take 6 (.take 7 (.take 8 (.take 9 (.take 10 (.take 11 (.take 12 (.alt 4 [12, 11, 10, 9, 8, 7, 6, 3, 2, 1, 0] (.alt 5 [12, 11, 10, 9, 8, 7, 6, 2, 1, 0] (.alt 13 [12, 11, 10, 9, 8, 7, 6, 1, 0] (.take 14 (.take 15 (.alt 16 [15, 14, 11, 10, 9, 8, 7, 6, 1, 0] (.done [14]) .nil))) .nil) .nil) .nil))))))))))))) T_ok (by kernel_rfl) (by kernel_rfl) (by kernel_rfl) (fun _ _ _ _ h => h) ?_
    have p11 : ¬ p = nx + 1 := by omega
    have p12 : ¬ p = nx + 1 + 1 := by omega
    have p13 : ¬ p = nx + 1 + 1 + 1 := by omega
    have p21 : ¬ nx + 1 = p := by omega
    have p22 : ¬ nx + 1 + 1 = p := by omega
    have p23 : ¬ nx + 1 + 1 + 1 = p := by omega
    simp [go_sem, hrn, hrn', hMr, hat, hat', f2, p2, p2', pn, pn', r1, r2, r3, r1', r2', r3', n01, n02, n03, n10, n12, n13, n20, n21, n23, n30, n31, n32, p11, p12, p13, p21, p22, p23]
    obtain ⟨_, hkey⟩ := pis_key hpi
    simp only [hk] at hkey
    refine ⟨hql, by omega, hql, by omega, by omega, ?_⟩
    have hml : (L.modify k fun p => { p with ids := insI p.ids id }).length = L.length := by simp
    rw [hml] at hK
    have oth : ∀ P ∈ L, P.k ≠ key m c → pos P.k ≠ p := fun P hP hne e => hne (by rw [← hkey]; exact hin P hP _ (List.getElem_mem hat) (by rw [e, hpk]))
    refine hK _ _ r (nx + 1 + 1) _ (by omega) (.inl rfl) (by omega) (by omega) (by omega) r2 rfl ?_ ?_ ?_
    · refine psM_of L.length hml.symm _ (upd_same ..) fun i hi => ?_
      have hil : i < L.length := by simpa using hi
      obtain ⟨f0, f1, f2⟩ := hf i hil
      rw [mod_at L k id i hi hil]
      by_cases hik : i = k
      · subst hik
        have hl : (insI L[i].ids id).length = q + 1 + (L[i].ids.length - q) := by rw [hins]; simp; omega
        have e : (PsG.k ⟨L[i].c, L[i].m, insI L[i].ids id⟩) = key m c := hkey
        simp [f0, f1, e, hl, SV.kill, SV.fz]
      · have hne : ¬ L[i].k = key m c := fun e => hik (k_uniq hbf hil hat (by rw [e, hkey]))
        have hpp := (hp L[i] (List.getElem_mem hil)).1
        have e1 : ¬ pos L[i].k = p := oth _ (List.getElem_mem hil) hne
        have e2 : ¬ pos L[i].k = nx + 1 + 1 := by omega
        simp [hik, f0, f1, f2, hne, e1, e2, SV.kill, SV.fz]
    · intro P hP
      obtain ⟨i, hi, rfl⟩ := List.mem_iff_getElem.1 hP
      have hil : i < L.length := by simpa using hi
      rw [mod_at L k id i hi hil]
      by_cases hik : i = k
      · subst hik
        have e : (PsG.k ⟨L[i].c, L[i].m, insI L[i].ids id⟩) = key m c := hkey
        simp only [if_true, e]
        rw [upd_ne _ _ r2', upd_same, hins]
        exact nu_ins L[i].ids id q _ hql g hgg
      · have hne : ¬ L[i].k = key m c := fun e => hik (k_uniq hbf hil hat (by rw [e, hkey]))
        obtain ⟨hpp, hpr, hpn⟩ := hp L[i] (List.getElem_mem hil)
        have e1 : ¬ pos L[i].k = p := oth _ (List.getElem_mem hil) hne
        have e2 : ¬ pos L[i].k = nx + 1 + 1 := by omega
        have e3 : ¬ pos L[i].k = nx + 1 := by omega
        have e4 : ¬ pos L[i].k = nx := by omega
        simp [hik, hne]
        rw [upd_ne _ _ hpr, upd_ne _ _ e2]
        simp only [killM, upd_ne _ _ e2, upd_ne _ _ e3, fzM, if_neg e1, upd_ne _ _ e4]
        exact nuM_kill _ (nuM_fz _ _ hpn)
    · intro s hs hsr hsp
      have e1 : ¬ s = p := by rw [← hpk]; exact hsp _ (List.getElem_mem hat) hkey
      have e2 : ¬ s = nx + 1 + 1 := by omega
      have e3 : ¬ s = nx + 1 := by omega
      have e4 : ¬ s = nx := by omega
      rw [upd_ne _ _ hsr, upd_ne _ _ e2]
      simp only [killM, upd_ne _ _ e2, upd_ne _ _ e3, fzM, if_neg e1, upd_ne _ _ e4]
      exact (Kept.refl.fz _ (.inr (.inr ⟨_, List.getElem_mem hat, hkey, hpk.symm⟩))).kill (.inr (.inl (by omega)))
end Go.Gx.Ix
