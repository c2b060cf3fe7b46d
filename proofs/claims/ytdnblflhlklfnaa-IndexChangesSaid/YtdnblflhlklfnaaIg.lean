/-
  Where a member is; slices.Insert of postings; the chunks of codes; a number is added to a list.
-/
import Derived.Test.YtdnblflhlklfnaaIf
set_option linter.unusedVariables false
set_option linter.unusedSimpArgs false
set_option maxRecDepth 20000
set_option maxHeartbeats 4000000
namespace Go.Gx.Ix
open Go.RowKit Go.Proofs Go.Proofs.Ytdnblflhlklfnaa

/-- A member: its number and its code. -/
structure MbG where
  id : Int
  x : IrG
def MbG.f (a : MbG) : Nat → RV
  | 0 => .i a.id
  | 1 => .w a.x.c
  | _ => .w a.x.m
@[go_sem] theorem MbG.f0 (a : MbG) : a.f 0 = .i a.id := rfl
@[go_sem] theorem MbG.f1 (a : MbG) : a.f 1 = .w a.x.c := rfl
@[go_sem] theorem MbG.f2 (a : MbG) : a.f 2 = .w a.x.m := rfl
abbrev MbG.sv (a : MbG) : SV := .agg [.i a.id, .w a.x.c, .w a.x.m]
abbrev mrows (l : List MbG) : Nat → Nat → RV := rowsL MbG.f l
abbrev mrs (l : List MbG) : SV := .r (.rs 3 l.length (mrows l))
theorem mrow {l : List MbG} {i : Nat} (h : i < l.length) (j : Nat) : mrows l i j = l[i].f j := rowsL_get (List.getElem?_eq_getElem h) j

theorem search84 (l : List MbG) (hn : (l.length : Int) < 2 ^ 61) (t : Int) (hm : ∀ a b, a < b → ∀ hb : b < l.length, l[b].id < t → ∀ ha : a < l.length, l[a].id < t) (c : Nat → Int) (hc : ∀ i (hi : i < l.length), c i = cmpI l[i].id t) :
    Pure Try.prog 84 [mrs l, .i t, .fn (.func 85) [] []] (· = .tup [.i (bnd c l.length : Nat), .b (fnd c l.length)]) := by
  refine pure_of_GC T_ok Try.func84 rfl (by kernel_rfl) (Nat.le_of_ble_eq_true rfl) rfl rfl ?_
  simp [go_sem]
  have cneg : ∀ i (hi : i < l.length), c i < 0 ↔ l[i].id < t := fun i hi => by
    rw [hc i hi]; unfold cmpI
    repeat' split
    all_goals omega
  refine GLoop_of T_ok (α := Nat × Nat) (fun x => [(0, mrs l), (1, .i t), (2, .fn (.func 85) [] []), (8, .i l.length), (9, .i x.1), (10, .i x.2)]) (fun _ => []) 0
    (fun x => x.1 ≤ x.2 ∧ x.2 ≤ l.length ∧ (∀ j, j < x.1 → c j < 0) ∧ ∀ j, x.2 ≤ j → j < l.length → 0 ≤ c j) (fun x => x.2 - x.1) (0, l.length) (fun _ => rfl) (by simp; omega) (by simp [go_sem]) (by simp [go_sem]) ?_
  rintro ⟨i, j⟩ J ⟨h1, h2, h3, h4⟩
  dsimp only at h1 h2 h3 h4
  simp [go_sem]
  split
  · rename_i hlt
    refine ⟨by omega, ?_⟩
    rw [mid_eq (by omega)]
    generalize hh : (i + j) / 2 = h
    have hb : i ≤ h ∧ h < j := by omega
    have hl : h < l.length := by omega
    have r0 := mrow hl 0
    have r1 := mrow hl 1
    have r2 := mrow hl 2
    simp [go_sem, r0, r1, r2]
    refine ⟨by omega, call_val (place85 l[h].id t l[h].x.c l[h].x.m) rfl rfl ?_⟩
    rw [← hc h hl]
    by_cases hcn : c h < 0
    · simp [go_sem, hcn]
      refine ⟨by omega, h + 1, j, ⟨by omega, h2, fun k hk => ?_, h4⟩, by omega, by simp⟩
      by_cases hkh : k = h
      · subst hkh; exact hcn
      · exact (cneg k (by omega)).2 (hm k h (by omega) hl ((cneg h hl).1 hcn) (by omega))
    · simp [go_sem, hcn]
      refine ⟨i, h, ⟨by omega, by omega, h3, fun k hk hkn => ?_⟩, by omega, by simp⟩
      by_cases hkh : k = h
      · subst hkh; omega
      · have h5 : ¬ c k < 0 := fun h6 => hcn ((cneg h hl).2 (hm h k (by omega) hkn ((cneg k hkn).1 h6) hl))
        omega
  · rename_i hge
    have hij : i = j := by omega
    subst hij
    have hbd := bnd_eq (c := c) h2 h3 h4
    by_cases hin : i < l.length
    · have r0 := mrow hin 0
      have r1 := mrow hin 1
      have r2 := mrow hin 2
      simp [go_sem, hin, r0, r1, r2]
      refine call_val (place85 l[i].id t l[i].x.c l[i].x.m) rfl rfl ?_
      rw [← hc i hin]
      simp [go_sem, hin, fnd, hbd]
    · simp [go_sem, hin, fnd, hbd]

def insR (get one : Nat → Nat → RV) (i : Nat) : Nat → Nat → RV := fun r c => if r < i then get r c else if r = i then one 0 c else get (r - 1) c
theorem insert97 (n i : Nat) (hn : n ≤ 1000000) (hi : i ≤ n) (get one : Nat → Nat → RV) :
    Own Try.prog 97 [.vec 75 3 n fun r c => .r (get r c), .vec 75 3 1 fun r c => .r (one r c)] [.sl 0 3 0 n none, .i i, .sl 1 3 0 1 none] (.sl 0 3 0 (n + 1) none) [.vec 75 3 (n + 1) fun r c => .r (insR get one i r c)] := by
  refine own_of_GC T_ok Try.func97 rfl (by kernel_rfl) (Nat.le_of_ble_eq_true rfl) rfl rfl ?_
  simp [go_sem]
  refine ⟨hi, ?_⟩
  by_cases hin : i = n
  · subst hin
    rw [if_pos rfl]
    refine ⟨by omega, [0], by simp, fun N => ⟨?_, ?_⟩⟩
    · simp [go_sem]
    · simp [go_sem]
      intro r c hr hc
      unfold joined insR
      by_cases h : r < i
      · rw [if_pos h, if_pos h]; rfl
      · rw [if_neg h, if_pos hr, if_neg h, if_pos (by omega), show r - i = 0 from by omega]; rfl
  rw [if_neg (by omega)]
  refine ⟨by omega, ?_⟩
  refine GOp_cap T_ok (ref := 0) (kk := 3) (n := n) (by simp [go_sem]) (M := memR _) rfl rfl (by simp [dOK]) ?_
  intro C hC _ hC2
  simp only [maxLen] at hC2
  by_cases hc : C < n + 1
  · have hc' : (C : Int) < (n : Int) + 1 := by omega
    left
    simp [go_sem, hc', hi]
    refine ⟨by omega, by omega, ⟨by omega, by omega, by omega⟩, by omega, ?_⟩
    refine GDraw_of T_ok (by kernel_rfl) 8 (by kernel_rfl) rfl rfl ?_
    simp [go_sem, hi]
    have e1 : i + (n + 1 - i) = n + 1 := by omega
    refine ⟨by omega, ⟨by omega, by omega⟩, by omega, [2], by simp, fun N => ⟨?_, ?_⟩⟩
    · simp [go_sem, e1]
    · simp [go_sem]
      refine ⟨by omega, fun r c hr hc => ?_⟩
      unfold insR joined
      repeat' split
      all_goals first | (exfalso; omega) | rfl | exact congrArg SV.r (congrFun (congrArg get (by omega)) _) | exact congrArg SV.r (congrFun (congrArg one (by omega)) _)
  · have hc' : ¬ (C : Int) < (n : Int) + 1 := by omega
    have hn1 : ¬ (n : Int) + 1 ≤ (n : Int) := by omega
    right
    simp [go_sem, hc', hi, hn1]
    refine ⟨by omega, ⟨by omega, by omega⟩, by omega, by omega, ?_⟩
    refine callK_apart T_ok Try.func115 (by kernel_rfl) (by kernel_rfl) (by kernel_rfl) (tS := 23) (tR := 4) (by kernel_rfl) (el := 75) rfl rfl (q := 1) (r := 0) (hq := rfl) (hr := rfl) (by decide) (by omega) (by omega) (by omega) ?_
    simp [go_sem, hi, hc']
    refine GDraw_of T_ok (by kernel_rfl) 8 (by kernel_rfl) rfl rfl ?_
    simp [go_sem, hi]
    refine ⟨by omega, by omega, by omega, ⟨by omega, by omega⟩, by omega, by omega, [0], by simp, fun N => ⟨?_, ?_⟩⟩
    · simp [go_sem]
    · simp [go_sem]
      refine ⟨by omega, fun r c hr hc => ?_⟩
      unfold insR
      repeat' split
      all_goals first | (exfalso; omega) | rfl | exact congrArg SV.r (congrFun (congrArg get (by omega)) _) | exact congrArg SV.r (congrFun (congrArg one (by omega)) _)

def chk (w : BitVec 64) (j : Nat) : BitVec 8 := to8 (shr64 w (8 * j))
theorem cellOf66 (x : IrG) (j : Nat) (hj : j < 8) : Pure Try.prog 66 [x.sv, .i j] (· = .agg [.y (chk x.m j), .y (chk x.c j)]) := by
  refine pure_of_GC T_ok Try.func66 rfl (by kernel_rfl) (Nat.le_of_ble_eq_true rfl) rfl rfl ?_
  simp [go_sem]
  refine GDraw_of T_ok (by kernel_rfl) 13 (by kernel_rfl) rfl rfl ?_
  have h1 : ((8 : Int) * j).toNat = 8 * j := by omega
  simp [go_sem, h1, fdiv_w, chk]
  omega

def insI (l : List Int) (id : Int) : List Int := l.take (bnd (fun i => l.getD i 0 - id) l.length) ++ id :: l.drop (bnd (fun i => l.getD i 0 - id) l.length)
/-- A posting: the bits of a chunk, and the numbers. -/
structure PsG where
  c : BitVec 8
  m : BitVec 8
  ids : List Int
abbrev irows (l : List Int) : Nat → Nat → RV := rowsL (fun a _ => RV.i a) l
def PsG.f (a : PsG) : Nat → RV
  | 0 => .y a.c
  | 1 => .y a.m
  | _ => .rs 1 a.ids.length (irows a.ids)
@[go_sem] theorem PsG.f0 (a : PsG) : a.f 0 = .y a.c := rfl
@[go_sem] theorem PsG.f1 (a : PsG) : a.f 1 = .y a.m := rfl
@[go_sem] theorem PsG.f2 (a : PsG) : a.f 2 = .rs 1 a.ids.length (irows a.ids) := rfl
abbrev prows (l : List PsG) : Nat → Nat → RV := rowsL PsG.f l
abbrev preg (l : List PsG) : Reg := .vec 75 3 l.length fun i j => .r (prows l i j)
theorem prow {l : List PsG} {i : Nat} (h : i < l.length) (j : Nat) : prows l i j = l[i].f j := rowsL_get (List.getElem?_eq_getElem h) j
/-- How the i-th posting and a cell compare. -/
def pcm (L : List PsG) (m c : BitVec 8) (i : Nat) : Int := match L[i]? with | some p => ordI p.m.toNat p.c.toNat m.toNat c.toNat | none => 0
structure Srt (L : List PsG) (m c : BitVec 8) (id : Int) : Prop where
  len : L.length ≤ 1000
  cells : ∀ a b, a < b → b < L.length → pcm L m c b < 0 → pcm L m c a < 0
  ids : ∀ p ∈ L, p.ids.length ≤ 1000 ∧ ∀ a b, a < b → b < p.ids.length → p.ids.getD b 0 < id → p.ids.getD a 0 < id
def pat (L : List PsG) (m c : BitVec 8) : Nat := bnd (pcm L m c) L.length
def pis (L : List PsG) (m c : BitVec 8) : Bool := fnd (pcm L m c) L.length
def addL (L : List PsG) (m c : BitVec 8) : List PsG := if pis L m c then L else L.take (pat L m c) ++ ⟨c, m, []⟩ :: L.drop (pat L m c)
def addP (L : List PsG) (m c : BitVec 8) (id : Int) : List PsG := (addL L m c).modify (pat L m c) fun p => { p with ids := insI p.ids id }
theorem pcm_at {L : List PsG} {m c : BitVec 8} {i : Nat} (h : i < L.length) : pcm L m c i = ordI L[i].m.toNat L[i].c.toNat m.toNat c.toNat := by
  unfold pcm; rw [List.getElem?_eq_getElem h]
theorem cl96 (L : List PsG) (m c : BitVec 8) (i : Nat) (h : i < L.length) : Pure Try.prog 96 [.agg [.r (prows L i 0), .r (prows L i 1), .r (prows L i 2)], .agg [.y m, .y c]] (· = .i (pcm L m c i)) := by
  rw [prow h 0, prow h 1, prow h 2, pcm_at h]
  exact compare96 _ _ _ _ _ _
theorem addL_at (L : List PsG) (m c : BitVec 8) : pat L m c < (addL L m c).length := by
  have h1 : pat L m c ≤ L.length := bnd_le
  unfold addL
  split
  · rename_i h
    unfold pis fnd at h
    simp only [Bool.and_eq_true, decide_eq_true_eq] at h
    exact h.1
  · simp; omega
theorem ins_rows (L : List PsG) (p : PsG) (k : Nat) (hk : k ≤ L.length) : insR (prows L) (prows [p]) k = prows (L.take k ++ p :: L.drop k) := by
  funext r c
  unfold insR prows rowsL
  rw [List.getElem?_append]
  have hl : (L.take k).length = k := by simp; omega
  rw [hl]
  by_cases h1 : r < k
  · rw [if_pos h1, if_pos h1, List.getElem?_take_of_lt h1]
  · rw [if_neg h1, if_neg h1]
    by_cases h2 : r = k
    · subst h2; simp
    · rw [if_neg h2]
      have e : r - k = (r - 1 - k) + 1 := by omega
      rw [e, List.getElem?_cons_succ, List.getElem?_drop]
      congr 2; congr 1; omega
theorem insert97' (L : List PsG) (p : PsG) (k : Nat) (hn : L.length ≤ 1000000) (hk : k ≤ L.length) :
    Own Try.prog 97 [preg L, .vec 75 3 1 fun i j => .r (prows [p] i j)] [.sl 0 3 0 L.length none, .i k, .sl 1 3 0 1 none] (.sl 0 3 0 (L.length + 1) none) [.vec 75 3 (L.length + 1) fun i j => .r (prows (L.take k ++ p :: L.drop k) i j)] := by
  rw [← ins_rows L p k hk]
  exact insert97 L.length k hn hk (prows L) (prows [p])
theorem ids_at {L : List PsG} {m c : BitVec 8} {id : Int} (h : Srt L m c id) : ∀ p ∈ addL L m c, p.ids.length ≤ 1000 ∧ ∀ a b, a < b → b < p.ids.length → p.ids.getD b 0 < id → p.ids.getD a 0 < id := by
  intro p hp
  unfold addL at hp
  split at hp
  · exact h.ids p hp
  · rcases List.mem_append.1 hp with h1 | h1
    · exact h.ids p (List.mem_of_mem_take h1)
    · rcases List.mem_cons.1 h1 with rfl | h1
      · simp
      · exact h.ids p (List.mem_of_mem_drop h1)
theorem mod_rows (L : List PsG) (k : Nat) (id : Int) (i j : Nat) : prows (L.modify k fun p => { p with ids := insI p.ids id }) i j = if h : i = k ∧ j = 2 ∧ k < L.length then .rs 1 (insI (L[k]'h.2.2).ids id).length (irows (insI (L[k]'h.2.2).ids id)) else if 2 < j then prows (L.modify k fun p => { p with ids := insI p.ids id }) i j else prows L i j := by
  split
  · rename_i h
    obtain ⟨rfl, rfl, h⟩ := h
    rw [prow (by simpa using h)]
    simp [PsG.f]
  · rename_i h
    split
    · rfl
    · unfold prows rowsL
      rw [List.getElem?_modify]
      by_cases hik : k = i
      · subst hik
        cases hg : L[k]? with
        | none => simp
        | some p =>
          have hk : k < L.length := (List.getElem?_eq_some_iff.1 hg).1
          simp only [if_true, Option.map_some]
          rcases (show j = 0 ∨ j = 1 by omega) with rfl | rfl <;> rfl
      · simp [hik]
theorem ins_cells (l : List Int) (id : Int) (q : Nat) (hq : q ≤ l.length) : ∀ a, a < l.length + 1 → irows (l.take q ++ id :: l.drop q) a 0 = if a < q then irows l a 0 else if a = q then .i id else irows l (a - 1) 0 := by
  intro a ha
  unfold irows rowsL
  rw [List.getElem?_append]
  have hl : (l.take q).length = q := by simp; omega
  rw [hl]
  by_cases h1 : a < q
  · rw [if_pos h1, if_pos h1, List.getElem?_take_of_lt h1]
  · rw [if_neg h1, if_neg h1]
    by_cases h2 : a = q
    · subst h2; simp
    · rw [if_neg h2]
      have e : a - q = (a - 1 - q) + 1 := by omega
      rw [e, List.getElem?_cons_succ, List.getElem?_drop]
      congr 2; congr 1; omega
theorem add80 (L : List PsG) (m c : BitVec 8) (id : Int) (h : Srt L m c id) : Own Try.prog 80 [preg L] [.sl 0 3 0 L.length none, .agg [.y m, .y c], .i id] (.sl 0 3 0 (addP L m c id).length none) [preg (addP L m c id)] := by
  refine own_of_GV T_ok Try.func80 rfl (by kernel_rfl) (Nat.le_of_ble_eq_true rfl) rfl rfl ?_
  have hlen := h.len
  simp [go_sem]
  refine call_lent (v := .tup [.i (pat L m c : Nat), .b (pis L m c)]) (by
    simp [go_sem]
    exact search95 L.length (by omega) (prows L) m c 96 [] rfl (pcm L m c) h.cells (fun i hi => cl96 L m c i hi)) rfl ?_
  have hle : pat L m c ≤ L.length := bnd_le
  have hat := addL_at L m c
  simp [go_sem]
  obtain ⟨L2, hL2⟩ : ∃ L2, addL L m c = L2 := ⟨_, rfl⟩
  have hids := ids_at h
  have hadd : addP L m c id = L2.modify (pat L m c) fun p => { p with ids := insI p.ids id } := by rw [← hL2]; rfl
  rw [hL2] at hat hids
  rw [hadd]
  generalize hk : pat L m c = k at *
  have hat' : (k : Int) < L2.length := by omega
  have r2 := prow hat 2
  obtain ⟨hi1, hi2⟩ := hids L2[k] (List.getElem_mem hat)
  have hsr := search98 L2[k].ids.length (by omega) (irows L2[k].ids) (fun i => L2[k].ids.getD i 0) (fun i hi => by unfold irows; rw [rowsL_get (List.getElem?_eq_getElem hi)]; simp [List.getD, List.getElem?_eq_getElem hi]) id hi2
  have hins : insI L2[k].ids id = L2[k].ids.take (bnd (fun i => L2[k].ids.getD i 0 - id) L2[k].ids.length) ++ id :: L2[k].ids.drop (bnd (fun i => L2[k].ids.getD i 0 - id) L2[k].ids.length) := rfl
  have hql : bnd (fun i => L2[k].ids.getD i 0 - id) L2[k].ids.length ≤ L2[k].ids.length := bnd_le
  generalize bnd (fun i => L2[k].ids.getD i 0 - id) L2[k].ids.length = q at *
  generalize fnd (fun i => L2[k].ids.getD i 0 - id) L2[k].ids.length = fb at *
  cases hp : pis L m c
  · have e2 : L2 = L.take k ++ ⟨c, m, []⟩ :: L.drop k := by rw [← hL2, ← hk]; unfold addL; rw [if_neg (by rw [hp]; simp)]
    have e3 : L.length + 1 = L2.length := by rw [e2]; simp; omega
    simp [go_sem]
    refine callK_wk (M' := memL [some (preg L), some (.box [.y m, .y c]), some (.vec 75 3 1 fun i j => .r (prows [⟨c, m, []⟩] i j))]) (fun r => ?_) (callK_own [0, 2] (insert97' L ⟨c, m, []⟩ k (by omega) hle) (by simp) rfl ?_ ?_)
    · rcases (show r = 0 ∨ r = 1 ∨ r = 2 ∨ 3 ≤ r by omega) with rfl | rfl | rfl | hr
      · exact .inl (Reg.sub_rfl _)
      · exact .inl (Reg.sub_rfl _)
      · refine Reg.wk_vec (Nat.le_refl _) fun i j hi hj => ?_
        obtain rfl : i = 0 := by omega
        rcases (show j = 0 ∨ j = 1 ∨ j = 2 by omega) with rfl | rfl | rfl
        · exact SV.sub_rfl _
        · exact SV.sub_rfl _
        · show SV.sub (.r (.v (.slice none 0 0))) (.r (.rs 1 0 _))
          simp [SV.sub, RV.sub]
      · have h1 : memL [some (preg L), some (.box [.y m, .y c]), some (.vec 75 3 1 fun i j => .r (prows [⟨c, m, []⟩] i j))] r = none := by
          unfold memL; rw [List.getElem?_eq_none (by simp; omega)]; rfl
        rw [h1]
        have h2 : memR [preg L] r = none := by rw [memR_get, List.getElem?_eq_none (by simp; omega)]
        rw [upd_ne _ _ (by omega), upd_ne _ _ (by omega), h2]
        exact .inl trivial
    · simp [go_sem]
    · rw [← e2, e3]
      simp [go_sem, hat, hat', r2]
      refine call_val hsr rfl rfl ?_
      simp [go_sem, hat, hat', r2]
      refine ⟨hql, ?_⟩
      refine GDraw_l (t := (.take 0 (.take 1 (.take 2 (.take 3 (.take 6 (.take 7 (.take 8 (.take 9 (.take 10 (.take 11 (.take 12 (.alt 4 [12, 11, 10, 9, 8, 7, 6, 3, 2, 1, 0] (.alt 5 [12, 11, 10, 9, 8, 7, 6, 2, 1, 0] (.alt 13 [12, 11, 10, 9, 8, 7, 6, 1, 0] (.take 14 (.take 15 (.alt 16 [15, 14, 11, 10, 9, 8, 7, 6, 1, 0] (.done [14]) .nil))) .nil) .nil) .nil))))))))))))) T_ok (by kernel_rfl) (by kernel_rfl) (by kernel_rfl) (fun _ _ _ _ ⟨_, _, _, _, h⟩ => h) ?_
      simp [go_sem, hat, hat', r2]
      refine ⟨by omega, by omega, by omega, by omega, vq_step (GSt.freeze 5 rfl) (vq_step (GSt.wk (M' := fun r => if r = 3 then some (preg (L2.modify k fun p => { p with ids := insI p.ids id })) else none) fun r => ?_) (vq_done ?_))⟩
      · by_cases hr : r = 3
        · subst hr
          refine Reg.wk_vec (by simp) fun i j hi hj => ?_
          rw [mod_rows]
          by_cases e : i = k ∧ j = 2
          · obtain ⟨rfl, rfl⟩ := e
            rw [dif_pos ⟨rfl, rfl, hat⟩, hins]
            have hlen2 : (L2[i].ids.take q ++ id :: L2[i].ids.drop q).length = q + 1 + (L2[i].ids.length - q) := by simp; omega
            rw [hlen2]
            simp [go_sem]
            intro a ha
            rw [ins_cells _ _ q hql a (by omega)]
            unfold joined
            by_cases c1 : a < q + 1
            · by_cases c2 : a < q
              · simp [c1, c2, go_sem]
              · have c3 : a - q = 0 := by omega
                have c4 : a = q := by omega
                simp [c1, c2, c3, c4, go_sem]
            · have c2 : ¬ a < q := by omega
              have c3 : ¬ a = q := by omega
              have c4 : q + (a - (q + 1)) = a - 1 := by omega
              simp [c1, c2, c3, c4, go_sem, ha]
          · rw [dif_neg (fun h => e ⟨h.1, h.2.1⟩), if_neg (by omega)]
            have e' : ¬ (i = k ∧ 2 ≤ j ∧ j < 3) := fun h => e ⟨h.1, by omega⟩
            simp [go_sem, e']
        · rw [if_neg hr]
          exact .inl (by simp [go_sem])
      · simp [go_sem]
        refine ⟨[3], by simp, fun N => ⟨by simp [go_sem], ?_⟩⟩
        simp [go_sem]
  · have hL : L = L2 := by rw [← hL2]; unfold addL; rw [if_pos hp]
    subst hL
    simp [go_sem, hat, hat', r2]
    refine call_val hsr rfl rfl ?_
    simp [go_sem, hat, hat', r2]
    refine ⟨hql, ?_⟩
    refine GDraw_l (t := (.take 0 (.take 1 (.take 2 (.take 3 (.take 6 (.take 7 (.take 8 (.take 9 (.take 10 (.take 11 (.take 12 (.alt 4 [12, 11, 10, 9, 8, 7, 6, 3, 2, 1, 0] (.alt 5 [12, 11, 10, 9, 8, 7, 6, 2, 1, 0] (.alt 13 [12, 11, 10, 9, 8, 7, 6, 1, 0] (.take 14 (.take 15 (.alt 16 [15, 14, 11, 10, 9, 8, 7, 6, 1, 0] (.done [14]) .nil))) .nil) .nil) .nil))))))))))))) T_ok (by kernel_rfl) (by kernel_rfl) (by kernel_rfl) (fun _ _ _ _ ⟨_, _, _, _, h⟩ => h) ?_
    simp [go_sem, hat, hat', r2]
    refine ⟨by omega, by omega, by omega, by omega, vq_step (GSt.freeze 3 rfl) (vq_step (GSt.wk (M' := memL [some (preg (L.modify k fun p => { p with ids := insI p.ids id }))]) fun r => ?_) (vq_done ?_))⟩
    · by_cases hr : r = 0
      · subst hr
        refine Reg.wk_vec (by simp) fun i j hi hj => ?_
        rw [mod_rows]
        by_cases e : i = k ∧ j = 2
        · obtain ⟨rfl, rfl⟩ := e
          rw [dif_pos ⟨rfl, rfl, hat⟩, hins]
          have hlen2 : (L[i].ids.take q ++ id :: L[i].ids.drop q).length = q + 1 + (L[i].ids.length - q) := by simp; omega
          rw [hlen2]
          simp [go_sem]
          intro a ha
          rw [ins_cells _ _ q hql a (by omega)]
          unfold joined
          by_cases c1 : a < q + 1
          · by_cases c2 : a < q
            · simp [c1, c2, go_sem]
            · have c3 : a - q = 0 := by omega
              have c4 : a = q := by omega
              simp [c1, c2, c3, c4, go_sem]
          · have c2 : ¬ a < q := by omega
            have c3 : ¬ a = q := by omega
            have c4 : q + (a - (q + 1)) = a - 1 := by omega
            simp [c1, c2, c3, c4, go_sem, ha]
        · rw [dif_neg (fun h => e ⟨h.1, h.2.1⟩), if_neg (by omega)]
          have e' : ¬ (i = k ∧ 2 ≤ j ∧ j < 3) := fun h => e ⟨h.1, by omega⟩
          simp [go_sem, e']
      · have : memL [some (preg (L.modify k fun p => { p with ids := insI p.ids id }))] r = none := by
          cases r with
          | zero => exact absurd rfl hr
          | succ r => rfl
        rw [this]
        exact .inl (by simp [go_sem])
    · simp [go_sem]
      refine ⟨[0], by simp, fun N => ⟨by simp [go_sem], ?_⟩⟩
      simp [go_sem]
end Go.Gx.Ix
