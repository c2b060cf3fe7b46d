/-
  Build, Check, place: frozen.
-/
import Derived.Test.YtdnblflhlklfnaaIk
import Derived.Test.YtdnblflhlklfnaaKs
set_option linter.unusedVariables false
set_option linter.unusedSimpArgs false
set_option maxRecDepth 20000
set_option maxHeartbeats 4000000
namespace Go.Gx.Ix
open Go.RowKit Go.Proofs Go.Proofs.Ytdnblflhlklfnaa

def RLe (x y : RV) : Prop := ∀ (Z : Nat → Prop) (w : World) (v : Value), x.rel Z w v → y.rel Z w v
theorem RLe_rfl {x : RV} : RLe x x := fun _ _ _ h => h
theorem RLe_eq {x y : RV} (h : x = y) : RLe x y := h ▸ RLe_rfl
theorem rle_rs {k n : Nat} {get get' : Nat → Nat → RV} (h : ∀ i j, i < n → j < k → RLe (get i j) (get' i j)) : RLe (RV.rs k n get) (.rs k n get') := by
  intro Z w y hy
  obtain ⟨A, c, h1, h2, h3⟩ := hy
  refine ⟨A, c, h1, h2, fun h0 => ?_⟩
  obtain ⟨b, o, h4, h5, h6⟩ := h3 h0
  refine ⟨b, o, h4, h5, fun i j hi hj => ?_⟩
  obtain ⟨v, e1, e2, e3⟩ := h6 i j hi hj
  exact ⟨v, e1, e2, h i j hi hj _ _ _ e3⟩
theorem le_r {x y : RV} (h : RLe x y) : (SV.r x).le (.r y) := fun Z w v hv => h Z w v hv
theorem le_agg {l l' : List SV} (h : leL l l') : (SV.agg l).le (.agg l') := fun Z w y hy => by
  obtain ⟨vs, e, h1, h2⟩ := hy
  exact ⟨vs, e, h1, leL_rel _ _ _ h h2⟩
theorem le_tup {l l' : List SV} (h : leL l l') : (SV.tup l).le (.tup l') := fun Z w y hy => by
  obtain ⟨vs, e, h2⟩ := hy
  exact ⟨vs, e, leL_rel _ _ _ h h2⟩
theorem pure_ofLe {P : Program} {f : FuncId} {args : List SV} {v : SV} (h : Pure P f args fun s => s.le v) : Pure P f args (· = v) := by
  intro Z w vs hz ha
  obtain ⟨h1, h2⟩ := h Z w vs hz ha
  refine ⟨h1, h2.mono fun e w' h => ?_⟩
  obtain ⟨y, s, a, b, c, d⟩ := h
  exact ⟨y, v, a, rfl, b _ _ _ c, d⟩
theorem pure_le {P : Program} {f : FuncId} {args : List SV} {u v : SV} (h : Pure P f args (· = u)) (hl : u.le v) : Pure P f args (· = v) := pure_ofLe (h.mono fun s e => e ▸ hl)
theorem nil_rs (k : Nat) (get : Nat → Nat → RV) : RLe (.v (.slice none 0 0)) (.rs k 0 get) := by
  intro Z w y hy
  have hy : y = .slice none 0 0 := hy
  subst hy
  exact ⟨none, 0, rfl, Nat.le_refl _, fun h => absurd h (Nat.lt_irrefl 0)⟩
/-- Two neighbours have one number. -/
def dupM (ms : List MbG) : Bool := (List.range ms.length).any fun i => decide (1 ≤ i) && decide (ms[i]!.id = ms[i - 1]!.id)
def buildE (l : List MbG) : Int := if 256 < l.length then 4 else if l.any (fun a => !okN a.id) then 2 else if l.any (fun a => !a.x.ok) then 30 else if dupM (srtM l) then 41 else 0
def IxG.zero : IxG := ⟨[], fun _ => []⟩
def buildX (l : List MbG) : IxG := if buildE l = 0 then ofG l else IxG.zero
abbrev nilX : SV := .agg [nilS, nilS, nilS, nilS, nilS, nilS, nilS, nilS, nilS]
theorem nil_zero : nilX.le IxG.zero.sv := le_agg ⟨le_r (nil_rs 3 _), le_r (nil_rs 3 _), le_r (nil_rs 3 _), le_r (nil_rs 3 _), le_r (nil_rs 3 _), le_r (nil_rs 3 _), le_r (nil_rs 3 _), le_r (nil_rs 3 _), le_r (nil_rs 3 _), trivial⟩
theorem build16' (l : List MbG) (hn : l.length ≤ 1000) : Pure Try.prog 16 [mrs l] (· = .tup [if buildE l = 0 then (ofG l).sv else nilX, .i (buildE l)]) := by
  obtain ⟨e, he⟩ : ∃ e, buildE l = e := ⟨_, rfl⟩
  rw [he]
  refine pure_of_GC T_ok Try.func16 rfl (by kernel_rfl) (Nat.le_of_ble_eq_true rfl) rfl rfl ?_
  simp [go_sem]
  by_cases h1 : 256 < l.length
  · have h1' : (256 : Int) < l.length := by omega
    have e4 : e = 4 := by rw [← he, buildE, if_pos h1]
    subst e4
    simp [go_sem, h1, h1']
  have h1' : ¬ (256 : Int) < l.length := by omega
  simp [go_sem, h1, h1']
  refine call_val (contains47 l (by omega) 48 (fun a => !okN a.id) build48) rfl rfl ?_
  cases h2 : l.any fun a => !okN a.id
  rotate_left
  · have e4 : e = 2 := by rw [← he, buildE, if_neg h1, if_pos h2]
    subst e4
    simp [go_sem]
  simp [go_sem]
  refine call_val (contains47 l (by omega) 50 (fun a => !a.x.ok) build50) rfl rfl ?_
  cases h3 : l.any fun a => !a.x.ok
  rotate_left
  · have e4 : e = 30 := by rw [← he, buildE, if_neg h1, if_neg (by rw [h2]; simp), if_pos h3]
    subst e4
    simp [go_sem]
  simp [go_sem]
  refine call_val (of52p l hn) rfl rfl ?_
  have hl := (srtM_spec l).2.1
  obtain ⟨x, hx⟩ : ∃ x, ofG l = x := ⟨_, rfl⟩
  have hms : x.ms = srtM l := by rw [← hx]; rfl
  have he2 : e = if dupM x.ms then 41 else 0 := by rw [← he, buildE, if_neg h1, if_neg (by rw [h2]; simp), if_neg (by rw [h3]; simp), hms]
  rw [hx]
  rw [← hms] at hl
  simp [go_sem, IxG.sv]
  refine GLoop_of T_ok (α := Nat) (fun k => [(2, .ptr 0 0 9 0), (3, .i 0), (4, .ptr 1 0 9 0), (5, .i ((k : Int) + 1))])
    (fun k => [some (.box [nilS, nilS, nilS, nilS, nilS, nilS, nilS, nilS, nilS]), some (.box [mrs x.ms, pls (x.ch 0), pls (x.ch 1), pls (x.ch 2), pls (x.ch 3), pls (x.ch 4), pls (x.ch 5), pls (x.ch 6), pls (x.ch 7)])]) 2
    (fun k => k ≤ x.ms.length ∧ ∀ j, j < k → ∀ (h1 : j + 1 < x.ms.length), ¬ x.ms[j + 1].id = x.ms[j].id) (fun k => x.ms.length - k) 0 (fun _ => rfl) (by simp) (by simp [go_sem]) (by simp [go_sem]) ?_
  intro k J hk
  by_cases hlt : k + 1 < x.ms.length
  · have hlt' : (k : Int) + 1 < x.ms.length := by omega
    have r0 := mrow hlt 0
    have q0 := mrow (by omega : k < x.ms.length) 0
    simp [go_sem, hlt, hlt']
    refine GDraw_all T_ok (by kernel_rfl) (by kernel_rfl) ?_
    simp [go_sem, hlt, hlt', r0, q0]
    refine ⟨by omega, by omega, by omega, ?_⟩
    by_cases heq : x.ms[k + 1].id = x.ms[k].id
    · rw [if_pos heq]
      have e4 : e = 41 := by
        rw [he2, if_pos]
        refine List.any_eq_true.2 ⟨k + 1, List.mem_range.2 hlt, ?_⟩
        rw [getElem!_pos x.ms (k + 1) hlt, getElem!_pos x.ms (k + 1 - 1) (by omega)]
        simpa using heq
      rw [e4]; simp
    · rw [if_neg heq]
      refine ⟨by omega, k + 1, ⟨by omega, fun j hj h1 => ?_⟩, by omega, by omega⟩
      by_cases e : j = k
      · subst e; exact heq
      · exact hk.2 j (by omega) h1
  · have hlt' : ¬ (k : Int) + 1 < x.ms.length := by omega
    have e0 : e = 0 := by
      rw [he2, if_neg]
      intro hd
      obtain ⟨i, hi, hq⟩ := List.any_eq_true.1 hd
      have hi := List.mem_range.1 hi
      simp only [Bool.and_eq_true, decide_eq_true_eq] at hq
      obtain ⟨h1, h2⟩ := hq
      obtain ⟨i, rfl⟩ : ∃ i', i = i' + 1 := ⟨i - 1, by omega⟩
      rw [getElem!_pos x.ms (i + 1) hi, getElem!_pos x.ms (i + 1 - 1) (by omega)] at h2
      exact hk.2 i (by omega) hi (by simpa using h2)
    subst e0
    simp [go_sem, hlt, hlt']
theorem build16 (l : List MbG) (hn : l.length ≤ 1000) : Pure Try.prog 16 [mrs l] (· = .tup [(buildX l).sv, .i (buildE l)]) := by
  refine pure_le (build16' l hn) (le_tup ⟨?_, SV.le.rfl, trivial⟩)
  unfold buildX
  split
  · exact SV.le.rfl
  · exact nil_zero
structure IxG.Sm (x : IxG) : Prop where
  ms : x.ms.length ≤ 1000
  ch : ∀ j, j < 8 → (x.ch j).length ≤ 1000000 ∧ ∀ p ∈ x.ch j, p.ids.length ≤ 1000000
def validX (x : IxG) : Bool := decide (buildE x.ms = 0) && decide (x.ms = (ofG x.ms).ms) && (List.range 8).all fun j => decide (x.ch j = (ofG x.ms).ch j)
def checkE (x : IxG) : Int := if validX x then 0 else 40
theorem check19 (x : IxG) (h : x.Sm) : Pure Try.prog 19 [x.sv] (· = .i (checkE x)) := by
  refine pure_of_GC T_ok Try.func19 rfl (by kernel_rfl) (Nat.le_of_ble_eq_true rfl) rfl rfl ?_
  obtain ⟨e, he⟩ : ∃ e, checkE x = e := ⟨_, rfl⟩
  rw [he]
  simp [go_sem, IxG.sv]
  refine call_val (build16 x.ms h.ms) rfl rfl ?_
  obtain ⟨y, hy⟩ : ∃ y, buildX x.ms = y := ⟨_, rfl⟩
  obtain ⟨f, hf⟩ : ∃ f, buildE x.ms = f := ⟨_, rfl⟩
  rw [hy, hf]
  simp [go_sem, IxG.sv]
  by_cases h0 : f = 0
  rotate_left
  · have e4 : e = 40 := by rw [← he, checkE, validX, hf]; simp [h0]
    subst e4
    simp [go_sem, h0]
  subst h0
  have hyo : y = ofG x.ms := by rw [← hy, buildX, if_pos hf]
  simp [go_sem]
  refine call_val (equal56 x.ms y.ms (by have := h.ms; omega)) rfl rfl ?_
  by_cases h1 : x.ms = y.ms
  rotate_left
  · have e4 : e = 40 := by rw [← he, checkE, validX, ← hyo]; simp [h1]
    subst e4
    simp [go_sem, h1]
  have he2 : e = if (List.range 8).all fun j => decide (x.ch j = y.ch j) then 0 else 40 := by rw [← he, checkE, validX, hf, ← hyo]; simp [h1]
  simp [go_sem, h1]
  have hbad : ∀ j, j < 8 → ¬ x.ch j = y.ch j → e = 40 := fun j hj hne => by
    rw [he2, if_neg]
    intro h
    exact hne (by simpa using List.all_eq_true.1 h j (List.mem_range.2 hj))
  refine GLoop_of T_ok (α := Nat) (fun k => [(1, .ptr 0 0 9 0), (2, .i 0), (3, .ptr 1 0 9 0), (22, .i k)])
    (fun k => [some (.box [mrs y.ms, pls (x.ch 0), pls (x.ch 1), pls (x.ch 2), pls (x.ch 3), pls (x.ch 4), pls (x.ch 5), pls (x.ch 6), pls (x.ch 7)]), some (.box [mrs y.ms, pls (y.ch 0), pls (y.ch 1), pls (y.ch 2), pls (y.ch 3), pls (y.ch 4), pls (y.ch 5), pls (y.ch 6), pls (y.ch 7)])]) 2
    (fun k => k ≤ 8 ∧ ∀ j, j < k → x.ch j = y.ch j) (fun k => 8 - k) 0 (fun _ => rfl) (by simp) (by simp [go_sem]) (by simp [go_sem, h1]) ?_
  intro k J hk
  rcases (show k = 0 ∨ k = 1 ∨ k = 2 ∨ k = 3 ∨ k = 4 ∨ k = 5 ∨ k = 6 ∨ k = 7 ∨ k = 8 by omega) with rfl | rfl | rfl | rfl | rfl | rfl | rfl | rfl | rfl
  · simp [go_sem]
    refine GDraw_l (t := (.take 0 (.take 1 (.take 2 (.take 3 (.take 4 (.take 5 (.take 6 (.take 7 (.alt 8 [7, 6, 5, 4, 3, 2, 1, 0] (.take 9 (.done [9, 6, 5, 4, 2, 1, 0])) .nil)))))))))) T_ok (by kernel_rfl) (by kernel_rfl) (by kernel_rfl) (fun _ _ _ _ h => h) ?_
    simp [go_sem]
    refine call_val (equal57 (x.ch 0) (y.ch 0) (by have := (h.ch 0 (by omega)).1; omega) fun p hp => by have := (h.ch 0 (by omega)).2 p hp; omega) rfl rfl ?_
    by_cases hc : x.ch 0 = y.ch 0
    · simp [go_sem, hc]
      refine ⟨1, ⟨by omega, fun j hj => ?_⟩, by omega, by omega⟩
      by_cases e : j = 0
      · subst e; exact hc
      · exact hk.2 j (by omega)
    · have e4 := hbad 0 (by omega) hc
      subst e4
      simp [go_sem, hc]
  · simp [go_sem]
    refine GDraw_l (t := (.take 0 (.take 1 (.take 2 (.take 3 (.take 4 (.take 5 (.take 6 (.take 7 (.alt 8 [7, 6, 5, 4, 3, 2, 1, 0] (.take 9 (.done [9, 6, 5, 4, 2, 1, 0])) .nil)))))))))) T_ok (by kernel_rfl) (by kernel_rfl) (by kernel_rfl) (fun _ _ _ _ h => h) ?_
    simp [go_sem]
    refine call_val (equal57 (x.ch 1) (y.ch 1) (by have := (h.ch 1 (by omega)).1; omega) fun p hp => by have := (h.ch 1 (by omega)).2 p hp; omega) rfl rfl ?_
    by_cases hc : x.ch 1 = y.ch 1
    · simp [go_sem, hc]
      refine ⟨2, ⟨by omega, fun j hj => ?_⟩, by omega, by omega⟩
      by_cases e : j = 1
      · subst e; exact hc
      · exact hk.2 j (by omega)
    · have e4 := hbad 1 (by omega) hc
      subst e4
      simp [go_sem, hc]
  · simp [go_sem]
    refine GDraw_l (t := (.take 0 (.take 1 (.take 2 (.take 3 (.take 4 (.take 5 (.take 6 (.take 7 (.alt 8 [7, 6, 5, 4, 3, 2, 1, 0] (.take 9 (.done [9, 6, 5, 4, 2, 1, 0])) .nil)))))))))) T_ok (by kernel_rfl) (by kernel_rfl) (by kernel_rfl) (fun _ _ _ _ h => h) ?_
    simp [go_sem]
    refine call_val (equal57 (x.ch 2) (y.ch 2) (by have := (h.ch 2 (by omega)).1; omega) fun p hp => by have := (h.ch 2 (by omega)).2 p hp; omega) rfl rfl ?_
    by_cases hc : x.ch 2 = y.ch 2
    · simp [go_sem, hc]
      refine ⟨3, ⟨by omega, fun j hj => ?_⟩, by omega, by omega⟩
      by_cases e : j = 2
      · subst e; exact hc
      · exact hk.2 j (by omega)
    · have e4 := hbad 2 (by omega) hc
      subst e4
      simp [go_sem, hc]
  · simp [go_sem]
    refine GDraw_l (t := (.take 0 (.take 1 (.take 2 (.take 3 (.take 4 (.take 5 (.take 6 (.take 7 (.alt 8 [7, 6, 5, 4, 3, 2, 1, 0] (.take 9 (.done [9, 6, 5, 4, 2, 1, 0])) .nil)))))))))) T_ok (by kernel_rfl) (by kernel_rfl) (by kernel_rfl) (fun _ _ _ _ h => h) ?_
    simp [go_sem]
    refine call_val (equal57 (x.ch 3) (y.ch 3) (by have := (h.ch 3 (by omega)).1; omega) fun p hp => by have := (h.ch 3 (by omega)).2 p hp; omega) rfl rfl ?_
    by_cases hc : x.ch 3 = y.ch 3
    · simp [go_sem, hc]
      refine ⟨4, ⟨by omega, fun j hj => ?_⟩, by omega, by omega⟩
      by_cases e : j = 3
      · subst e; exact hc
      · exact hk.2 j (by omega)
    · have e4 := hbad 3 (by omega) hc
      subst e4
      simp [go_sem, hc]
  · simp [go_sem]
    refine GDraw_l (t := (.take 0 (.take 1 (.take 2 (.take 3 (.take 4 (.take 5 (.take 6 (.take 7 (.alt 8 [7, 6, 5, 4, 3, 2, 1, 0] (.take 9 (.done [9, 6, 5, 4, 2, 1, 0])) .nil)))))))))) T_ok (by kernel_rfl) (by kernel_rfl) (by kernel_rfl) (fun _ _ _ _ h => h) ?_
    simp [go_sem]
    refine call_val (equal57 (x.ch 4) (y.ch 4) (by have := (h.ch 4 (by omega)).1; omega) fun p hp => by have := (h.ch 4 (by omega)).2 p hp; omega) rfl rfl ?_
    by_cases hc : x.ch 4 = y.ch 4
    · simp [go_sem, hc]
      refine ⟨5, ⟨by omega, fun j hj => ?_⟩, by omega, by omega⟩
      by_cases e : j = 4
      · subst e; exact hc
      · exact hk.2 j (by omega)
    · have e4 := hbad 4 (by omega) hc
      subst e4
      simp [go_sem, hc]
  · simp [go_sem]
    refine GDraw_l (t := (.take 0 (.take 1 (.take 2 (.take 3 (.take 4 (.take 5 (.take 6 (.take 7 (.alt 8 [7, 6, 5, 4, 3, 2, 1, 0] (.take 9 (.done [9, 6, 5, 4, 2, 1, 0])) .nil)))))))))) T_ok (by kernel_rfl) (by kernel_rfl) (by kernel_rfl) (fun _ _ _ _ h => h) ?_
    simp [go_sem]
    refine call_val (equal57 (x.ch 5) (y.ch 5) (by have := (h.ch 5 (by omega)).1; omega) fun p hp => by have := (h.ch 5 (by omega)).2 p hp; omega) rfl rfl ?_
    by_cases hc : x.ch 5 = y.ch 5
    · simp [go_sem, hc]
      refine ⟨6, ⟨by omega, fun j hj => ?_⟩, by omega, by omega⟩
      by_cases e : j = 5
      · subst e; exact hc
      · exact hk.2 j (by omega)
    · have e4 := hbad 5 (by omega) hc
      subst e4
      simp [go_sem, hc]
  · simp [go_sem]
    refine GDraw_l (t := (.take 0 (.take 1 (.take 2 (.take 3 (.take 4 (.take 5 (.take 6 (.take 7 (.alt 8 [7, 6, 5, 4, 3, 2, 1, 0] (.take 9 (.done [9, 6, 5, 4, 2, 1, 0])) .nil)))))))))) T_ok (by kernel_rfl) (by kernel_rfl) (by kernel_rfl) (fun _ _ _ _ h => h) ?_
    simp [go_sem]
    refine call_val (equal57 (x.ch 6) (y.ch 6) (by have := (h.ch 6 (by omega)).1; omega) fun p hp => by have := (h.ch 6 (by omega)).2 p hp; omega) rfl rfl ?_
    by_cases hc : x.ch 6 = y.ch 6
    · simp [go_sem, hc]
      refine ⟨7, ⟨by omega, fun j hj => ?_⟩, by omega, by omega⟩
      by_cases e : j = 6
      · subst e; exact hc
      · exact hk.2 j (by omega)
    · have e4 := hbad 6 (by omega) hc
      subst e4
      simp [go_sem, hc]
  · simp [go_sem]
    refine GDraw_l (t := (.take 0 (.take 1 (.take 2 (.take 3 (.take 4 (.take 5 (.take 6 (.take 7 (.alt 8 [7, 6, 5, 4, 3, 2, 1, 0] (.take 9 (.done [9, 6, 5, 4, 2, 1, 0])) .nil)))))))))) T_ok (by kernel_rfl) (by kernel_rfl) (by kernel_rfl) (fun _ _ _ _ h => h) ?_
    simp [go_sem]
    refine call_val (equal57 (x.ch 7) (y.ch 7) (by have := (h.ch 7 (by omega)).1; omega) fun p hp => by have := (h.ch 7 (by omega)).2 p hp; omega) rfl rfl ?_
    by_cases hc : x.ch 7 = y.ch 7
    · simp [go_sem, hc]
      refine ⟨8, ⟨by omega, fun j hj => ?_⟩, by omega, by omega⟩
      by_cases e : j = 7
      · subst e; exact hc
      · exact hk.2 j (by omega)
    · have e4 := hbad 7 (by omega) hc
      subst e4
      simp [go_sem, hc]
  · have e0 : e = 0 := by
      rw [he2, if_pos]
      exact List.all_eq_true.2 fun j hj => by simpa using hk.2 j (List.mem_range.1 hj)
    subst e0
    simp [go_sem]
end Go.Gx.Ix
