/-
  Numbers, ContainsFunc of members, Equal of members, of numbers and of postings.
-/
import Derived.Test.YtdnblflhlklfnaaIj
set_option linter.unusedVariables false
set_option linter.unusedSimpArgs false
set_option maxRecDepth 20000
set_option maxHeartbeats 4000000
namespace Go.Gx.Ix
open Go.RowKit Go.Proofs Go.Proofs.Ytdnblflhlklfnaa

deriving instance DecidableEq for IrG
deriving instance DecidableEq for MbG
deriving instance DecidableEq for PsG
def okN (id : Int) : Bool := btw 0 1073741824 id
theorem number49 (id : Int) : Pure Try.prog 49 [.i id] (· = .b (okN id)) := by
  refine pure_of_GC T_ok Try.func49 rfl (by kernel_rfl) (Nat.le_of_ble_eq_true rfl) rfl rfl ?_
  by_cases h : 0 ≤ id <;> simp [go_sem, okN, btw, h]
theorem build48 (a : MbG) : Pure Try.prog 48 [a.sv] (· = .b (!okN a.id)) := by
  refine pure_of_GC T_ok Try.func48 rfl (by kernel_rfl) (Nat.le_of_ble_eq_true rfl) rfl rfl ?_
  simp [go_sem]
  refine call_val (number49 a.id) rfl rfl ?_
  simp [go_sem]
theorem build50 (a : MbG) : Pure Try.prog 50 [a.sv] (· = .b (!a.x.ok)) := by
  refine pure_of_GC T_ok Try.func50 rfl (by kernel_rfl) (Nat.le_of_ble_eq_true rfl) rfl rfl ?_
  simp [go_sem]
  refine call_val (check51 a.x.c a.x.m) rfl rfl ?_
  cases h : vI a.x.c a.x.m <;> simp [go_sem, IrG.ok, h]
/-- Where the first is, or -1. -/
def ixB (p : Nat → Bool) (n : Nat) : Int := match (List.range n).find? p with | some i => (i : Int) | none => -1
theorem ixB_at {p : Nat → Bool} {n k : Nat} (hk : k < n) (h : p k = true) (hj : ∀ j, j < k → p j = false) : ixB p n = k := by
  have : (List.range n).find? p = some k := by
    rw [List.find?_range_eq_some]
    exact ⟨h, List.mem_range.2 hk, fun j a => by rw [hj j a]; rfl⟩
  rw [ixB, this]
theorem ixB_no {p : Nat → Bool} {n : Nat} (h : ∀ j, j < n → p j = false) : ixB p n = -1 := by
  have : (List.range n).find? p = none := by
    rw [List.find?_eq_none]
    intro j hj
    rw [h j (List.mem_range.1 hj)]; simp
  rw [ixB, this]
theorem ixB_any {p : Nat → Bool} {n : Nat} : decide (0 ≤ ixB p n) = (List.range n).any p := by
  unfold ixB
  cases h : (List.range n).find? p with
  | none =>
    have h' := List.find?_eq_none.1 h
    have : (List.range n).any p = false := by
      rw [List.any_eq_false]; exact h'
    rw [this]; rfl
  | some i =>
    have h1 := List.find?_range_eq_some.1 h
    have : (List.range n).any p = true := List.any_eq_true.2 ⟨i, h1.2.1, h1.1⟩
    rw [this]; simp
theorem index75 (n : Nat) (hn : n ≤ 1000000000) (get : Nat → Nat → RV) (g : FuncId) (ca : List SV) (hca : SV.closedL ca = true) (p : Nat → Bool)
    (hp : ∀ i, i < n → Pure Try.prog g (.agg [.r (get i 0), .r (get i 1), .r (get i 2)] :: ca) (· = .b (p i))) : Pure Try.prog 75 [.r (.rs 3 n get), .fn (.func g) [] ca] (· = .i (ixB p n)) := by
  refine pure_of_GC T_ok Try.func75 rfl (by kernel_rfl) (Nat.le_of_ble_eq_true rfl) rfl rfl ?_
  simp [go_sem]
  refine GLoop_of T_ok (α := Nat) (fun x => [(0, .r (.rs 3 n get)), (1, .fn (.func g) [] ca), (7, .i n), (8, .i x)]) (fun _ => []) 0 (fun x => x ≤ n ∧ ∀ j, j < x → p j = false) (fun x => n - x) 0 (fun _ => rfl) (by simp) (by simp [go_sem, SV.trimL_closed _ _ hca]) (by simp [go_sem]) ?_
  intro x J hi
  by_cases hlt : x < n
  · simp [go_sem, hlt]
    refine call_val (hp x hlt) (by simp [go_sem, hca]) rfl ?_
    by_cases hb : p x = true
    · simp [go_sem, hb]
      exact (ixB_at hlt hb hi.2).symm
    · have hb' : p x = false := by simpa using hb
      simp [go_sem, hb', SV.trimL_closed _ _ hca]
      refine ⟨by omega, x + 1, ⟨by omega, fun j hj => ?_⟩, by omega, by omega⟩
      by_cases hjx : j = x
      · subst hjx; exact hb'
      · exact hi.2 j (by omega)
  · simp [go_sem, hlt]
    exact (ixB_no fun j hj => hi.2 j (by omega)).symm
theorem contains47' (n : Nat) (hn : n ≤ 1000000000) (get : Nat → Nat → RV) (g : FuncId) (ca : List SV) (hca : SV.closedL ca = true) (p : Nat → Bool)
    (hp : ∀ i, i < n → Pure Try.prog g (.agg [.r (get i 0), .r (get i 1), .r (get i 2)] :: ca) (· = .b (p i))) : Pure Try.prog 47 [.r (.rs 3 n get), .fn (.func g) [] ca] (· = .b ((List.range n).any p)) := by
  refine pure_of_GC T_ok Try.func47 rfl (by kernel_rfl) (Nat.le_of_ble_eq_true rfl) rfl rfl ?_
  simp [go_sem]
  refine call_val (index75 n hn get g ca hca p hp) (by simp [go_sem, hca]) rfl ?_
  simp [go_sem, ixB_any]
theorem any_range {α : Type} [Inhabited α] (l : List α) (q : α → Bool) : ((List.range l.length).any fun i => q l[i]!) = l.any q := by
  rw [Bool.eq_iff_iff, List.any_eq_true, List.any_eq_true]
  constructor
  · rintro ⟨i, hi, h⟩
    have hi := List.mem_range.1 hi
    rw [getElem!_pos l i hi] at h
    exact ⟨_, List.getElem_mem hi, h⟩
  · rintro ⟨a, ha, h⟩
    obtain ⟨i, hi, rfl⟩ := List.mem_iff_getElem.1 ha
    exact ⟨i, List.mem_range.2 hi, by rw [getElem!_pos l i hi]; exact h⟩
theorem contains47 (l : List MbG) (hn : l.length ≤ 1000000000) (g : FuncId) (q : MbG → Bool) (hp : ∀ a : MbG, Pure Try.prog g [a.sv] (· = .b (q a))) : Pure Try.prog 47 [mrs l, .fn (.func g) [] []] (· = .b (l.any q)) := by
  rw [← any_range l q]
  refine contains47' l.length hn (mrows l) g [] rfl (fun i => q l[i]!) fun i hi => ?_
  rw [mrow hi 0, mrow hi 1, mrow hi 2, getElem!_pos l i hi]
  exact hp l[i]
theorem eq_of_all {α : Type} {l l' : List α} (h : l.length = l'.length) (e : ∀ j (h1 : j < l.length) (h2 : j < l'.length), l[j] = l'[j]) : l = l' := List.ext_getElem h fun j h1 h2 => e j h1 h2
theorem equal56 (l l' : List MbG) (hn : l.length ≤ 1000000000) : Pure Try.prog 56 [mrs l, mrs l'] (· = .b (decide (l = l'))) := by
  refine pure_of_GC T_ok Try.func56 rfl (by kernel_rfl) (Nat.le_of_ble_eq_true rfl) rfl rfl ?_
  simp [go_sem]
  by_cases h : l.length = l'.length
  rotate_left
  · have h' : ¬ l = l' := fun e => h (by rw [e])
    simp [go_sem, h, h']
    try omega
  simp [go_sem, h]
  have hn' : l'.length ≤ 1000000000 := by omega
  refine GLoop_of T_ok (α := Nat) (fun k => [(0, .r (.rs 3 l'.length (mrows l))), (1, mrs l'), (12, .i l'.length), (13, .i k)]) (fun _ => []) 0 (fun k => k ≤ l'.length ∧ ∀ j, j < k → ∀ (h1 : j < l.length) (h2 : j < l'.length), l[j] = l'[j]) (fun k => l'.length - k) 0 (fun _ => rfl) (by simp) (by simp [go_sem, h]) (by simp [go_sem]) ?_
  intro k J hi
  by_cases hlt : k < l'.length
  · simp [go_sem, hlt]
    have hlt1 : k < l.length := by omega
    have r0 := mrow hlt1 0
    have r1 := mrow hlt1 1
    have r2 := mrow hlt1 2
    have q0 := mrow hlt 0
    have q1 := mrow hlt 1
    have q2 := mrow hlt 2
    refine GDraw_all T_ok (by kernel_rfl) (by kernel_rfl) ?_
    simp [go_sem, hlt, r0, r1, r2, q0, q1, q2]
    have hiff : l[k] = l'[k] ↔ l[k].id = l'[k].id ∧ l[k].x.c.toNat = l'[k].x.c.toNat ∧ l[k].x.m.toNat = l'[k].x.m.toNat := by
      rw [BitVec.toNat_inj, BitVec.toNat_inj]
      obtain ⟨a, c, m⟩ := l[k]
      obtain ⟨a', c', m'⟩ := l'[k]
      simp
    by_cases he : l[k] = l'[k]
    · have he' := hiff.1 he
      simp [go_sem, he'.1, he'.2.1, he'.2.2]
      refine ⟨by omega, k + 1, ⟨by omega, fun j hj h1 h2 => ?_⟩, by omega, by omega⟩
      by_cases hjk : j = k
      · subst hjk; exact he
      · exact hi.2 j (by omega) h1 h2
    · have he' : ¬ (l[k].id = l'[k].id ∧ l[k].x.c.toNat = l'[k].x.c.toNat ∧ l[k].x.m.toNat = l'[k].x.m.toNat) := fun q => he (hiff.2 q)
      have hne : ¬ l = l' := fun e => he (by simp [e])
      simp [go_sem, hne]
      intro e1 e2 e3
      exact absurd ⟨e1, by omega, by omega⟩ he'
  · simp [go_sem, hlt]
    exact eq_of_all h fun j h1 h2 => hi.2 j (by omega) h1 h2
theorem irow {l : List Int} {i : Nat} (h : i < l.length) (j : Nat) : irows l i j = .i l[i] := by unfold irows; rw [rowsL_get (List.getElem?_eq_getElem h)]
abbrev ils (l : List Int) : SV := .r (.rs 1 l.length (irows l))
theorem equal83 (l l' : List Int) (hn : l.length ≤ 1000000000) : Pure Try.prog 83 [ils l, ils l'] (· = .b (decide (l = l'))) := by
  refine pure_of_GC T_ok Try.func83 rfl (by kernel_rfl) (Nat.le_of_ble_eq_true rfl) rfl rfl ?_
  simp [go_sem]
  by_cases h : l.length = l'.length
  rotate_left
  · have h' : ¬ l = l' := fun e => h (by rw [e])
    simp [go_sem, h, h']
    try omega
  simp [go_sem, h]
  have hn' : l'.length ≤ 1000000000 := by omega
  refine GLoop_of T_ok (α := Nat) (fun k => [(0, .r (.rs 1 l'.length (irows l))), (1, ils l'), (12, .i l'.length), (13, .i k)]) (fun _ => []) 0 (fun k => k ≤ l'.length ∧ ∀ j, j < k → ∀ (h1 : j < l.length) (h2 : j < l'.length), l[j] = l'[j]) (fun k => l'.length - k) 0 (fun _ => rfl) (by simp) (by simp [go_sem, h]) (by simp [go_sem]) ?_
  intro k J hi
  by_cases hlt : k < l'.length
  · simp [go_sem, hlt]
    have hlt1 : k < l.length := by omega
    have r0 := irow hlt1 0
    have q0 := irow hlt 0
    refine GDraw_all T_ok (by kernel_rfl) (by kernel_rfl) ?_
    simp [go_sem, hlt, r0, q0]
    by_cases he : l[k] = l'[k]
    · simp [go_sem, he]
      refine ⟨by omega, k + 1, ⟨by omega, fun j hj h1 h2 => ?_⟩, by omega, by omega⟩
      by_cases hjk : j = k
      · subst hjk; exact he
      · exact hi.2 j (by omega) h1 h2
    · have hne : ¬ l = l' := fun e => he (by simp [e])
      simp [go_sem, he, hne]
  · simp [go_sem, hlt]
    exact eq_of_all h fun j h1 h2 => hi.2 j (by omega) h1 h2
abbrev PsG.sv (p : PsG) : SV := .agg [.y p.c, .y p.m, ils p.ids]
theorem same58 (p q : PsG) (hp : p.ids.length ≤ 1000000000) : Pure Try.prog 58 [p.sv, q.sv] (· = .b (decide (p = q))) := by
  refine pure_of_GC T_ok Try.func58 rfl (by kernel_rfl) (Nat.le_of_ble_eq_true rfl) rfl rfl ?_
  simp [go_sem]
  have hiff : p = q ↔ (p.m.toNat = q.m.toNat ∧ p.c.toNat = q.c.toNat) ∧ p.ids = q.ids := by
    rw [BitVec.toNat_inj, BitVec.toNat_inj]
    obtain ⟨a, b, c⟩ := p
    obtain ⟨a', b', c'⟩ := q
    simp only [PsG.mk.injEq]
    constructor
    · rintro ⟨rfl, rfl, rfl⟩; exact ⟨⟨rfl, rfl⟩, rfl⟩
    · rintro ⟨⟨rfl, rfl⟩, rfl⟩; exact ⟨rfl, rfl, rfl⟩
  by_cases h1 : p.m.toNat = q.m.toNat ∧ p.c.toNat = q.c.toNat
  · simp [go_sem, h1.1, h1.2]
    refine call_val (equal83 p.ids q.ids hp) rfl rfl ?_
    have : (p = q) ↔ p.ids = q.ids := by rw [hiff]; simp [h1.1, h1.2]
    simp [go_sem, this]
  · have hne : ¬ p = q := fun e => h1 (hiff.1 e).1
    have h2 : ∀ (_ : p.m.toNat = q.m.toNat), ¬ p.c.toNat = q.c.toNat := fun a b => h1 ⟨a, b⟩
    by_cases h3 : p.m.toNat = q.m.toNat
    · simp [go_sem, hne, h3]
      intro e
      exact absurd (by omega) (h2 h3)
    · simp [go_sem, hne]
      intro e
      exact absurd (by omega) h3
theorem equal57 (l l' : List PsG) (hn : l.length ≤ 1000000000) (hi : ∀ p ∈ l, p.ids.length ≤ 1000000000) : Pure Try.prog 57 [.r (.rs 3 l.length (prows l)), .r (.rs 3 l'.length (prows l')), .fn (.func 58) [] []] (· = .b (decide (l = l'))) := by
  refine pure_of_GC T_ok Try.func57 rfl (by kernel_rfl) (Nat.le_of_ble_eq_true rfl) rfl rfl ?_
  simp [go_sem]
  by_cases h : l.length = l'.length
  rotate_left
  · have h' : ¬ l = l' := fun e => h (by rw [e])
    simp [go_sem, h, h']
    try omega
  simp [go_sem, h]
  have hn' : l'.length ≤ 1000000000 := by omega
  refine GLoop_of T_ok (α := Nat) (fun k => [(0, .r (.rs 3 l'.length (prows l))), (1, .r (.rs 3 l'.length (prows l'))), (2, .fn (.func 58) [] []), (15, .r (.rs 3 l'.length (prows l))), (16, .i l'.length), (17, .i k)]) (fun _ => []) 0 (fun k => k ≤ l'.length ∧ ∀ j, j < k → ∀ (h1 : j < l.length) (h2 : j < l'.length), l[j] = l'[j]) (fun k => l'.length - k) 0 (fun _ => rfl) (by simp) (by simp [go_sem, h]) (by simp [go_sem]) ?_
  intro k J hj
  by_cases hlt : k < l'.length
  · simp [go_sem, hlt]
    have hlt1 : k < l.length := by omega
    have r0 := prow hlt1 0
    have r1 := prow hlt1 1
    have r2 := prow hlt1 2
    have q0 := prow hlt 0
    have q1 := prow hlt 1
    have q2 := prow hlt 2
    simp [go_sem, hlt, r0, r1, r2, q0, q1, q2]
    refine call_val (same58 l[k] l'[k] (hi _ (List.getElem_mem hlt1))) rfl rfl ?_
    by_cases he : l[k] = l'[k]
    · simp [go_sem, he]
      refine ⟨by omega, k + 1, ⟨by omega, fun j hjk h1 h2 => ?_⟩, by omega, by omega⟩
      by_cases e : j = k
      · subst e; exact he
      · exact hj.2 j (by omega) h1 h2
    · have hne : ¬ l = l' := fun e => he (by simp [e])
      simp [go_sem, he, hne]
  · simp [go_sem, hlt]
    exact eq_of_all h fun j h1 h2 => hj.2 j (by omega) h1 h2
end Go.Gx.Ix
