/-
  Each match is one thing only (plain).
-/
import Derived.Test.YtnajladibkpeaaaGx
import Derived.Test.YtnajladibkpeaaaW6
import Derived.Test.YtnajladibkpeaaaW7
import Derived.Test.YtnajladibkpeaaaGl
set_option linter.unusedVariables false
set_option linter.unusedSimpArgs false
set_option maxRecDepth 20000
set_option maxHeartbeats 4000000
namespace Go.Gx
open Go.RowKit Go.Proofs Go.Proofs.Ytnajladibkpeaaa

/-- The number of a pair as a key. -/
def PrG.code (p : PrG) : Int := p.a * 4294967296 + p.b
def hitC (x c : Int) : Bool := decide (c / 4294967296 = x) || decide (c % 4294967296 = x)
/-- The suspects and the twins. -/
def EG.cs (g : EG) (m : MG) : List PrG := g.srt m false g.nr ++ g.srt m true g.nr
def EG.ks (g : EG) (m : MG) (k : Nat) : List Int := ((g.cs m).take k).map PrG.code
theorem EG.cs_iff {g : EG} {m : MG} {p : PrG} : p ∈ g.cs m ↔ ∃ a b : Nat, a < g.nr ∧ b < g.nr ∧ a < b ∧ m.has a b = true ∧ g.one a b = false ∧ p = ⟨a, b⟩ := by
  unfold EG.cs
  rw [List.mem_append, EG.srt_iff, EG.srt_iff]
  have hk : ∀ (a b : Nat) (d : Bool), g.keep m d a b = true → m.has a b = true ∧ g.one a b = false := fun a b d h => by
    simp only [EG.keep, Bool.and_eq_true, Bool.not_eq_true'] at h
    exact h.1
  constructor
  · rintro (⟨a, b, h1, h2, h3, h4, rfl⟩ | ⟨a, b, h1, h2, h3, h4, rfl⟩) <;> exact ⟨a, b, h1, h2, h3, (hk _ _ _ h4).1, (hk _ _ _ h4).2, rfl⟩
  · rintro ⟨a, b, h1, h2, h3, h4, h5, rfl⟩
    cases hd : decide (0 ≤ ixB (g.dfB a b) g.nl)
    · exact .inl ⟨a, b, h1, h2, h3, by simp [EG.keep, h4, h5, hd], rfl⟩
    · exact .inr ⟨a, b, h1, h2, h3, by simp [EG.keep, h4, h5, hd], rfl⟩
theorem PrG.lt_ne {p q : PrG} (h : p.lt q) : p ≠ q := by
  rintro rfl
  exact PrG.asymm _ _ h h
theorem EG.cs_nodup (g : EG) (m : MG) : (g.cs m).Nodup := by
  unfold EG.cs
  refine List.nodup_append.2 ⟨(g.srt_sorted m false g.nr).imp PrG.lt_ne, (g.srt_sorted m true g.nr).imp PrG.lt_ne, fun p hp q hq e => ?_⟩
  subst e
  obtain ⟨a, b, _, _, _, h4, rfl⟩ := EG.srt_iff.1 hp
  obtain ⟨c, d, _, _, _, h5, e⟩ := EG.srt_iff.1 hq
  simp only [PrG.mk.injEq] at e
  have e1 : a = c := by omega
  have e2 : b = d := by omega
  subst e1 e2
  simp only [EG.keep, Bool.and_eq_true, beq_iff_eq] at h4 h5
  rw [h4.2] at h5
  cases h5.2
theorem PrG.code_div (p : PrG) (h0 : 0 ≤ p.b) (h1 : p.b < 4294967296) : p.code / 4294967296 = p.a ∧ p.code % 4294967296 = p.b := by
  unfold PrG.code
  omega
theorem PrG.code_inj {p q : PrG} (h0 : 0 ≤ p.b) (h1 : p.b < 4294967296) (k0 : 0 ≤ q.b) (k1 : q.b < 4294967296) (h : p.code = q.code) : p = q := by
  obtain ⟨e1, e2⟩ := p.code_div h0 h1
  obtain ⟨f1, f2⟩ := q.code_div k0 k1
  exact PrG.ext' (by rw [← e1, h, f1]) (by rw [← e2, h, f2])
theorem EG.cs_bd {g : EG} {m : MG} (hr : g.nr ≤ 24) {p : PrG} (h : p ∈ g.cs m) : 0 ≤ p.a ∧ p.a < 24 ∧ 0 ≤ p.b ∧ p.b < 24 := by
  obtain ⟨a, b, h1, h2, _, _, _, rfl⟩ := EG.cs_iff.1 h
  exact ⟨by show (0 : Int) ≤ a; omega, by show (a : Int) < 24; omega, by show (0 : Int) ≤ b; omega, by show (b : Int) < 24; omega⟩
theorem EG.cs_len (g : EG) (m : MG) (hr : g.nr ≤ 24) : (g.cs m).length ≤ 1152 := by
  unfold EG.cs
  rw [List.length_append]
  have h1 := g.srt_len m false g.nr
  have h2 := g.srt_len m true g.nr
  have h3 : g.nr * g.nr ≤ 24 * 24 := Nat.mul_le_mul hr hr
  omega
theorem EG.code_mem {g : EG} {m : MG} (hr : g.nr ≤ 24) {p : PrG} (h0 : 0 ≤ p.b) (h1 : p.b < 4294967296) {l : List PrG} (hl : ∀ q ∈ l, q ∈ g.cs m) : p.code ∈ l.map PrG.code ↔ p ∈ l := by
  rw [List.mem_map]
  constructor
  · rintro ⟨q, hq, e⟩
    have := EG.cs_bd hr (hl q hq)
    rw [← PrG.code_inj (by omega) (by omega) h0 h1 e]
    exact hq
  · exact fun h => ⟨p, h, rfl⟩
theorem EG.ks_nodup (g : EG) (m : MG) (hr : g.nr ≤ 24) (k : Nat) : (g.ks m k).Nodup := by
  unfold EG.ks
  rw [List.Nodup, List.pairwise_map]
  refine List.Pairwise.imp_of_mem (fun {p q} hp hq hne e => hne ?_) ((g.cs_nodup m).sublist (List.take_sublist k _))
  have b1 := EG.cs_bd hr ((List.take_sublist k _).subset hp)
  have b2 := EG.cs_bd hr ((List.take_sublist k _).subset hq)
  exact PrG.code_inj (by omega) (by omega) (by omega) (by omega) e
theorem EG.ks_succ {g : EG} {m : MG} {k : Nat} (hk : k < (g.cs m).length) : g.ks m (k + 1) = g.ks m k ++ [(g.cs m)[k].code] := by
  unfold EG.ks
  rw [List.take_add_one, List.getElem?_eq_getElem hk, List.map_append]
  rfl
theorem EG.ks_new {g : EG} {m : MG} (hr : g.nr ≤ 24) {k : Nat} (hk : k < (g.cs m).length) : (g.cs m)[k].code ∉ g.ks m k := by
  have h := g.ks_nodup m hr (k + 1)
  rw [EG.ks_succ hk, List.nodup_append] at h
  exact fun hm => h.2.2 _ hm _ (by simp) rfl
theorem EG.ks_all (g : EG) (m : MG) : g.ks m (g.cs m).length = (g.cs m).map PrG.code := by
  unfold EG.ks
  rw [List.take_length]
theorem MG.has_comm (m : MG) (a b : Int) : m.has a b = m.has b a := by
  unfold MG.has
  congr 1
  funext i
  rw [Bool.eq_iff_iff, MG.hit_iff, MG.hit_iff]
  omega
/-- A match is counted exactly if its records are of two people. -/
theorem EG.split_one {g : EG} {m : MG} (he : g.askE m = 0) {i : Nat} (hi : i < m.n) :
    decide ((⟨min (m.p i).a (m.p i).b, max (m.p i).a (m.p i).b⟩ : PrG).code ∈ (g.cs m).map PrG.code) = !g.joB (m.p i).a (m.p i).b := by
  rcases g.ask_cases m with ⟨hv, h60, hok, _⟩ | h
  rotate_left
  · exact absurd he h
  have hr := EG.valid_nr hv
  have hl := EG.valid_inl hv
  have ho := hok i hi
  simp only [EG.okm, Bool.and_eq_true, Bool.not_eq_true', decide_eq_false_iff_not] at ho
  obtain ⟨⟨t1, t2⟩, hne⟩ := ho
  have b1 := EG.th_iff.1 t1
  have b2 := EG.th_iff.1 t2
  have ej : g.joB (m.p i).a (m.p i).b = decide (g.q (m.p i).a = g.q (m.p i).b) := by simp [EG.joB, hv, t1, t2]
  rw [ej, Bool.eq_iff_iff, decide_eq_true_eq, EG.code_mem hr (by show 0 ≤ max _ _; omega) (by show max _ _ < _; omega) (fun q h => h), EG.cs_iff]
  simp only [Bool.not_eq_true', decide_eq_false_iff_not]
  have key : ∀ a b : Nat, a < g.nr → (g.one a b = false ↔ ¬ g.q a = g.q b) := fun a b ha => by
    rw [EG.one_eq hl (by omega) (by omega) (by omega), decide_eq_false_iff_not]
  constructor
  · rintro ⟨a, b, h1, h2, h3, h4, h5, e⟩
    rw [key a b h1] at h5
    simp only [PrG.mk.injEq] at e
    obtain ⟨e1, e2⟩ := e
    rcases (by omega : (m.p i).a = a ∧ (m.p i).b = b ∨ (m.p i).a = b ∧ (m.p i).b = a) with ⟨f1, f2⟩ | ⟨f1, f2⟩
    · rw [f1, f2]; exact h5
    · rw [f1, f2]; exact fun h => h5 h.symm
  · intro hq
    refine ⟨(min (m.p i).a (m.p i).b).toNat, (max (m.p i).a (m.p i).b).toNat, by omega, by omega, by omega, ?_, ?_, PrG.ext' (by dsimp only; omega) (by dsimp only; omega)⟩
    · refine any_yes hi (MG.hit_iff.2 ?_)
      omega
    · rw [key _ _ (by omega)]
      rcases (by omega : (m.p i).a ≤ (m.p i).b ∨ (m.p i).b ≤ (m.p i).a) with h | h
      · rw [show (((min (m.p i).a (m.p i).b).toNat : Nat) : Int) = (m.p i).a by omega, show (((max (m.p i).a (m.p i).b).toNat : Nat) : Int) = (m.p i).b by omega]
        exact hq
      · rw [show (((min (m.p i).a (m.p i).b).toNat : Nat) : Int) = (m.p i).b by omega, show (((max (m.p i).a (m.p i).b).toNat : Nat) : Int) = (m.p i).a by omega]
        exact fun h => hq h.symm
theorem two_of {α : Type} {l : List α} {x y : α} (hx : x ∈ l) (hy : y ∈ l) (hne : x ≠ y) : 2 ≤ l.length := by
  match l, hx, hy with
  | [], h, _ => simp at h
  | [z], h1, h2 =>
    rw [List.mem_singleton] at h1 h2
    exact absurd (h1.trans h2.symm) hne
  | _ :: _ :: _, _, _ => simp
/-- The matches of a morph are two at least. -/
theorem EG.split_two {g : EG} {m : MG} (he : g.askE m = 0) {a : Nat} (ha : a ∈ g.morL m g.nr) : 2 ≤ (((g.cs m).map PrG.code).filter (hitC a)).length := by
  rcases g.ask_cases m with ⟨hv, h60, hok, _⟩ | h
  rotate_left
  · exact absurd he h
  have hr := EG.valid_nr hv
  have hl := EG.valid_inl hv
  unfold EG.morL at ha
  rw [List.mem_filter, List.mem_range, Bool.and_eq_true] at ha
  obtain ⟨har, _, hmo⟩ := ha
  rw [EG.morph_lk he har, EG.morA_iff hv] at hmo
  obtain ⟨b, c, hb, hc, hap⟩ := hmo
  rw [EG.looks_iff hok] at hb hc
  have hbc : b ≠ c := by
    rintro rfl
    have := EG.ap_irr hv (b : Int)
    omega
  have hbd : ∀ b : Nat, m.has a b = true → b < g.nr := fun b hb => by
    obtain ⟨i, hi, hh⟩ := List.any_eq_true.1 hb
    have hi := List.mem_range.1 hi
    have hh := MG.hit_iff.1 hh
    have ho := hok i hi
    simp only [EG.okm, Bool.and_eq_true] at ho
    have q1 := EG.th_iff.1 ho.1.1
    have q2 := EG.th_iff.1 ho.1.2
    omega
  have key : ∀ b : Nat, m.has a b = true → ¬ g.q a = g.q b → (⟨min (a : Int) b, max (a : Int) b⟩ : PrG).code ∈ ((g.cs m).map PrG.code).filter (hitC a) := fun b hb hq => by
    have hbr := hbd b hb
    have hne : a ≠ b := by rintro rfl; exact hq rfl
    refine List.mem_filter.2 ⟨List.mem_map.2 ⟨⟨min (a : Int) b, max (a : Int) b⟩, EG.cs_iff.2 ⟨min a b, max a b, by omega, by omega, by omega, ?_, ?_, PrG.ext' (by dsimp only; omega) (by dsimp only; omega)⟩, rfl⟩, ?_⟩
    · rcases Nat.lt_or_ge a b with h | h
      · rw [show min a b = a by omega, show max a b = b by omega]; exact hb
      · rw [show min a b = b by omega, show max a b = a by omega, MG.has_comm]; exact hb
    · rw [EG.one_eq hl (by omega) (by omega) (by omega), decide_eq_false_iff_not]
      rcases Nat.lt_or_ge a b with h | h
      · rw [show min a b = a by omega, show max a b = b by omega]; exact hq
      · rw [show min a b = b by omega, show max a b = a by omega]; exact fun h => hq h.symm
    · obtain ⟨e1, e2⟩ := PrG.code_div ⟨min (a : Int) b, max (a : Int) b⟩ (by show 0 ≤ max _ _; omega) (by show max _ _ < _; omega)
      simp only [hitC, e1, e2, Bool.or_eq_true, decide_eq_true_eq]
      omega
  refine two_of (key b hb.1 hb.2) (key c hc.1 hc.2) fun e => hbc ?_
  have e' := PrG.code_inj (by show 0 ≤ max _ _; omega) (by have := hbd b hb.1; show max _ _ < _; omega) (by show 0 ≤ max _ _; omega) (by have := hbd c hc.1; show max _ _ < _; omega) e
  simp only [PrG.mk.injEq] at e'
  have h1 : a ≠ b := by rintro rfl; exact hb.2 rfl
  have h2 : a ≠ c := by rintro rfl; exact hc.2 rfl
  omega
def EG.kset (g : EG) (m : MG) (c : Int) : Bool := decide (c ∈ (g.cs m).map PrG.code)
/-- The keys of record a that are behind us. -/
def EG.cnt (g : EG) (m : MG) (a : Int) (left : Int → Bool) : Nat := (((g.cs m).map PrG.code).filter fun c => hitC a c && !left c).length
def EG.lef (g : EG) (m : MG) (left : Int → Bool) : Nat := (((g.cs m).map PrG.code).filter left).length
theorem EG.kset_one {g : EG} {m : MG} (he : g.askE m = 0) {i : Nat} (hi : i < m.n) : g.kset m (min (m.p i).a (m.p i).b * 4294967296 + max (m.p i).a (m.p i).b) = !g.joB (m.p i).a (m.p i).b := EG.split_one he hi
theorem EG.kset_iff {g : EG} {m : MG} {c : Int} : g.kset m c = true ↔ c ∈ (g.cs m).map PrG.code := decide_eq_true_iff
theorem EG.cnt_zero (g : EG) (m : MG) (a : Int) : g.cnt m a (g.kset m) = 0 := by
  unfold EG.cnt
  rw [List.length_eq_zero_iff, List.filter_eq_nil_iff]
  intro c hc
  rw [EG.kset_iff.2 hc]
  simp
theorem EG.cnt_all {g : EG} {m : MG} {a : Int} {left : Int → Bool} (h : ∀ c, g.kset m c = true → left c = false) : g.cnt m a left = (((g.cs m).map PrG.code).filter (hitC a)).length := by
  unfold EG.cnt
  congr 1
  refine List.filter_congr fun c hc => ?_
  rw [h c (EG.kset_iff.2 hc)]
  simp
/-- One member more. -/
theorem filt_one {l : List Int} {a : Int} {p q : Int → Bool} (hn : l.Nodup) (ha : a ∈ l) (h : ∀ c, c ≠ a → q c = p c) (h0 : p a = false) (h1 : q a = true) : (l.filter q).length = (l.filter p).length + 1 := by
  induction l with
  | nil => simp at ha
  | cons x l ih =>
    obtain ⟨n1, n2⟩ := List.nodup_cons.1 hn
    by_cases hx : x = a
    · subst hx
      have e : l.filter q = l.filter p := List.filter_congr fun c hc => h c fun e => n1 (e ▸ hc)
      rw [List.filter_cons, List.filter_cons, h1, h0, e]
      simp
    · have := ih n2 ((List.mem_cons.1 ha).resolve_left fun e => hx e.symm)
      rw [List.filter_cons, List.filter_cons, h x hx]
      cases p x <;> simp [this]
theorem EG.keys_nodup {g : EG} {m : MG} (hr : g.nr ≤ 24) : ((g.cs m).map PrG.code).Nodup := by
  have := g.ks_nodup m hr (g.cs m).length
  rwa [EG.ks_all] at this
theorem EG.cnt_hit {g : EG} {m : MG} (hr : g.nr ≤ 24) {a c : Int} {left : Int → Bool} (hc : g.kset m c = true) (hl : left c = true) (hh : hitC a c = true) : g.cnt m a (fun y => left y && !decide (y = c)) = g.cnt m a left + 1 :=
  filt_one (EG.keys_nodup hr) (EG.kset_iff.1 hc) (fun y hy => by simp [hy]) (by simp [hl]) (by simp [hh])
theorem EG.cnt_no {g : EG} {m : MG} {a c : Int} {left : Int → Bool} (hh : hitC a c = false) : g.cnt m a (fun y => left y && !decide (y = c)) = g.cnt m a left := by
  unfold EG.cnt
  congr 1
  refine List.filter_congr fun y hy => ?_
  by_cases e : y = c
  · subst e; simp [hh]
  · simp [e]
theorem EG.lef_less {g : EG} {m : MG} (hr : g.nr ≤ 24) {c : Int} {left : Int → Bool} (hc : g.kset m c = true) (hl : left c = true) : g.lef m (fun y => left y && !decide (y = c)) < g.lef m left := by
  have := filt_one (p := fun y => left y && !decide (y = c)) (q := left) (EG.keys_nodup hr) (EG.kset_iff.1 hc) (fun y hy => by simp [hy]) (by simp) hl
  unfold EG.lef
  omega
theorem EG.cnt_le (g : EG) (m : MG) (hr : g.nr ≤ 24) (a : Int) (left : Int → Bool) : g.cnt m a left ≤ 1152 := by
  unfold EG.cnt
  refine Nat.le_trans (List.length_filter_le _ _) ?_
  rw [List.length_map]
  exact g.cs_len m hr
end Go.Gx
/-
  The law of matches: each is one thing only.
-/
set_option linter.unusedVariables false
set_option linter.unusedSimpArgs false
set_option maxRecDepth 20000
set_option maxHeartbeats 4000000
namespace Go.Gx
open Go.RowKit Go.Proofs Go.Proofs.Ytnajladibkpeaaa

theorem law11 (g : EG) (m : MG) : Pure Try.prog 11 [g.sv, m.sv] (· = .b true) := by
  refine pure_of_GC T_ok Try.func11 rfl (by kernel_rfl) (Nat.le_of_ble_eq_true rfl) rfl rfl ?_
  simp [go_sem]
  refine call_val alive46 rfl rfl ?_
  simp [go_sem]
  refine call_val (great12' g) rfl rfl ?_
  cases hg : g.great
  rotate_left
  · simp [go_sem]
  by_cases hn : 60 < m.n
  · have hn' : 60 < (m.n : Int) := by omega
    simp [go_sem, hn']
  have hn' : ¬ 60 < (m.n : Int) := by omega
  simp [go_sem, hn']
  have hm : g.Sm := by
    obtain ⟨h, hr, hl, hc, hv⟩ := EG.OK_of hg
    exact ⟨by omega, by omega, by omega, fun i hi => by have := hv i hi; omega⟩
  have s1 := suspects39 sortOK g hm.ok m (by omega)
  have t1 := twins41 sortOK g hm.ok m (by omega)
  have m1 := morphs43 g hm m (by omega)
  rw [g.som_sus m false] at s1
  rw [g.som_sus m true] at t1
  unfold EG.susS at s1 t1
  unfold EG.morS at m1
  rcases g.ask_cases m with ⟨hv, h60, hok, he⟩ | he
  rotate_left
  · rw [if_neg he] at s1 t1 m1
    refine call_val s1 rfl rfl ?_
    simp [go_sem]
    refine call_val t1 rfl rfl ?_
    simp [go_sem]
    refine call_val m1 rfl rfl ?_
    simp [go_sem, he]
  rw [if_pos he] at s1 t1 m1
  have hr := EG.valid_nr hv
  refine call_val s1 rfl rfl ?_
  simp [go_sem]
  refine call_val t1 rfl rfl ?_
  simp [go_sem]
  refine call_val m1 rfl rfl ?_
  simp [go_sem]
  have hL : (g.srt m false g.nr).length + (g.srt m true g.nr).length = (g.cs m).length := by unfold EG.cs; rw [List.length_append]
  have hcl := g.cs_len m hr
  refine ⟨⟨by omega, by omega⟩, ⟨by omega, by omega⟩, ?_⟩
  have hrows : ∀ i j, rowsP (g.cs m) i j = if i < (g.srt m false g.nr).length then rowsP (g.srt m false g.nr) i j else rowsP (g.srt m true g.nr) (i - (g.srt m false g.nr).length) j := fun i j => by
    unfold rowsP EG.cs
    by_cases h : i < (g.srt m false g.nr).length
    · rw [if_pos h, List.getElem?_append_left h]
    · rw [if_neg h, List.getElem?_append_right (by omega)]
  refine GLoop_s T_ok (α := Nat) (fun k => [(1, m.sv), (2, .ptr 0 0 3 0), (5, .b true), (10, .r (.rs 1 (g.morL m g.nr).length (intsR (g.morL m g.nr)))), (12, .mp 1), (71, .sl 2 2 0 (g.cs m).length none), (72, .i (g.cs m).length), (73, .i k)])
    (fun k => [g.bx, some (.kmap .p (fun c => decide (c ∈ g.ks m k)) (fun _ => .i 1) none), some (.vec 90 2 (g.cs m).length fun i j => .r (rowsP (g.cs m) i j))]) 3
    (fun k => k ≤ (g.cs m).length) (fun k => (g.cs m).length - k) 0 (fun _ => rfl) (by simp) (by simp [go_sem, ← hL]) ?_ ?_
  · simp [go_sem, EG.ks, ← hL]
    intro i j hi hj
    rw [hrows]
    by_cases h : i < (g.srt m false g.nr).length
    · simp [joined, h, SV.kill, SV.trim]
    · simp [joined, h, SV.kill, SV.trim, hi]
  intro k J hk
  by_cases hlt : k < (g.cs m).length
  · have hb := EG.cs_bd hr (List.getElem_mem hlt)
    have hnew := EG.ks_new hr hlt
    have hsucc := EG.ks_succ hlt
    have r0 : rowsP (g.cs m) k 0 = .i (g.cs m)[k].a := by unfold rowsP; rw [List.getElem?_eq_getElem hlt]; rfl
    have r1 : rowsP (g.cs m) k 1 = .i (g.cs m)[k].b := by unfold rowsP; rw [List.getElem?_eq_getElem hlt]; rfl
    have hg1 : (g.cs m)[k].b < 4294967296 := by omega
    unfold PrG.code at hnew hsucc
    simp [go_sem, hlt]
    refine GDraw_l (t := (.take 0 (.take 1 (.take 2 (.take 3 (.alt 4 [3, 2, 1, 0] (.take 5 (.alt 6 [5, 3, 2] (.done []) .nil)) .nil)))))) T_ok (by kernel_rfl) (by kernel_rfl) (by kernel_rfl) (fun _ _ _ _ h => h) ?_
    simp [go_sem, hlt, r0, r1, hb, hg1, hnew]
    refine GOp_kmapEntry T_ok (kd := .p) (t := 89) (q := 1) (a := (g.cs m)[k].a * 4294967296 + (g.cs m)[k].b) (g := 0 ≤ (g.cs m)[k].b ∧ (g.cs m)[k].b < 4294967296) (has := fun c => decide (c ∈ g.ks m k)) (val := fun _ => .i 1) (st := none) (e := 3) (ei := ⟨1, 8, [.i .i64], .int .i64⟩) ?_ ?_ ?_ ?_ ?_ ?_ ?_ ?_ fun f c => ?_
    · rfl
    · rfl
    · exact ⟨hb.2.2.1, hg1⟩
    · simp [go_sem]
    · rfl
    · rfl
    · rfl
    · simp [go_sem]
    simp [go_sem]
    refine ⟨⟨⟨hb.2.2.1, hg1⟩, hnew⟩, ?_⟩
    refine GOp_kentryStore ((g.cs m)[k].a * 4294967296 + (g.cs m)[k].b) (kd := .p) (has := fun x => if x = (g.cs m)[k].a * 4294967296 + (g.cs m)[k].b then true else decide (x ∈ g.ks m k)) (val := fun x => if x = (g.cs m)[k].a * 4294967296 + (g.cs m)[k].b then (if decide ((g.cs m)[k].a * 4294967296 + (g.cs m)[k].b ∈ g.ks m k) = true then .i 1 else .i 0) else .i 1) (f := f) (c := c) (q := 1) ?_ ?_ ?_ ?_ ?_ ?_ ?_
    · rfl
    · rfl
    · simp [go_sem]
    · simp
    · rfl
    · simp [go_sem]
    simp [go_sem]
    refine ⟨by omega, k + 1, by omega, by omega, by omega, fun a => ?_, fun a _ => ?_⟩
    · rw [hsucc]
      by_cases e : a = (g.cs m)[k].a * 4294967296 + (g.cs m)[k].b
      · simp [e]
      · simp [e]
    · by_cases e : a = (g.cs m)[k].a * 4294967296 + (g.cs m)[k].b
      · simp [e]
      · simp [e]
  have e : k = (g.cs m).length := by omega
  subst e
  simp [go_sem]
  clear hk hlt hrows
  have hkn := hm.nr
  refine GLoop_s T_ok (α := Nat) (fun i => [(2, .ptr 0 0 3 0), (5, .b true), (10, .r (.rs 1 (g.morL m g.nr).length (intsR (g.morL m g.nr)))), (12, .mp 1), (84, m.sv), (85, .i m.n), (86, .i i)])
    (fun i => [g.bx, some (.kmap .p (g.kset m) (fun _ => .i 1) none)]) 2
    (fun i => i ≤ m.n) (fun i => m.n - i) 0 (fun _ => rfl) (by simp) (by simp [go_sem]) (by simp [go_sem, EG.ks_all, EG.kset]) ?_
  intro i J2 hi
  by_cases hlt : i < m.n
  · have ho := hok i hlt
    simp only [EG.okm, Bool.and_eq_true] at ho
    have b1 := EG.th_iff.1 ho.1.1
    have b2 := EG.th_iff.1 ho.1.2
    have hs := EG.kset_one he hlt
    have g1 : 0 ≤ max (m.p i).a (m.p i).b := by omega
    have g2 : max (m.p i).a (m.p i).b < 4294967296 := by omega
    simp [go_sem, hlt]
    refine call_val (joined47 hm (m.p i).a (m.p i).b) rfl rfl ?_
    cases hj : g.joB (m.p i).a (m.p i).b
    · rw [hj] at hs
      simp [go_sem, hs, g1, g2]
      exact ⟨by omega, i + 1, by omega, by omega, by omega⟩
    · rw [hj] at hs
      simp [go_sem, hs, g1, g2]
      exact ⟨by omega, i + 1, by omega, by omega, by omega⟩
  have e : i = m.n := by omega
  subst e
  clear hlt hi
  simp [go_sem]
  have hml := g.morL_len m g.nr
  refine GLoop_s T_ok (α := Nat) (fun i => [(5, .b true), (12, .mp 1), (126, .r (.rs 1 (g.morL m g.nr).length (intsR (g.morL m g.nr)))), (127, .i (g.morL m g.nr).length), (128, .i i)])
    (fun i => [g.bx, some (.kmap .p (g.kset m) (fun _ => .i 1) none)]) 2
    (fun i => i ≤ (g.morL m g.nr).length) (fun i => (g.morL m g.nr).length - i) 0 (fun _ => rfl) (by simp) (by simp [go_sem]) (by simp [go_sem]) ?_
  intro i J3 hi
  by_cases hlt : i < (g.morL m g.nr).length
  rotate_left
  · simp [go_sem, hlt]
  have htwo : 2 ≤ (((g.cs m).map PrG.code).filter (hitC (nth (g.morL m g.nr) i : Nat))).length := by
    refine EG.split_two he ?_
    unfold nth
    rw [List.getD_eq_getElem?_getD, List.getElem?_eq_getElem hlt]
    exact List.getElem_mem hlt
  have ra : intsR (g.morL m g.nr) i 0 = .i (nth (g.morL m g.nr) i : Nat) := rfl
  simp [go_sem, hlt, ra]
  generalize nth (g.morL m g.nr) i = a at *
  refine GOp_krange T_ok (kd := .p) (q := 1) (has := g.kset m) (val := fun _ => .i 1) (st := none) (by simp [go_sem]) (by simp [go_sem]) (by kernel_rfl) (by simp [go_sem]) fun f c => ?_
  simp [go_sem]
  refine GLoop_s T_ok (α := (Int → Bool) × Option Int) (fun x => [(5, .b true), (12, .mp 1), (21, .i a), (22, .i (g.cnt m a x.1)), (126, .r (.rs 1 (g.morL m g.nr).length (intsR (g.morL m g.nr)))), (127, .i (g.morL m g.nr).length), (128, .i i), (133, .ptr 2 0 1 0)])
    (fun x => [g.bx, some (.kmap .p (g.kset m) (fun _ => .i 1) (some (f, c))), some (.iter (.mp 1) f c (g.kset m) x.1 x.2)]) 3
    (fun x => True) (fun x => g.lef m x.1) (g.kset m, none) (fun _ => rfl) trivial (by simp [go_sem, EG.cnt_zero]) (by simp [go_sem]) ?_
  rintro ⟨left, la⟩ J4 -
  have hcl2 := g.cnt_le m hr a left
  simp [go_sem]
  refine GOp_knext (kd := .p) (q := 1) (ref := 2) (kk := 1) (f := f) (c := c) (all := g.kset m) (left := left) (has := g.kset m) (la := la) (val := fun _ => .i 1) (by simp [go_sem]) (by simp [go_sem]) (by simp [go_sem]) (fun _ => rfl) (by simp [go_sem]) (fun x h1 h2 => ?_) (fun h0 => ?_)
  rotate_left
  · have hge : ¬ (g.cnt m a left : Int) < 2 := by rw [EG.cnt_all h0]; omega
    simp [go_sem, hge]
    exact ⟨by omega, i + 1, by omega, by omega, by omega⟩
  simp [go_sem]
  refine GOp_kentry (kd := .p) (q := 1) (ref := 2) (kk := 1) (f := f) (c := c) (all := g.kset m) (left := fun y => left y && !decide (y = x)) (has := g.kset m) (k := x) (val := fun _ => .i 1) (by simp [go_sem]) (by simp [go_sem]) (by simp [go_sem]) h1 (by simp [go_sem]) ?_
  have hless := EG.lef_less hr h1 h2
  by_cases c1 : x / 4294967296 = a
  · have hc := EG.cnt_hit hr (a := a) h1 h2 (by simp [hitC, c1])
    simp [go_sem, c1]
    exact ⟨by omega, fun y => left y && !decide (y = x), hless, by simp [hc], fun _ _ => rfl⟩
  by_cases c2 : x % 4294967296 = a
  · have hc := EG.cnt_hit hr (a := a) h1 h2 (by simp [hitC, c2])
    simp [go_sem, c1, c2]
    exact ⟨by omega, fun y => left y && !decide (y = x), hless, by simp [hc], fun _ _ => rfl⟩
  · have hc := EG.cnt_no (g := g) (m := m) (a := a) (c := x) (left := left) (by simp [hitC, c1, c2])
    simp [go_sem, c1, c2]
    exact ⟨fun y => left y && !decide (y = x), hless, by simp [hc], fun _ _ => rfl⟩
end Go.Gx
