/-
  Each operation does what 'gop' says: append, copy, clear, len.
-/
import Derived.Test.YtaggojedpkddjaaGj
set_option linter.unusedVariables false
set_option linter.unusedSimpArgs false
namespace Go.Gx
open Go.RowKit

section
variable {P : Program} {T : Tab} {B W F : Nat → Prop} {n0 : Nat} {σ : Sig} {M : Mem} {nx : Nat} {w : World} {a : Act} {E : Env}

/-- What a slice reads as, in memory: its cells as a list. -/
theorem rows_mem (hm : MOK B W n0 σ M F w) {k : Nat} {s : SV} {x : Value} (hx : s.rel σ (Zof B σ M w) w x) {ob : Prop} {m : Nat} {get : Nat → Nat → RV} (h : rowsOf M k s = some (ob, m, get)) (hob : ob) :
    ∃ (A : Option Addr) (c : Nat) (cs : List Value), x = .slice A m c ∧ cs.length = m * k ∧ (∀ v ∈ cs, v.oneCell' = true) ∧ (0 < m * k → ∃ b o, A = some ⟨b, o, none⟩ ∧ ∀ j v, cs[j]? = some v → w.cell? ⟨b, o + j, none⟩ = some v) ∧
      (∀ i j, i < m → j < k → ∃ v, cs[i * k + j]? = some v ∧ (get i j).rel (Zof B σ M w) w v) := by
  have key : ∀ (b o : Nat), (∀ i j, i < m → j < k → ∃ v, w.cell? ⟨b, o + (i * k + j), none⟩ = some v ∧ v.oneCell' = true ∧ (get i j).rel (Zof B σ M w) w v) →
      ∃ cs : List Value, cs.length = m * k ∧ (∀ v ∈ cs, v.oneCell' = true) ∧ (∀ j v, cs[j]? = some v → w.cell? ⟨b, o + j, none⟩ = some v) ∧ (∀ i j, i < m → j < k → ∃ v, cs[i * k + j]? = some v ∧ (get i j).rel (Zof B σ M w) w v) := by
    intro b o hc
    have hcell : ∀ q, q < m * k → ∃ v, w.cell? ⟨b, o + q, none⟩ = some v ∧ v.oneCell' = true := by
      intro q hq
      have hk : 0 < k := by rcases Nat.eq_zero_or_pos k with h | h; · subst h; omega
                            · exact h
      obtain ⟨v, h1, h2, _⟩ := hc (q / k) (q % k) (Nat.div_lt_of_lt_mul (by rw [Nat.mul_comm]; exact hq)) (Nat.mod_lt _ hk)
      refine ⟨v, ?_, h2⟩
      rw [← h1]; congr 2
      rw [Nat.mul_comm, Nat.div_add_mod]
    refine ⟨(List.range (m * k)).map fun q => (w.cell? ⟨b, o + q, none⟩).getD undef, by simp, fun v hv => ?_, fun j v hv => ?_, fun i j hi hj => ?_⟩
    · obtain ⟨q, hq, rfl⟩ := List.mem_map.1 hv
      obtain ⟨u, h1, h2⟩ := hcell q (by simpa using hq)
      rw [h1]; exact h2
    · simp only [List.getElem?_map] at hv
      by_cases hj : j < m * k
      · obtain ⟨u, h1, h2⟩ := hcell j hj
        rw [List.getElem?_range hj] at hv
        simp [h1] at hv; subst hv; exact h1
      · rw [List.getElem?_eq_none (by simp; omega)] at hv; cases hv
    · obtain ⟨v, h1, h2, h3⟩ := hc i j hi hj
      refine ⟨v, ?_, h3⟩
      rw [List.getElem?_map, List.getElem?_range (row_lt hi hj)]
      simp [h1]
  unfold rowsOf at h
  split at h
  · cases h
    cases hx
    exact ⟨none, 0, [], rfl, by simp, by simp, by simp, by omega⟩
  · rename_i k' m' get'
    cases h
    obtain ⟨A, c, rfl, hn, hA⟩ := hx
    subst hob
    by_cases h0 : 0 < m
    · obtain ⟨b, o, rfl, hz, hc⟩ := hA h0
      obtain ⟨cs, h1, h2, h3, h4⟩ := key b o hc
      exact ⟨_, c, cs, rfl, h1, h2, fun _ => ⟨b, o, rfl, h3⟩, h4⟩
    · have : m = 0 := by omega
      subst this
      exact ⟨A, c, [], rfl, by simp, by simp, by simp, by omega⟩
  · rename_i k' m' get'
    cases h
    obtain ⟨A, rfl, hA⟩ := hx
    subst hob
    by_cases h0 : 0 < m
    · obtain ⟨b, o, rfl, hz, hc⟩ := hA h0
      obtain ⟨cs, h1, h2, h3, h4⟩ := key b o hc
      exact ⟨_, m, cs, rfl, h1, h2, fun _ => ⟨b, o, rfl, h3⟩, h4⟩
    · have : m = 0 := by omega
      subst this
      exact ⟨A, 0, [], rfl, by simp, by simp, by simp, by omega⟩
  · rename_i ref k' lo m' c'
    split at h
    · rename_i e k'' n get' hM
      cases h
      obtain ⟨rfl, rfl, hle⟩ := hob
      obtain ⟨L, A, g1, rfl, g2, g3, g4, g5⟩ := hx
      obtain ⟨L', e1, e2⟩ := hm.reg ref _ hM
      rw [g1] at e1; cases e1
      obtain ⟨f0, fm, f | ⟨b', cs', f1, f2, f3, fo, f5⟩⟩ := e2
      · have hn0 : n = 0 := by omega
        have : m = 0 := by omega
        subst this
        exact ⟨A, _, [], rfl, by simp, by simp, by simp, by omega⟩
      · by_cases h0 : 0 < m
        · obtain ⟨b, q1, rfl⟩ := g4 (by omega)
          rw [f1] at q1; cases q1
          obtain ⟨cs, h1, h2, h3, h4⟩ := key b' (lo * k'') (fun i j hi hj => by
            obtain ⟨v, v1, v0, v2⟩ := f5 (lo + i) j (by omega) hj
            refine ⟨v, ?_, v0, v2⟩
            simp only [World.cell?, f2]
            rw [← v1, Nat.add_mul, Nat.add_assoc]
            simp)
          exact ⟨_, _, cs, rfl, h1, h2, fun _ => ⟨b', _, rfl, h3⟩, h4⟩
        · have : m = 0 := by omega
          subst this
          exact ⟨A, _, [], rfl, by simp, by simp, by simp, by omega⟩
    · cases h
  · cases h

theorem run_append_zero (t ty : TypeId) {e : TypeId} {ei : TI} (hu : P.underlying t = some (.slice e)) (hc : tyChk P e ei = true) (A B : Option Addr) (n c c' : Nat) (hn : n ≤ c) :
    (Builtin.append_ #[t, t] ty #[.slice A n c, .slice B 0 c']).run P w = .ok (.slice A n c) w := by
  simp only [Builtin.append_]
  simp [run_underlying hu, run_size hc, Builtin.lenOf, hn]
  cases B <;> cases A <;> simp [Builtin.firstCells, loadCells, loadCellsFrom, storeCells]

/-- What a source of an append gives. -/
def Src (P : Program) (w : World) (e : TypeId) (ei : TI) (t : TypeId) (ts : Array TypeId) (x : Value) (m : Nat) (news : List Value) : Prop :=
  news.length = m * ei.size ∧ (∀ v ∈ news, v.oneCell' = true) ∧
  (∀ (ty : TypeId) (A : Option Addr) (n c : Nat) (olds : List Value), n ≤ c → olds.length = n * ei.size → (0 < n * ei.size → ∃ b o, A = some ⟨b, o, none⟩ ∧ ∀ j v, olds[j]? = some v → w.cell? ⟨b, o + j, none⟩ = some v) → c < n + m → n + m ≤ maxLen → (n + m) * ei.bytes ≤ 140737488355328 →
    ∃ cap, n + m ≤ cap ∧ cap ≤ maxLen ∧ (Builtin.append_ ts ty #[.slice A n c, x]).run P w = .ok (.slice (some ⟨w.heap.size, 0, none⟩) (n + m) cap) (w.drew.alloc (.cells (olds ++ news ++ (Builtin.zeroCells ei.zeroV.cells (cap - (n + m))).toList).toArray e)))

theorem run_firstCells_any {size n : Nat} {A : Option Addr} {c len : Nat} {cs : List Value} (hl : cs.length = n * size) (hA : 0 < n * size → ∃ b o, A = some ⟨b, o, none⟩ ∧ ∀ j u, cs[j]? = some u → w.cell? ⟨b, o + j, none⟩ = some u) :
    (Builtin.firstCells size n (.slice A len c)).run P w = .ok cs.toArray w := by
  by_cases h0 : n * size = 0
  · have : cs = [] := List.eq_nil_of_length_eq_zero (by omega)
    subst this
    cases A <;> simp [Builtin.firstCells, h0, loadCells, loadCellsFrom]
  · obtain ⟨b, o, rfl, hc⟩ := hA (by omega)
    exact run_firstCells_some w size n _ len c cs hl (fun j v hv => by rw [add_none]; exact hc j v hv)

theorem zero_size {t : TypeId} {i : TI} (h : tyChk P t i = true) : i.zeroV.cells.size = i.size := by rw [← Array.length_toList, zeroV_cells h, List.length_map, ti_len h]

theorem zeroCells_rep {t : TypeId} {i : TI} (h : tyChk P t i = true) (n : Nat) : (Builtin.zeroCells i.zeroV.cells n).toList = repV (i.zero.map ZK.val) n := by
  have hzc := zeroV_cells h
  unfold Builtin.zeroCells
  rcases Nat.eq_zero_or_pos i.zero.length with h | h
  · have h1 : i.zeroV.cells.size = 0 := by rw [← Array.length_toList, hzc]; simp [h]
    have h2 : i.zero = [] := List.eq_nil_of_length_eq_zero h
    rw [h1, h2]
    have : ∀ n, repV ([] : List Value) n = [] := by intro n; induction n with
      | zero => rfl
      | succ n ih => simp [repV, ih]
    simp [this]
  · have := zeros_eq n h i.zeroV.cells hzc
    have h3 : i.zeroV.cells.size = i.zero.length := by rw [← Array.length_toList, hzc]; simp
    rw [h3, show (Array.range (n * i.zero.length)).map (fun j => i.zeroV.cells[j % i.zero.length]!) = (Array.range (n * i.zero.length)).map (fun j => i.zeroV.cells[j % i.zeroV.cells.size]!) from by rw [h3], this]
theorem rep_one (z : List ZK) (n : Nat) : ∀ v ∈ repV (z.map ZK.val) n, v.oneCell' = true := by
  intro v hv
  obtain ⟨j, hj, rfl⟩ := List.getElem_of_mem hv
  have h1 := repV_get (z.map ZK.val) n j (by rw [repV_length] at hj; exact hj)
  rw [List.getElem?_eq_getElem hj] at h1
  have := List.mem_of_getElem? h1.symm
  obtain ⟨z, _, hz⟩ := List.mem_map.1 this
  rw [← hz]; exact ZK.val_one z
theorem rep_rows {t : TypeId} {i : TI} (h : tyChk P t i = true) {n a b : Nat} (ha : a < n) (hb : b < i.size) (Z : Nat → Prop) : ∃ v, (repV (i.zero.map ZK.val) n)[a * i.size + b]? = some v ∧ v.oneCell' = true ∧ (match i.zero[b]? with | some z => RV.v z.val | none => .any).rel Z w v := by
  have hlz := ti_len h
  rw [repV_get _ _ _ (by rw [List.length_map, hlz]; exact row_lt ha hb)]
  have : (a * i.size + b) % i.size = b := by rw [Nat.mul_comm, Nat.mul_add_mod]; exact Nat.mod_eq_of_lt hb
  rw [List.length_map, hlz, this, List.getElem?_map]
  have hj' : b < i.zero.length := by omega
  rw [List.getElem?_eq_getElem hj']
  exact ⟨_, rfl, ZK.val_one _, rfl⟩

theorem src_slice {t e : TypeId} {ei : TI} (hu : P.underlying t = some (.slice e)) (hc : tyChk P e ei = true) {A' : Option Addr} {m c' : Nat} {news : List Value} (hl : news.length = m * ei.size) (h1 : ∀ v ∈ news, v.oneCell' = true)
    (hA' : 0 < m * ei.size → ∃ b o, A' = some ⟨b, o, none⟩ ∧ ∀ j v, news[j]? = some v → w.cell? ⟨b, o + j, none⟩ = some v) : Src P w e ei t #[t, t] (.slice A' m c') m news := by
  refine ⟨hl, h1, fun ty A n c olds hnc hol hA hg h63 hby => ?_⟩
  obtain ⟨i, hi, hi2, hi3, hz⟩ := ti_info hc
  have hsz := hi2
  refine ⟨grownCap w (n + m) c e, grownCap_ge w (n + m) c e, grownCap_le_maxLen w (n + m) c e h63, ?_⟩
  have hn : ¬ (n + m ≤ c) := by omega
  have h63' : ¬ (9223372036854775807 < ((n : Int) + (m : Int))) := by unfold maxLen at h63; omega
  have h48 := growslice_fits hg hby
  have h48' : ¬ (281474976710656 < Builtin.nextslicecap (n + m) c * i.bytes) := by rw [hi3]; omega
  have hf := run_firstCells_any (P := P) (w := w.drew) (len := m) (c := c') hl hA'
  have hfo := run_firstCells_any (P := P) (w := w.drew) (len := n) (c := c) hol hA
  rw [← hi2] at hf hfo
  simp [Builtin.append_, run_underlying hu, sizeOf, typeInfo, zeroValue, hi, hz, Builtin.lenOf, hn, h63', h48', Question.forced, hf, hfo, newRow, grownCap]
  congr 2
  apply Array.ext'
  simp [List.append_assoc]

theorem src_zeros {t tz e : TypeId} {ei : TI} {k : IntKind} (hu : P.underlying t = some (.slice e)) (huz : P.underlying tz = some (.int k)) (hc : tyChk P e ei = true) (hsz : 0 < ei.size) {m : Nat} (hm : 0 < m) (hmb : m * ei.bytes ≤ 140737488355328) (hm63 : m ≤ 9223372036854775807) :
    Src P w e ei t #[t, tz] (.int .i64 m) m (repV (ei.zero.map ZK.val) m) := by
  refine ⟨by rw [repV_length, List.length_map, ti_len hc], rep_one _ _, fun ty A n c olds hnc hol hA hg h63 hby => ?_⟩
  obtain ⟨i, hi, hi2, hi3, hz⟩ := ti_info hc
  refine ⟨grownCap w (n + m) c e, grownCap_ge w (n + m) c e, grownCap_le_maxLen w (n + m) c e h63, ?_⟩
  have hn : ¬ (n + m ≤ c) := by omega
  have h63' : ¬ (9223372036854775807 < ((n : Int) + (m : Int))) := by unfold maxLen at h63; omega
  have h48 := growslice_fits hg hby
  have h48' : ¬ (281474976710656 < Builtin.nextslicecap (n + m) c * i.bytes) := by rw [hi3]; omega
  have hfo := run_firstCells_any (P := P) (w := w.drew) (len := n) (c := c) hol hA
  rw [← hi2] at hfo
  have hw : IntKind.i64.wrap (m : Int) = m := wrap_inr (by simp only [inr]; omega)
  have hb' : ¬ (281474976710656 < (m : Int) * (i.bytes : Int)) := by
    rw [hi3]
    have h1 : (m : Int) * (ei.bytes : Int) = ((m * ei.bytes : Nat) : Int) := by simp
    rw [h1]; omega
  have hne : ¬ (m * ei.size = 0) := by
    have := Nat.mul_pos hm hsz
    omega
  have hzr := zeroCells_rep hc m
  have hneg : ¬ ((m : Int) < 0) := by omega
  have hne' : ¬ (m * i.size = 0) := by rw [hi2]; exact hne
  clear hne
  simp [Builtin.append_, run_underlying hu, run_underlying huz, sizeOf, typeInfo, zeroValue, hi, hz, hw, hneg, hb', hn, h63', h48', Question.forced, hfo, newRow, grownCap, asInt, asIntOf]
  rw [if_neg hne']
  congr 3
  apply Array.ext'
  simp [List.append_assoc, hzr]

/-- The rows of an append that has grown. -/
theorem joined_cells {Z : Nat → Prop} {k n m : Nat} {xs news rest : List Value} {g get : Nat → Nat → RV} (hx : xs.length = n * k) (h1 : ∀ i j, i < n → j < k → ∃ v, xs[i * k + j]? = some v ∧ (g i j).rel Z w v)
    (hn : news.length = m * k) (h2 : ∀ i j, i < m → j < k → ∃ v, news[i * k + j]? = some v ∧ (get i j).rel Z w v) :
    ∀ i j, i < n + m → j < k → ∃ v, (xs ++ news ++ rest)[i * k + j]? = some v ∧ (joined n m g get i j).rel Z w v := by
  intro i j hi hj
  unfold joined
  by_cases h : i < n
  · rw [if_pos h, List.append_assoc, List.getElem?_append_left (by rw [hx]; exact row_lt h hj)]
    exact h1 i j h hj
  · rw [if_neg h, if_pos hi]
    obtain ⟨v, v1, v2⟩ := h2 (i - n) j (by omega) hj
    refine ⟨v, ?_, v2⟩
    have hle : n * k ≤ i * k := Nat.mul_le_mul_right k (by omega)
    rw [List.append_assoc, List.getElem?_append_right (by omega), List.getElem?_append_left, ← v1, hx, Nat.sub_mul]
    · congr 1; omega
    · have := row_lt (k := k) (show i - n < m by omega) hj
      rw [Nat.sub_mul] at this
      omega

/-- An append that grows gives a new region. -/
theorem app_new (hm : MOK B W n0 σ M F w) (hq : F nx) (hn0 : n0 ≤ w.heap.size) {t ty : TypeId} {ts : Array TypeId} {e : TypeId} {ei : TI} (hc : tyChk P e ei = true) {x : Value} {m : Nat} {news : List Value} (hs : Src P w e ei t ts x m news)
    {A : Option Addr} {n c : Nat} {olds : List Value} (hnc : n ≤ c) (hol : olds.length = n * ei.size) (ho1 : ∀ v ∈ olds, v.oneCell' = true) (hA : 0 < n * ei.size → ∃ b o, A = some ⟨b, o, none⟩ ∧ ∀ j v, olds[j]? = some v → w.cell? ⟨b, o + j, none⟩ = some v)
    (hg : c < n + m) (h63 : n + m ≤ 9223372036854775807) (hby : (n + m) * ei.bytes ≤ 140737488355328) {g get : Nat → Nat → RV} (h1 : ∀ i j, i < n → j < ei.size → ∃ v, olds[i * ei.size + j]? = some v ∧ (g i j).rel (Zof B σ M w) w v)
    (h2 : ∀ i j, i < m → j < ei.size → ∃ v, news[i * ei.size + j]? = some v ∧ (get i j).rel (Zof B σ M w) w v) :
    ∃ y w' L, vrun ((Builtin.append_ ts ty #[.slice A n c, x]).run P w) = .ok (.value y) w' ∧ MOK B W n0 (upd σ nx (some L)) (upd M nx (some (.vec e ei.size (n + m) (joined n m g get)))) (fun r => F r ∧ r ≠ nx) w' ∧
      Keep (Zof B σ M w) (Zof B (upd σ nx (some L)) (upd M nx (some (.vec e ei.size (n + m) (joined n m g get)))) w') w w' ∧ (SV.sl nx ei.size 0 (n + m) none).rel (upd σ nx (some L)) (Zof B (upd σ nx (some L)) (upd M nx (some (.vec e ei.size (n + m) (joined n m g get)))) w') w' y ∧ FrS W n0 w w' := by
  obtain ⟨s1, s2, s3⟩ := hs
  obtain ⟨cap, c1, c2, hrun⟩ := s3 ty A n c olds hnc hol hA hg (by unfold maxLen; omega) hby
  refine new_row hm hq hn0 e ei.size (n + m) cap _ c1 c2 ?_ ?_ (joined_cells hol h1 s1 h2) (FrS.dalloc w _) (heap_new w.drew _) (by rw [hrun]; rfl)
  · rw [List.length_append, List.length_append, hol, s1, zeroCells_rep hc, repV_length, List.length_map, ti_len hc, ← Nat.add_mul, ← Nat.add_mul]
    congr 1; omega
  · intro v hv
    simp only [List.mem_append] at hv
    rcases hv with (hv | hv) | hv
    · exact ho1 v hv
    · exact s2 v hv
    · rw [zeroCells_rep hc] at hv; exact rep_one _ _ v hv

/-- append of m rows. -/
theorem snd_gapp (hT : TabOK P T) (hm : MOK B W n0 σ M F w) (hq : F nx) (hn0 : n0 ≤ w.heap.size) (t ty e : TypeId) {ei : TI} (hu : P.underlying t = some (.slice e)) (hc : tyChk P e ei = true) {ts : Array TypeId} {s : SV} {x y : Value} {ob : Prop} {m : Nat} {get : Nat → Nat → RV} (hx : s.rel σ (Zof B σ M w) w x)
    (hsrc : ob → 0 < ei.size → ∃ news, Src P w e ei t ts y m news ∧ (∀ i j, i < m → j < ei.size → ∃ v, news[i * ei.size + j]? = some v ∧ (get i j).rel (Zof B σ M w) w v))
    (hsame : (∃ r k lo n c, s = .sl r k lo n (some c)) ∧ (ob → 0 < m) ∨ ts = #[t, t] ∧ ∃ A' c', y = .slice A' m c' ∧ (ob → ∃ news : List Value, (news.length = m * ei.size ∧ (∀ v ∈ news, v.oneCell' = true) ∧ (0 < m * ei.size → ∃ b o, A' = some ⟨b, o, none⟩ ∧ ∀ j v, news[j]? = some v → w.cell? ⟨b, o + j, none⟩ = some v)) ∧ ∀ i j, i < m → j < ei.size → ∃ v, news[i * ei.size + j]? = some v ∧ (get i j).rel (Zof B σ M w) w v)) :
    Snd P B W n0 σ M F nx w (vrun ((Builtin.append_ ts ty #[x, y]).run P w)) (gapp e ei M nx s ob m get) := by
  have hzero : ∀ {A : Option Addr} {n c : Nat}, n ≤ c → m = 0 → ts = #[t, t] → (∃ A' c', y = .slice A' m c') → (Builtin.append_ ts ty #[.slice A n c, y]).run P w = .ok (.slice A n c) w := by
    rintro A n c hnc rfl rfl ⟨A', c', rfl⟩
    exact run_append_zero t ty hu hc A A' n c c' hnc
  have hem : ∀ (Z : Nat → Prop) (g : Nat → Nat → RV) i j, i < 0 → j < ei.size → ∃ v, ([] : List Value)[i * ei.size + j]? = some v ∧ (g i j).rel Z w v := fun Z g i j hi => by omega
  -- nothing is appended to nothing: a region of its own without cells
  have nothing : ∀ (A : Option Addr) (R : Reg), (∃ get', R = .vec e ei.size 0 get') → vrun ((Builtin.append_ ts ty #[x, y]).run P w) = .ok (.value (.slice A 0 0)) w → ∃ y' w' L, vrun ((Builtin.append_ ts ty #[x, y]).run P w) = .ok (.value y') w' ∧ MOK B W n0 (upd σ nx (some L)) (upd M nx (some R)) (fun r => F r ∧ r ≠ nx) w' ∧
      Keep (Zof B σ M w) (Zof B (upd σ nx (some L)) (upd M nx (some R)) w') w w' ∧ (SV.sl nx ei.size 0 0 none).rel (upd σ nx (some L)) (Zof B (upd σ nx (some L)) (upd M nx (some R)) w') w' y' ∧ FrS W n0 w w' := by
    rintro A R ⟨get', rfl⟩ hrun
    obtain ⟨e1, e2, e3⟩ := mem_new (w' := w) (L := ⟨none, 0⟩) (R := .vec e ei.size 0 get') hm hq hn0 (Nat.le_refl _) (fun _ _ => rfl) (fun b hb => by cases hb) (fun σ' Z' _ _ => ⟨Nat.le_refl _, by simp [maxLen], .inl ⟨rfl, rfl⟩⟩)
    exact ⟨_, w, ⟨none, 0⟩, hrun, e1, e2, ⟨⟨none, 0⟩, A, upd_same .., rfl, by simp, by simp, by simp, fun _ => .inl rfl⟩, FrS.refl ..⟩
  unfold gapp
  split
  · cases hx
    rintro ⟨o0, o1, o2, o3⟩
    rcases hsame with ⟨⟨_, _, _, _, _, h⟩, _⟩ | ⟨ht, A', c', rfl, _⟩
    · cases h
    by_cases h0 : m = 0
    · subst h0
      exact nothing none _ ⟨get, rfl⟩ (by rw [hzero (Nat.le_refl _) rfl ht ⟨_, _, rfl⟩]; rfl)
    · obtain ⟨news, hs, h2⟩ := hsrc o0 o1
      have := app_new (ty := ty) (A := none) (n := 0) (c := 0) (olds := []) (g := get) hm hq hn0 hc hs (Nat.le_refl _) (by simp) (by simp) (by omega) (by omega) (by omega) (by simp; omega) (hem _ get) h2
      have ej : joined 0 m get get = fun i j => if i < m then get i j else get i j := by
        funext i j; simp [joined]
      simp only [Nat.zero_add, ej, ite_self] at this
      exact this
  · rename_i k n g
    obtain ⟨A, rfl, hA⟩ := hx
    rintro ⟨o0, o1, rfl, o2, o3, o4⟩
    rcases hsame with ⟨⟨_, _, _, _, _, h⟩, _⟩ | ⟨ht, A', c', rfl, _⟩
    · cases h
    by_cases h0 : m = 0
    · subst h0
      have hn : n = 0 := by omega
      subst hn
      exact nothing A _ ⟨_, rfl⟩ (by rw [hzero (Nat.le_refl _) rfl ht ⟨_, _, rfl⟩]; rfl)
    · obtain ⟨news, hs, h2⟩ := hsrc o0 o1
      have hro : rowsOf M ei.size (.r (.rf ei.size n g)) = some (ei.size = ei.size, n, g) := rfl
      obtain ⟨A2, c2, olds, e1, e2, e3, e4, e5⟩ := rows_mem (x := .slice A n n) hm (s := .r (.rf ei.size n g)) ⟨A, rfl, hA⟩ hro rfl
      cases e1
      exact app_new hm hq hn0 hc hs (Nat.le_refl _) e2 e3 e4 (by omega) o4 o3 e5 h2
  · rename_i ref k n
    split
    · rename_i e' k' N g hM
      rintro ⟨o0, o1, rfl, rfl, rfl, o2, o3, o4⟩
      obtain ⟨L, A, g1, rfl, g2, g3, g4, g5⟩ := hx
      rcases hsame with ⟨⟨_, _, _, _, _, h⟩, _⟩ | ⟨ht, A', c', rfl, hsl⟩
      · cases h
      obtain ⟨news, ⟨s1, s2, s3⟩, h2⟩ := hsl o0
      obtain ⟨L', e1, e2⟩ := hm.reg ref _ hM
      rw [g1] at e1; cases e1
      obtain ⟨f0, fm, hf⟩ := e2
      simp only [Option.getD_none, Nat.sub_zero] at g2 g3 g4 ⊢
      have hkZ : ∀ w' : World, (∀ x, x < w.heap.size → L.at_ ≠ some x → w'.heap[x]? = w.heap[x]?) → Keep (Zof B σ M w) (Zof B σ M w) w w' := fun w' h b hb => ⟨hb, h b hb.1.1 fun h => hm.notZ hM g1 h hb⟩
      by_cases h0 : m = 0
      · -- as it was
        subst h0
        have hN : N + (n + 0 - N) = N := by omega
        rw [hN]
        obtain ⟨m1, m2, m3⟩ := mem_app (w' := w) (L := L) (R := .vec e' ei.size N (joined n 0 g get)) hm hn0 hM g1 (Nat.le_refl _) (fun _ _ _ => rfl) (fun b hb => .inl hb) (fun σ' Z' hk => ⟨f0, fm, hf.imp id fun ⟨b, cs, r1, r2, r3, ro, r4⟩ => ⟨b, cs, r1, r2, r3, ro, fun i j hi hj => by
          obtain ⟨v, v1, v0, v2⟩ := r4 i j hi hj
          refine ⟨v, v1, v0, ?_⟩
          have : joined n 0 g get i j = g i j := by unfold joined; split; rfl; rw [if_neg (by omega)]
          rw [this]; exact RV.rel_mono hk _ _ v2⟩⟩)
        exact ⟨_, w, L, by rw [hzero g2 rfl ht ⟨_, _, rfl⟩]; rfl, m1, m2, ⟨L, A, upd_same .., by simp, by simpa using g2, by simp, by simpa using g4, g5⟩, FrS.refl .., m3⟩
      · by_cases hfit : n + m ≤ L.cap
        · -- in place
          obtain ⟨b, b1, rfl⟩ := g4 (by omega)
          rcases hf with ⟨f1, _⟩ | ⟨b', cs, f1, f2, f3, fo, f5⟩
          · rw [f1] at b1; cases b1
          rw [b1] at f1; cases f1
          have hlen : n * ei.size + news.length ≤ cs.length := by rw [s1, f3, ← Nat.add_mul]; exact Nat.mul_le_mul_right _ hfit
          have hmp : 0 < m * ei.size := Nat.mul_pos (by omega) o1
          obtain ⟨b2, o2', rfl, hcell⟩ := s3 hmp
          obtain ⟨i, hi, hi2, hi3, hz⟩ := ti_info hc
          have hrun := run_append_room (P := P) w t ty e' i hu hi b n L.cap cs.toArray f2 ⟨b2, o2', none⟩ m c' news (by rw [hi2]; exact s1) (fun j u hu => by rw [add_none]; exact hcell j u hu) s2 hfit (by rw [hi2]; simpa using hlen)
          rw [hi2] at hrun
          have hpv : (cs.toArray.toList.take (n * ei.size) ++ news ++ cs.toArray.toList.drop (n * ei.size + news.length)).toArray = (putV cs (n * ei.size) news).toArray := rfl
          rw [hpv] at hrun
          have hsm : ∀ x, x < w.heap.size → L.at_ ≠ some x → (w.setRow b (putV cs (n * ei.size) news).toArray).heap[x]? = w.heap[x]? := fun x _ hx => setRow_other _ fun e => hx (by rw [e]; exact b1)
          obtain ⟨m1, m2, m3⟩ := mem_app (w' := w.setRow b (putV cs (n * ei.size) news).toArray) (L := L) (R := .vec e' ei.size (N + (n + m - N)) (joined n m g get)) hm hn0 hM g1 (by rw [setRow_size]; exact Nat.le_refl _) hsm (fun b hb => .inl hb)
            (fun σ' Z' hk => ⟨by omega, fm, .inr ⟨b, _, b1, setRow_here f2, by rw [putV_length hlen]; exact f3, putV_one fo s2, fun i j hi hj => by
              rw [putV_get hlen, s1]
              unfold joined
              by_cases hin : n ≤ i ∧ i < n + m
              · rw [if_pos ((row_div hj).2 hin), if_neg (by omega), if_pos hin.2]
                obtain ⟨v, v1, v2⟩ := h2 (i - n) j (by omega) hj
                refine ⟨v, ?_, s2 v (List.mem_of_getElem? v1), RV.rel_mono hk _ _ v2⟩
                rw [← v1, Nat.sub_mul]
                have : n * ei.size ≤ i * ei.size := Nat.mul_le_mul_right _ hin.1
                congr 1; omega
              · rw [if_neg fun h => hin ((row_div hj).1 h)]
                obtain ⟨v, v1, v0, v2⟩ := f5 i j (by omega) hj
                refine ⟨v, v1, v0, ?_⟩
                by_cases hlt : i < n
                · rw [if_pos hlt]; exact RV.rel_mono hk _ _ v2
                · rw [if_neg hlt, if_neg (by omega)]; exact RV.rel_mono hk _ _ v2⟩⟩)
          refine ⟨.slice (some ⟨b, 0, none⟩) (n + m) L.cap, _, L, by rw [ht]; simp only [Nat.zero_mul]; rw [hrun]; rfl, m1, m2, ⟨L, some ⟨b, 0, none⟩, upd_same .., by simp, by simpa using hfit, by simp, fun _ => ⟨b, b1, by simp⟩, fun _ => .inr (by rw [b1]; rfl)⟩, ⟨rfl, rfl, rfl, by rw [setRow_size]; exact Nat.le_refl _, fun x hx hw => setRow_other _ fun e => ?_⟩, m3⟩
          subst e
          rcases hm.own ref _ L x hM g1 b1 with h' | h'
          · exact hw h'
          · omega
        · -- it grows
          clear hf
          have hnN : n = N := by omega
          subst hnN
          have hN : n + (n + m - n) = n + m := by omega
          rw [hN]
          have hro : rowsOf M ei.size (.sl ref ei.size 0 n none) = some (ei.size = ei.size ∧ ei.size = ei.size ∧ 0 + n ≤ n, n, fun i j => g (0 + i) j) := by simp only [rowsOf, hM]
          obtain ⟨A2, c2, olds, q1, q2, q3, q4, q5⟩ := rows_mem (x := .slice A n L.cap) hm (s := .sl ref ei.size 0 n none) ⟨L, A, g1, by simp, by simpa using g2, by simp, by simpa using g4, g5⟩ hro ⟨rfl, rfl, by omega⟩
          cases q1
          obtain ⟨cap, c1, c2, hrun⟩ := (src_slice (P := P) (c' := c') hu hc s1 s2 s3).2.2 ty A n L.cap olds g2 q2 q4 (by omega) (by unfold maxLen; omega) o3
          have hsm : ∀ o x, x < w.heap.size → L.at_ ≠ some x → (w.drew.alloc o).heap[x]? = w.heap[x]? := fun o x hx _ => heap_old w.drew o x hx
          have hjc := fun rest => joined_cells (Z := Zof B σ M w) (w := w) (rest := rest) q2 q5 s1 h2
          obtain ⟨m1, m2, m3⟩ := mem_app (w' := w.drew.alloc (.cells (olds ++ news ++ (Builtin.zeroCells ei.zeroV.cells (cap - (n + m))).toList).toArray e')) (L := ⟨some w.heap.size, cap⟩) (R := .vec e' ei.size (n + m) (joined n m g get)) hm hn0 hM g1 (by simp) (hsm _) (fun b hb => .inr (by cases hb; exact Nat.le_refl _))
            (fun σ' Z' hk => ⟨c1, c2, .inr ⟨w.heap.size, _, rfl, heap_new w.drew _, by
              show _ = cap * ei.size
              rw [List.length_append, List.length_append, q2, s1, zeroCells_rep hc, repV_length, List.length_map, ti_len hc, ← Nat.add_mul, ← Nat.add_mul]
              congr 1; omega, by
              intro v hv
              simp only [List.mem_append] at hv
              rcases hv with (hv | hv) | hv
              · exact q3 v hv
              · exact s2 v hv
              · rw [zeroCells_rep hc] at hv; exact rep_one _ _ v hv, fun i j hi hj => by
              obtain ⟨v, v1, v2⟩ := hjc (Builtin.zeroCells ei.zeroV.cells (cap - (n + m))).toList i j hi hj
              refine ⟨v, v1, ?_, ?_⟩
              · have hv := List.mem_of_getElem? v1
                simp only [List.mem_append] at hv
                rcases hv with (hv | hv) | hv
                · exact q3 v hv
                · exact s2 v hv
                · rw [zeroCells_rep hc] at hv; exact rep_one _ _ v hv
              · have e : joined n m g get i j = joined n m (fun i j => g (0 + i) j) get i j := by simp only [Nat.zero_add]
                rw [e]; exact RV.rel_mono hk _ _ v2⟩⟩)
          refine ⟨_, _, ⟨some w.heap.size, cap⟩, by rw [ht, hrun]; rfl, m1, m2, ⟨⟨some w.heap.size, cap⟩, _, upd_same .., by simp, by simpa using c1, by simp, fun _ => ⟨w.heap.size, rfl, by simp⟩, fun _ => .inr rfl⟩, ⟨rfl, rfl, rfl, by simp, fun x hx _ => heap_old w.drew _ x (show x < w.heap.size by omega)⟩, m3⟩
    · trivial
  · rename_i ref k lo n c
    split
    · rename_i e' k' N g hM
      rintro ⟨o0, o1, rfl, rfl, o2, o3, o4, o5⟩
      obtain ⟨L, A, g1, rfl, g2, g3, g4, g5⟩ := hx
      simp only [Option.getD_some] at g2 g3 g4 ⊢
      by_cases h0 : m = 0
      · subst h0
        have hn : n = 0 := by omega
        have hcz : c = 0 := by omega
        subst hn; subst hcz
        rcases hsame with ⟨_, h⟩ | ⟨ht, A', c', rfl, _⟩
        · exact absurd (h o0) (Nat.lt_irrefl 0)
        simp only [Option.getD_some] at nothing
        exact nothing A _ ⟨_, rfl⟩ (by rw [hzero (Nat.le_refl _) rfl ht ⟨_, _, rfl⟩]; rfl)
      · obtain ⟨news, hs, h2⟩ := hsrc o0 o1
        have hro : rowsOf M ei.size (.sl ref ei.size lo n (some c)) = some (ei.size = ei.size ∧ ei.size = ei.size ∧ lo + n ≤ N, n, fun i j => g (lo + i) j) := by simp only [rowsOf, hM]
        obtain ⟨A2, c2, olds, q1, q2, q3, q4, q5⟩ := rows_mem (x := .slice A n c) hm (s := .sl ref ei.size lo n (some c)) ⟨L, A, g1, by simp, by simpa using g2, by simpa using g3, by simpa using g4, g5⟩ hro ⟨rfl, rfl, o2⟩
        cases q1
        exact app_new hm hq hn0 hc hs g2 q2 q3 q4 (by omega) o5 o4 q5 h2
    · trivial
  · trivial

theorem snd_append (hT : TabOK P T) (hm : MOK B W n0 σ M F w) (hq : F nx) (hn0 : n0 ≤ w.heap.size) (t ty : TypeId) {s s' : SV} {x y : Value} (hx : s.rel σ (Zof B σ M w) w x) (hy : s'.rel σ (Zof B σ M w) w y) :
    Snd P B W n0 σ M F nx w (vrun ((Builtin.append_ #[t, t] ty #[x, y]).run P w)) (gappend T t M nx s s') := by
  unfold gappend
  split
  · rename_i sz by_ ze e hti
    have hu := und_slice (hT.ti t _ hti) rfl
    split
    · trivial
    rename_i ei hei
    have hc := hT.ti e ei hei
    split
    · trivial
    rename_i ob m get hrows
    by_cases hob : ob
    · obtain ⟨A, c, news, rfl, n1, n2, n3, n4⟩ := rows_mem hm hy hrows hob
      exact snd_gapp hT hm hq hn0 t ty e hu hc hx (fun _ _ => ⟨news, src_slice hu hc n1 n2 n3, n4⟩) (.inr ⟨rfl, A, c, rfl, fun _ => ⟨news, ⟨n1, n2, n3⟩, n4⟩⟩)
    · unfold gapp
      repeat' split
      all_goals first | trivial | exact fun h => absurd h.1 hob
  · trivial

theorem snd_appendZ (hT : TabOK P T) (hm : MOK B W n0 σ M F w) (hq : F nx) (hn0 : n0 ≤ w.heap.size) (t t' ty : TypeId) {s s' : SV} {x y : Value} (hx : s.rel σ (Zof B σ M w) w x) (hy : s'.rel σ (Zof B σ M w) w y) :
    Snd P B W n0 σ M F nx w (vrun ((Builtin.append_ #[t, t'] ty #[x, y]).run P w)) (gappendZ T t t' M nx s s') := by
  unfold gappendZ
  split
  · rename_i sz by_ ze e k m hti hti'
    have hu := und_slice (hT.ti t _ hti) rfl
    cases hy
    have hz : ∃ i', T.ti t' = some i' ∧ i'.kind = .int k := by
      cases hq : T.ti t' with
      | none => rw [hq] at hti'; cases hti'
      | some i' => rw [hq] at hti'; simp at hti'; exact ⟨i', rfl, hti'⟩
    obtain ⟨i', hi', hk'⟩ := hz
    have huz := und_int (hT.ti t' i' hi') hk'
    split
    · trivial
    rename_i ei hei
    have hc := hT.ti e ei hei
    split
    · rename_i ref k0 lo n c
      refine snd_gapp hT hm hq hn0 t ty e hu hc hx (fun hob hsz => ?_) (.inl ⟨⟨_, _, _, _, _, rfl⟩, fun hob => by omega⟩)
      obtain ⟨h1, h2, h3⟩ := hob
      obtain ⟨q, rfl⟩ : ∃ q : Nat, m = q := ⟨m.toNat, by omega⟩
      simp only [Int.toNat_natCast]
      refine ⟨repV (ei.zero.map ZK.val) q, src_zeros hu huz hc hsz (by omega) (by rw [← Int.natCast_mul] at h2; omega) (by omega), fun i j hi hj => ?_⟩
      obtain ⟨v, v1, _, v2⟩ := rep_rows (w := w) hc hi hj (Zof B σ M w)
      exact ⟨v, v1, v2⟩
    · trivial
  · trivial
end
end Go.Gx
