/-
  Each operation does what 'gop' says: slice literals, append, copy, clear.
-/
import Derived.Test.YtaggojedpkddjaaGi
set_option linter.unusedVariables false
set_option linter.unusedSimpArgs false
namespace Go.Gx
open Go.RowKit

section
variable {P : Program} {T : Tab} {B W F : Nat → Prop} {n0 : Nat} {σ : Sig} {M : Mem} {nx : Nat} {w : World} {a : Act} {E : Env}

theorem place_len (pl : Nat → Option (Nat × Nat)) : ∀ (ps : List (Nat × SV)) (l out : List SV), place pl l ps = some out → out.length = l.length
  | [], l, out, h => by simp [place] at h; rw [h]
  | (i, x) :: ps, l, out, h => by
    simp only [place] at h
    split at h
    · cases h
    · split at h
      · rename_i hc
        rw [place_len pl ps _ _ h]
        simp [put]; omega
      · cases h

theorem rep_length (l : List SV) : ∀ n, (rep l n).length = n * l.length
  | 0 => by simp [rep]
  | n + 1 => by simp [rep, rep_length l n, Nat.add_mul]; omega
def repV (l : List Value) : Nat → List Value
  | 0 => []
  | n + 1 => l ++ repV l n
theorem repV_get (l : List Value) : ∀ n j, j < n * l.length → (repV l n)[j]? = l[j % l.length]?
  | 0, j, h => by simp at h
  | n + 1, j, h => by
    simp only [repV]
    by_cases hj : j < l.length
    · rw [List.getElem?_append_left hj, Nat.mod_eq_of_lt hj]
    · rw [List.getElem?_append_right (by omega), repV_get l n _ (by rw [Nat.add_mul] at h; omega)]
      rw [← Nat.mod_eq_sub_mod (by omega)]
theorem repV_length (l : List Value) : ∀ n, (repV l n).length = n * l.length
  | 0 => by simp [repV]
  | n + 1 => by simp [repV, repV_length l n, Nat.add_mul]; omega
theorem relL_rep {Z : Nat → Prop} {l : List SV} {vs : List Value} (h : SV.relL σ Z w l vs) : ∀ n, SV.relL σ Z w (rep l n) (repV vs n)
  | 0 => rfl
  | n + 1 => relL_append h (relL_rep h n)

theorem zeros_eq {ze : List ZK} (n : Nat) (hz : 0 < ze.length) (z : Array Value) (hze : z.toList = ze.map ZK.val) :
    (Array.range (n * ze.length)).map (fun i => z[i % z.size]!) = (repV (ze.map ZK.val) n).toArray := by
  have hsz : z.size = ze.length := by rw [← Array.length_toList, hze]; simp
  apply Array.ext'
  apply List.ext_getElem?
  intro j
  simp only [Array.toList_map, Array.toList_range, List.getElem?_map, hsz]
  by_cases hj : j < n * ze.length
  · rw [List.getElem?_range hj, repV_get _ _ _ (by simpa using hj)]
    have hm : j % ze.length < ze.length := Nat.mod_lt _ hz
    have : z.toList[j % ze.length]? = (ze.map ZK.val)[j % ze.length]? := by rw [hze]
    simp only [List.length_map]
    rw [← this]
    have hm2 : j % ze.length < z.size := by omega
    simp [getElem!_pos, hm2]
  · have h1 : (List.range (n * ze.length))[j]? = none := by rw [List.getElem?_eq_none_iff]; simp; omega
    rw [h1, List.getElem?_eq_none]
    · rfl
    · rw [repV_length]; simp; omega

/-- A new row as a region. -/
theorem new_row (hm : MOK B W n0 σ M F w) (hq : F nx) (hn0 : n0 ≤ w.heap.size) (e : TypeId) (k n cap : Nat) (get : Nat → Nat → RV) {cs : List Value} (hn : n ≤ cap) (hcm : cap ≤ maxLen) (hl : cs.length = cap * k) (h1 : ∀ v ∈ cs, v.oneCell' = true)
    (h2 : ∀ i j, i < n → j < k → ∃ v, cs[i * k + j]? = some v ∧ (get i j).rel (Zof B σ M w) w v) {w' : World} (hf : FrS (fun _ => False) w.heap.size w w') (hb : w'.heap[w.heap.size]? = some (.cells cs.toArray e (0, 0)))
    {run : Result Next} (hr : run = .ok (.value (.slice (some ⟨w.heap.size, 0, none⟩) n cap)) w') :
    ∃ y w' L, run = .ok (.value y) w' ∧ MOK B W n0 (upd σ nx (some L)) (upd M nx (some (.vec e k n get))) (fun r => F r ∧ r ≠ nx) w' ∧
      Keep (Zof B σ M w) (Zof B (upd σ nx (some L)) (upd M nx (some (.vec e k n get))) w') w w' ∧ (SV.sl nx k 0 n none).rel (upd σ nx (some L)) (Zof B (upd σ nx (some L)) (upd M nx (some (.vec e k n get))) w') w' y ∧ FrS W n0 w w' := by
  have hold : ∀ b, b < w.heap.size → w'.heap[b]? = w.heap[b]? := fun b h => hf.block b h fun h => h
  obtain ⟨e1, e2, e3⟩ := mem_new (w' := w') (L := ⟨some w.heap.size, cap⟩) (R := .vec e k n get) hm hq hn0 hf.size hold (fun b hb => by cases hb; exact Nat.le_refl _)
    (fun σ' Z' hs hk => ⟨hn, hcm, .inr ⟨w.heap.size, cs, rfl, hb, hl, h1, fun i j hi hj => by
      obtain ⟨v, g1, g2⟩ := h2 i j hi hj
      exact ⟨v, g1, h1 v (List.mem_of_getElem? g1), RV.rel_mono hk _ _ g2⟩⟩⟩)
  exact ⟨_, _, ⟨some w.heap.size, cap⟩, hr, e1, e2, ⟨⟨some w.heap.size, cap⟩, _, upd_same .., rfl, by simpa using hn, by simp, fun _ => ⟨w.heap.size, rfl, by simp⟩, fun _ => .inr rfl⟩, ⟨hf.os, hf.tape, hf.output, hf.size, fun b hb _ => hold b (by omega)⟩⟩
theorem FrS.alloc (w : World) (o : Obj) : FrS (fun _ => False) w.heap.size w (w.alloc o) := ⟨rfl, rfl, rfl, by simp, fun b hb _ => heap_old w _ b hb⟩
theorem FrS.dalloc (w : World) (o : Obj) : FrS (fun _ => False) w.heap.size w (w.drew.alloc o) := ⟨rfl, rfl, rfl, by simp, fun b hb _ => heap_old w.drew _ b hb⟩
theorem new_vec (hm : MOK B W n0 σ M F w) (hq : F nx) (hn0 : n0 ≤ w.heap.size) (e : TypeId) (k n : Nat) (get : Nat → Nat → RV) {cs : List Value} (hn : n ≤ maxLen) (hl : cs.length = n * k) (h1 : ∀ v ∈ cs, v.oneCell' = true)
    (h2 : ∀ i j, i < n → j < k → ∃ v, cs[i * k + j]? = some v ∧ (get i j).rel (Zof B σ M w) w v)
    {run : Result Next} (hr : run = .ok (.value (.slice (some ⟨w.heap.size, 0, none⟩) n n)) (w.alloc (.cells cs.toArray e))) :
    ∃ y w' L, run = .ok (.value y) w' ∧ MOK B W n0 (upd σ nx (some L)) (upd M nx (some (.vec e k n get))) (fun r => F r ∧ r ≠ nx) w' ∧
      Keep (Zof B σ M w) (Zof B (upd σ nx (some L)) (upd M nx (some (.vec e k n get))) w') w w' ∧ (SV.sl nx k 0 n none).rel (upd σ nx (some L)) (Zof B (upd σ nx (some L)) (upd M nx (some (.vec e k n get))) w') w' y ∧ FrS W n0 w w' :=
  new_row hm hq hn0 e k n n get (Nat.le_refl _) hn hl h1 h2 (FrS.alloc w _) (heap_new w _) hr

theorem snd_buildSlice (hT : TabOK P T) (hm : MOK B W n0 σ M F w) (hq : F nx) (hn0 : n0 ≤ w.heap.size) (t : TypeId) (len : Nat) (ps : Array (Nat × Operand)) (he : EOK σ (Zof B σ M w) w E a) :
    Snd P B W n0 σ M F nx w (vrun ((Instr.buildSlice t len (ps.map fun p => (p.1, a.eval p.2))).run P w)) (gbuildSlice T t len nx (ps.toList.map fun p => (p.1, ev E p.2))) := by
  have hp := forall2_parts he ps.toList
  unfold gbuildSlice
  split
  · rename_i sz by_ ze e hti
    have hu := und_slice (hT.ti t _ hti) rfl
    split
    · trivial
    rename_i ei hei
    have hc := hT.ti e ei hei
    have hlen := ti_len hc
    split
    · rename_i cs hcs
      rintro ⟨o1, o2⟩
      have hz := run_zero hc w
      have hzc := zeroV_cells hc
      obtain ⟨cs', g1, g2, g3⟩ := place_fill _ _ _ _ _ cs (relL_rep (relL_consts (σ := σ) (w := w) (Z := Zof B σ M w) ei.zero) len) (fun v hv => by
        have : ∀ n, ∀ v ∈ repV (ei.zero.map ZK.val) n, v.oneCell' = true := by
          intro n
          induction n with
          | zero => simp [repV]
          | succ n ih =>
            intro v hv
            simp only [repV, List.mem_append] at hv
            rcases hv with hv | hv
            · obtain ⟨z, _, rfl⟩ := List.mem_map.1 hv; exact ZK.val_one z
            · exact ih v hv
        exact this len v hv) hp hcs
      have hl' : cs'.length = len * ei.size := by
        rw [SV.relL_length g2, place_len _ _ _ _ hcs, rep_length]; simp [hlen]
      refine new_vec hm hq hn0 e ei.size len _ (by unfold maxLen; have : len ≤ len * ei.size := Nat.le_mul_of_pos_right _ o1; omega) hl' g3 (fun i j hi hj => ?_) ?_
      · have hlt : i * ei.size + j < cs.length := by rw [← SV.relL_length g2, hl']; exact row_lt hi hj
        obtain ⟨v, v1, v2⟩ := SV.relL_get g2 _ _ (List.getElem?_eq_getElem hlt)
        refine ⟨v, v1, ?_⟩
        rw [List.getD, List.getElem?_eq_getElem hlt]
        exact toRV_rel v2
      · unfold Instr.buildSlice
        rw [Sem.run_bind, run_underlying hu, Result.andThen_ok]
        dsimp only
        rw [Sem.run_bind, run_size hc, Result.andThen_ok]
        rw [if_neg (by simp; omega)]
        by_cases h0 : len * ei.size = 0
        · have hl0 : len = 0 := by
            rcases Nat.mul_eq_zero.1 h0 with h | h <;> omega
          subst hl0
          have hr0 : (Array.range (0 * ei.size)).map (fun i => (#[] : Array Value)[i % (#[] : Array Value).size]!) = (repV (ei.zero.map ZK.val) 0).toArray := by simp [repV]
          simp only [Nat.zero_mul, if_true] at *
          simp only [Sem.run_bind, Sem.run_pure, Result.andThen_ok]
          have hr1 : (Array.range 0).map (fun i => (#[] : Array Value)[i % (#[] : Array Value).size]!) = (repV (ei.zero.map ZK.val) 0).toArray := by simp [repV]
          rw [hr1, Array.toList_map, g1]
          simp [newRow, vrun]
        · rw [if_neg h0]
          rw [Sem.run_bind, hz, Result.andThen_ok]
          rw [pure_bind]
          have hzz := zeros_eq len (by omega) ei.zeroV.cells hzc
          rw [hlen] at hzz
          rw [hzz, Array.toList_map, g1]
          simp [newRow, vrun]
    · trivial
  · trivial
end
end Go.Gx
