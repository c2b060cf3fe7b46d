/-
  Each operation does what 'gop' says: copy, clear, len, min, max; all operations.
-/
import Derived.Test.YtaggojedpkddjaaGk
set_option linter.unusedVariables false
set_option linter.unusedSimpArgs false
namespace Go.Gx
open Go.RowKit

section
variable {P : Program} {T : Tab} {B W F : Nat → Prop} {n0 : Nat} {σ : Sig} {M : Mem} {nx : Nat} {w : World} {a : Act} {E : Env}

/-- Rows written into a region. -/
theorem set_rows (hm : MOK B W n0 σ M F w) {ref : Nat} {e k N : Nat} {g : Nat → Nat → RV} (hM : M ref = some (.vec e k N g)) {L : Loc} {b : Nat} (hσ : σ ref = some L) (hb : L.at_ = some b) {cs : List Value} (hh : w.heap[b]? = some (.cells cs.toArray e (0, 0)))
    (hcs : cs.length = L.cap * k) {lo cnt : Nat} {vs : List Value} (hv : vs.length = cnt * k) (hle : lo + cnt ≤ N) (h1 : ∀ v ∈ vs, v.oneCell' = true) {h : Nat → Nat → RV}
    (hnew : ∀ i j, i < cnt → j < k → ∃ v, vs[i * k + j]? = some v ∧ v.oneCell' = true ∧ (h i j).rel (Zof B σ M w) w v) :
    MOK B W n0 σ (upd M ref (some (.vec e k N fun i j => if lo ≤ i ∧ i < lo + cnt then h (i - lo) j else g i j))) F (w.setRow b (putV cs (lo * k) vs).toArray) ∧
      Keep (Zof B σ M w) (Zof B σ (upd M ref (some (.vec e k N fun i j => if lo ≤ i ∧ i < lo + cnt then h (i - lo) j else g i j))) (w.setRow b (putV cs (lo * k) vs).toArray)) w (w.setRow b (putV cs (lo * k) vs).toArray) := by
  obtain ⟨L', e1, e2⟩ := hm.reg ref _ hM
  rw [hσ] at e1; cases e1
  obtain ⟨f0, fm, f | ⟨b', cs', f1, f2, f3, fo, f5⟩⟩ := e2
  · rw [hb] at f; cases f.1
  rw [hb] at f1; cases f1
  rw [hh] at f2; cases f2
  have hfit : lo * k + vs.length ≤ cs.length := by rw [hv, hcs, ← Nat.add_mul]; exact Nat.mul_le_mul_right k (by omega)
  refine mem_set hm hM hσ hb (setRow_size ..) (fun x hx => setRow_other _ hx) fun Z' hk => ⟨f0, fm, .inr ⟨b, _, hb, setRow_here hh, by rw [putV_length hfit]; exact hcs, putV_one fo h1, fun i j hi hj => ?_⟩⟩
  rw [putV_get hfit, hv]
  by_cases hin : lo ≤ i ∧ i < lo + cnt
  · rw [if_pos ((row_div hj).2 hin)]
    dsimp only
    rw [if_pos hin]
    obtain ⟨v, v1, v0, v2⟩ := hnew (i - lo) j (by omega) hj
    refine ⟨v, ?_, v0, RV.rel_mono hk _ _ v2⟩
    rw [← v1, Nat.sub_mul]
    have : lo * k ≤ i * k := Nat.mul_le_mul_right k hin.1
    congr 1; omega
  · rw [if_neg fun h => hin ((row_div hj).1 h)]
    dsimp only
    rw [if_neg hin]
    obtain ⟨v, v1, v0, v2⟩ := f5 i j hi hj
    exact ⟨v, v1, v0, RV.rel_mono hk _ _ v2⟩

theorem run_storeRow {b o : Nat} {cs vs : List Value} {ty : TypeId} (hb : w.heap[b]? = some (.cells cs.toArray ty (0, 0))) (ho : o + vs.length ≤ cs.length) (h1 : ∀ v ∈ vs, v.oneCell' = true) :
    (storeCells ⟨b, o, none⟩ vs).run P w = .ok () (w.setRow b (putV cs o vs).toArray) := by
  have := run_storeCells_at P b o ty vs 0 cs.toArray w hb (by simpa using ho) h1
  simpa [putV] using this

theorem snd_copy (hT : TabOK P T) (hm : MOK B W n0 σ M F w) (t t' ty : TypeId) {s s' : SV} {x y : Value} (hx : s.rel σ (Zof B σ M w) w x) (hy : s'.rel σ (Zof B σ M w) w y) :
    Snd P B W n0 σ M F nx w (vrun ((Builtin.copy_ #[t, t'] ty #[x, y]).run P w)) (gcopy T t M s s') := by
  unfold gcopy
  split
  · rename_i sz by_ ze e hti
    have hu := und_slice (hT.ti t _ hti) rfl
    split
    · trivial
    rename_i ei hei
    have hc := hT.ti e ei hei
    split
    · rename_i ob m get ref k lo n c hrows
      split
      · rename_i e' k' N g hM
        rintro ⟨o0, rfl, rfl, o3⟩
        obtain ⟨A, c2, news, rfl, n1, n2, n3, n4⟩ := rows_mem hm hy hrows o0
        obtain ⟨L, A', g1, rfl, g2, g3, g4, g5⟩ := hx
        obtain ⟨L', e1, e2⟩ := hm.reg ref _ hM
        rw [g1] at e1; cases e1
        have hcnt : min m n ≤ m ∧ min m n ≤ n := ⟨Nat.min_le_left .., Nat.min_le_right ..⟩
        by_cases h0 : min m n * ei.size = 0
        · -- nothing is copied
          have hrun : (Builtin.copy_ #[t, t'] ty #[.slice A' n (c.getD (L.cap - lo)), .slice A m c2]).run P w = .ok (goInt (min m n : Nat)) w := by
            simp only [Builtin.copy_]
            simp [run_underlying hu, Builtin.lenOf, run_size hc, h0]
            cases A <;> cases A' <;> simp [Builtin.firstCells, h0, loadCells, loadCellsFrom, storeCells]
          obtain ⟨m1, m2⟩ := set_same (R' := .vec e' ei.size N fun i j => if lo ≤ i ∧ i < lo + min m n then get (i - lo) j else g i j) hm hM (fun L Z w' _ h => by
            obtain ⟨q0, qm, q⟩ := h
            refine ⟨q0, qm, q.imp id fun ⟨b, cs, q1, q2, q3, qo, q4⟩ => ⟨b, cs, q1, q2, q3, qo, fun i j hi hj => ?_⟩⟩
            have hz : min m n = 0 := by
              rcases Nat.mul_eq_zero.1 h0 with h | h
              · exact h
              · omega
            dsimp only
            rw [hz, if_neg (by omega)]
            exact q4 i j hi hj)
          exact ⟨_, w, .inl (by rw [hrun]; rfl), m1, m2, rfl, FrS.refl ..⟩
        · have hpos : 0 < min m n := by
            rcases Nat.eq_zero_or_pos (min m n) with h | h
            · rw [h] at h0; simp at h0
            · exact h
          have hsz : 0 < ei.size := by
            rcases Nat.eq_zero_or_pos ei.size with h | h
            · rw [h] at h0; simp at h0
            · exact h
          obtain ⟨b, q1, rfl⟩ := g4 (by omega)
          obtain ⟨b2, o2, rfl, hcell⟩ := n3 (Nat.mul_pos (by omega) hsz)
          obtain ⟨f0, fm, f | ⟨b', cs, f1, f2, f3, fo, f5⟩⟩ := e2
          · rw [q1] at f; cases f.1
          rw [q1] at f1; cases f1
          have hlen : (news.take (min m n * ei.size)).length = min m n * ei.size := by
            rw [List.length_take, n1]; exact Nat.min_eq_left (Nat.mul_le_mul_right _ hcnt.1)
          have hload := run_loadCells_list (P := P) w ⟨b2, o2, none⟩ (news.take (min m n * ei.size)) (fun j v hv => by
            rw [List.getElem?_take] at hv
            split at hv
            · rw [add_none]; exact hcell j v hv
            · cases hv)
          rw [hlen] at hload
          have hfit : lo * ei.size + (news.take (min m n * ei.size)).length ≤ cs.length := by rw [hlen, f3, ← Nat.add_mul]; exact Nat.mul_le_mul_right _ (by omega)
          have hst := run_storeRow (P := P) f2 hfit (fun v hv => n2 v (List.mem_of_mem_take hv))
          have hrun : (Builtin.copy_ #[t, t'] ty #[.slice (some ⟨b, lo * ei.size, none⟩) n (c.getD (L.cap - lo)), .slice (some ⟨b2, o2, none⟩) m c2]).run P w = .ok (goInt (min m n : Nat)) (w.setRow b (putV cs (lo * ei.size) (news.take (min m n * ei.size))).toArray) := by
            simp only [Builtin.copy_]
            simp only [List.getElem?_toArray, List.getElem?_cons_zero, List.getElem?_cons_succ, Sem.run_bind, run_underlying hu, Result.andThen_ok, Builtin.lenOf, Sem.run_pure, run_size hc, Builtin.firstCells]
            rw [show Nat.min m n = min m n from rfl, hload]
            simp only [Result.andThen_ok]
            rw [hst]
            rfl
          obtain ⟨m1, m2⟩ := set_rows (lo := lo) (cnt := min m n) (h := get) hm hM g1 q1 f2 f3 hlen (by omega) (fun v hv => n2 v (List.mem_of_mem_take hv)) (fun i j hi hj => by
            obtain ⟨v, v1, v2⟩ := n4 i j (by omega) hj
            refine ⟨v, ?_, n2 v (List.mem_of_getElem? v1), v2⟩
            rw [List.getElem?_take, if_pos (row_lt hi hj)]; exact v1)
          exact ⟨_, _, .inl (by rw [hrun]; rfl), m1, m2, rfl, FrS.setRow hm hM g1 q1 _⟩
      · trivial
    · trivial
  · trivial

theorem snd_clear (hT : TabOK P T) (hm : MOK B W n0 σ M F w) (t ty : TypeId) {s : SV} {x : Value} (hx : s.rel σ (Zof B σ M w) w x) :
    Snd P B W n0 σ M F nx w (vrun ((Builtin.clear_ #[t] ty #[x]).run P w)) (gclear T t M s) := by
  unfold gclear
  split
  · rename_i sz by_ ze e hti
    have hu := und_slice (hT.ti t _ hti) rfl
    split
    · trivial
    rename_i ei hei
    have hc := hT.ti e ei hei
    split
    · rename_i ref k lo n c
      split
      · rename_i e' k' N g hM
        rintro ⟨rfl, rfl, o3⟩
        obtain ⟨L, A', g1, rfl, g2, g3, g4, g5⟩ := hx
        obtain ⟨L', e1, e2⟩ := hm.reg ref _ hM
        rw [g1] at e1; cases e1
        by_cases h0 : n = 0
        · subst h0
          have hrun : (Builtin.clear_ #[t] ty #[.slice A' 0 (c.getD (L.cap - lo))]).run P w = .ok (.tuple #[]) w := by
            simp only [Builtin.clear_]
            cases A' <;> simp [run_underlying hu]
          obtain ⟨m1, m2⟩ := set_same (R' := .vec e' ei.size N fun i j => if lo ≤ i ∧ i < lo + 0 then (match ei.zero[j]? with | some z => .v z.val | none => .any) else g i j) hm hM (fun L Z w' _ h => by
            obtain ⟨q0, qm, q⟩ := h
            refine ⟨q0, qm, q.imp id fun ⟨b, cs, q1, q2, q3, qo, q4⟩ => ⟨b, cs, q1, q2, q3, qo, fun i j hi hj => ?_⟩⟩
            dsimp only
            rw [if_neg (by omega)]
            exact q4 i j hi hj)
          exact ⟨_, w, .inl (by rw [hrun]; rfl), m1, m2, ⟨[], rfl, rfl⟩, FrS.refl ..⟩
        · obtain ⟨b, q1, rfl⟩ := g4 (by omega)
          obtain ⟨f0, fm, f | ⟨b', cs, f1, f2, f3, fo, f5⟩⟩ := e2
          · rw [q1] at f; cases f.1
          rw [q1] at f1; cases f1
          have hzc := zeroV_cells hc
          have hlz := ti_len hc
          have hze : (Builtin.zeroCells ei.zeroV.cells n).toList = repV (ei.zero.map ZK.val) n := by
            unfold Builtin.zeroCells
            rcases Nat.eq_zero_or_pos ei.zero.length with h | h
            · have : ei.zeroV.cells.size = 0 := by rw [← Array.length_toList, hzc]; simp [h]
              have h2 : ei.zero = [] := List.eq_nil_of_length_eq_zero h
              rw [this, h2]
              have : ∀ n, repV ([] : List Value) n = [] := by intro n; induction n with
                | zero => rfl
                | succ n ih => simp [repV, ih]
              simp [this]
            · have := zeros_eq n h ei.zeroV.cells hzc
              have h3 : ei.zeroV.cells.size = ei.zero.length := by rw [← Array.length_toList, hzc]; simp
              rw [h3, show (Array.range (n * ei.zero.length)).map (fun i => ei.zeroV.cells[i % ei.zero.length]!) = (Array.range (n * ei.zero.length)).map (fun i => ei.zeroV.cells[i % ei.zeroV.cells.size]!) from by rw [h3], this]
          have hlen : (repV (ei.zero.map ZK.val) n).length = n * ei.size := by rw [repV_length, List.length_map, hlz]
          have hfit : lo * ei.size + (repV (ei.zero.map ZK.val) n).length ≤ cs.length := by rw [hlen, f3, ← Nat.add_mul]; exact Nat.mul_le_mul_right _ (by omega)
          have hone : ∀ v ∈ repV (ei.zero.map ZK.val) n, v.oneCell' = true := by
            intro v hv
            obtain ⟨j, hj, rfl⟩ := List.getElem_of_mem hv
            have h1 := repV_get (ei.zero.map ZK.val) n j (by rw [repV_length] at hj; exact hj)
            rw [List.getElem?_eq_getElem hj] at h1
            have := List.mem_of_getElem? h1.symm
            obtain ⟨z, _, hz⟩ := List.mem_map.1 this
            rw [← hz]; exact ZK.val_one z
          have hst := run_storeRow (P := P) f2 hfit hone
          have hrun : (Builtin.clear_ #[t] ty #[.slice (some ⟨b, lo * ei.size, none⟩) n (c.getD (L.cap - lo))]).run P w = .ok (.tuple #[]) (w.setRow b (putV cs (lo * ei.size) (repV (ei.zero.map ZK.val) n)).toArray) := by
            simp only [Builtin.clear_]
            simp only [List.getElem?_toArray, List.getElem?_cons_zero, Sem.run_bind, run_underlying hu, Result.andThen_ok]
            cases n with
            | zero => omega
            | succ n =>
              rw [run_zero hc, Result.andThen_ok]
              rw [hze, hst]
              rfl
          obtain ⟨m1, m2⟩ := set_rows (lo := lo) (cnt := n) (h := fun i j => (match ei.zero[j]? with | some z => .v z.val | none => .any)) hm hM g1 q1 f2 f3 hlen (by omega) hone (fun i j hi hj => by
            rw [repV_get _ _ _ (by rw [List.length_map, hlz]; exact row_lt hi hj)]
            have : (i * ei.size + j) % ei.size = j := by rw [Nat.mul_comm, Nat.mul_add_mod]; exact Nat.mod_eq_of_lt hj
            rw [List.length_map, hlz, this, List.getElem?_map]
            have hj' : j < ei.zero.length := by omega
            rw [List.getElem?_eq_getElem hj']
            exact ⟨_, rfl, ZK.val_one _, rfl⟩)
          exact ⟨_, _, .inl (by rw [hrun]; rfl), m1, m2, ⟨[], rfl, rfl⟩, FrS.setRow hm hM g1 q1 _⟩
      · trivial
    · cases hx
      intro _
      exact POut.of (y := .tuple #[]) (by simp [Builtin.clear_, run_underlying hu]) ⟨[], rfl, rfl⟩
    · trivial
  · trivial

theorem snd_len (hT : TabOK P T) (t ty : TypeId) {s : SV} {x : Value} (hx : s.rel σ (Zof B σ M w) w x) :
    Snd P B W n0 σ M F nx w (vrun ((Builtin.len_ #[t] ty #[x]).run P w)) (glen T t s) := by
  unfold glen
  split
  · rename_i sz by_ ze e hti
    have hu := und_slice (hT.ti t _ hti) rfl
    split
    · obtain ⟨A, c, rfl, _⟩ := hx
      intro _
      exact POut.of (by simp [Builtin.len_, run_underlying hu]; rfl) rfl
    · obtain ⟨A, rfl, _⟩ := hx
      intro _
      exact POut.of (by simp [Builtin.len_, run_underlying hu]; rfl) rfl
    · obtain ⟨L, A, _, rfl, _⟩ := hx
      intro _
      exact POut.of (by simp [Builtin.len_, run_underlying hu]; rfl) rfl
    · cases hx
      intro _
      exact POut.of (by simp [Builtin.len_, run_underlying hu]; rfl) rfl
    · trivial
  · rename_i sz by_ ze n es g hti
    obtain ⟨e, hu, _, _⟩ := und_array (hT.ti t _ hti) rfl
    intro _
    exact POut.of (by simp [Builtin.len_, run_underlying hu]; rfl) rfl
  · trivial

theorem snd_max (ts : Array TypeId) (ty : TypeId) {l : List SV} {vs : List Value} (hx : SV.relL σ (Zof B σ M w) w l vs) :
    Snd P B W n0 σ M F nx w (vrun ((Builtin.max_ ts ty vs.toArray).run P w)) (gminmax true l) := by
  unfold gminmax
  split
  · rename_i x y
    obtain ⟨_, _, rfl, e1, _, _, rfl, e2, e3⟩ := hx
    cases e1; cases e2; cases e3
    intro _
    refine POut.of (y := .int .i64 (max x y)) ?_ rfl
    simp [Builtin.max_, Builtin.max2]
    split <;> omega
  · rename_i x y z
    obtain ⟨_, _, rfl, e1, _, _, rfl, e2, _, _, rfl, e3, e4⟩ := hx
    cases e1; cases e2; cases e3; cases e4
    intro _
    refine POut.of (y := .int .i64 (max (max x y) z)) ?_ rfl
    simp [Builtin.max_, Builtin.max2]
    split <;> split <;> omega
  · trivial
theorem snd_min (ts : Array TypeId) (ty : TypeId) {l : List SV} {vs : List Value} (hx : SV.relL σ (Zof B σ M w) w l vs) :
    Snd P B W n0 σ M F nx w (vrun ((Builtin.min_ ts ty vs.toArray).run P w)) (gminmax false l) := by
  unfold gminmax
  split
  · rename_i x y
    obtain ⟨_, _, rfl, e1, _, _, rfl, e2, e3⟩ := hx
    cases e1; cases e2; cases e3
    intro _
    refine POut.of (y := .int .i64 (min x y)) ?_ rfl
    simp [Builtin.min_, Builtin.min2]
    split <;> omega
  · rename_i x y z
    obtain ⟨_, _, rfl, e1, _, _, rfl, e2, _, _, rfl, e3, e4⟩ := hx
    cases e1; cases e2; cases e3; cases e4
    intro _
    refine POut.of (y := .int .i64 (min (min x y) z)) ?_ rfl
    simp [Builtin.min_, Builtin.min2]
    split <;> split <;> omega
  · trivial
end
end Go.Gx
