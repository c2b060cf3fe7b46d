/-
  The arguments of the laws of indexes, as ghosts.
-/
import Derived.Test.YtdnblflhlklfnaaIo
set_option linter.unusedVariables false
set_option linter.unusedSimpArgs false
set_option maxRecDepth 20000
set_option maxHeartbeats 2000000
namespace Go.Gx.Ix
open Go.RowKit Go.WideShapes Go.ChangeShapes Go.Proofs Go.Proofs.Ytdnblflhlklfnaa

abbrev csI : CS := .sc (.int .i64)
abbrev csW : CS := .sc (.int .u64)
abbrev csY : CS := .sc (.int .u8)
abbrev slOf (l : List CS) : CS := .sl l.length fun j => l.getD j (.sc .bool)
abbrev csP : CS := slOf [csY, csY, slOf [csI]]
theorem flat22 : flatT Try.prog 8 22 = some [slOf [csI, csW, csW]] := by kernel_rfl
theorem flat41 : flatT Try.prog 8 41 = some [csW, csW] := by kernel_rfl
theorem flat43 : flatT Try.prog 8 43 = some [csI, csW, csW] := by kernel_rfl
theorem flat58 : flatT Try.prog 8 58 = some [csI, csI] := by kernel_rfl
theorem flat26 : flatT Try.prog 8 26 = some [slOf [csI, csW, csW], csP, csP, csP, csP, csP, csP, csP, csP] := by kernel_rfl
section
variable {W : World}
abbrev ZW (W : World) : Nat → Prop := fun b => b < W.heap.size
def v64 (v : Value) : BitVec 64 := BitVec.ofInt 64 (vi v)
def v8 (v : Value) : BitVec 8 := BitVec.ofInt 8 (vi v)
theorem one_vi {k : IntKind} {v : Value} (h : CSok W (.sc (.int k)) v) : v.oneCell' = true := by rw [ok_int h]; rfl
theorem rel_vi {Z : Nat → Prop} {v : Value} (h : CSok W csI v) : (RV.i (vi v)).rel Z W v := ok_int h
theorem rel_v64 {Z : Nat → Prop} {v : Value} (h : CSok W csW v) : (RV.w (v64 v)).rel Z W v := by
  obtain ⟨n, rfl, hw⟩ := h
  show Value.int .u64 n = .int .u64 _
  simp [Lit.wf, IntKind.min, IntKind.max, IntKind.bits, IntKind.signed] at hw
  have : ((v64 (.int .u64 n)).toNat : Int) = n := by
    have h2 : n % 18446744073709551616 = n := by omega
    unfold v64 vi
    rw [BitVec.toNat_ofInt]
    show ((n % 18446744073709551616).toNat : Int) = n
    rw [h2]; omega
  rw [this]
theorem rel_v8 {Z : Nat → Prop} {v : Value} (h : CSok W csY v) : (RV.y (v8 v)).rel Z W v := by
  obtain ⟨n, rfl, hw⟩ := h
  show Value.int .u8 n = .int .u8 _
  simp [Lit.wf, IntKind.min, IntKind.max, IntKind.bits, IntKind.signed] at hw
  have : ((v8 (.int .u8 n)).toNat : Int) = n := by
    have h2 : n % 256 = n := by omega
    unfold v8 vi
    rw [BitVec.toNat_ofInt]
    show ((n % 256).toNat : Int) = n
    rw [h2]; omega
  rw [this]
theorem sl_one {k : Nat} {fs : Nat → CS} {v : Value} (h : CSok W (.sl k fs) v) : v.oneCell' = true := by
  obtain ⟨A, n, c, rfl, _⟩ := h; rfl
theorem mem_rows {v : Value} (h : CSok W (slOf [csI, csW, csW]) v) : ∃ l : List MbG, ∀ σ, (mrs l).rel σ (ZW W) W v := by
  obtain ⟨n, cv, _, h1, h2⟩ := rows_of h
  have hl : ((List.range n).map fun i => MbG.mk (vi (cv i 0)) ⟨v64 (cv i 1), v64 (cv i 2)⟩).length = n := by simp
  refine ⟨(List.range n).map fun i => ⟨vi (cv i 0), ⟨v64 (cv i 1), v64 (cv i 2)⟩⟩, fun σ => ?_⟩
  have := h2 (mrows ((List.range n).map fun i => MbG.mk (vi (cv i 0)) ⟨v64 (cv i 1), v64 (cv i 2)⟩)) (fun i j hi hj => ?_) σ
  · rw [mrs, hl]; exact this
  have hc := h1 i j hi hj
  rw [mrow (by rw [hl]; exact hi)]
  rw [List.getElem_map, List.getElem_range]
  match j, hj, hc with
  | 0, _, hc => exact ⟨one_vi hc, rel_vi hc⟩
  | 1, _, hc => exact ⟨one_vi hc, rel_v64 hc⟩
  | 2, _, hc => exact ⟨one_vi hc, rel_v64 hc⟩
  | j + 3, hj, _ => exact absurd hj (by simp)
theorem int_rows {v : Value} (h : CSok W (slOf [csI]) v) : ∃ l : List Int, (RV.rs 1 l.length (irows l)).rel (ZW W) W v := by
  obtain ⟨n, cv, _, h1, h2⟩ := rows_of h
  have hl : ((List.range n).map fun i => vi (cv i 0)).length = n := by simp
  refine ⟨(List.range n).map fun i => vi (cv i 0), ?_⟩
  have := h2 (irows ((List.range n).map fun i => vi (cv i 0))) (fun i j hi hj => ?_) (fun _ => none)
  · rw [hl]; exact this
  have hc := h1 i j hi hj
  rw [irow (by rw [hl]; exact hi)]
  rw [List.getElem_map, List.getElem_range]
  match j, hj, hc with
  | 0, _, hc => exact ⟨one_vi hc, rel_vi hc⟩
  | j + 1, hj, _ => exact absurd hj (by simp)
theorem post_rows {v : Value} (h : CSok W csP v) : ∃ L : List PsG, ∀ σ, (pls L).rel σ (ZW W) W v := by
  obtain ⟨n, cv, _, h1, h2⟩ := rows_of h
  have hv : ∀ i, ∃ p : List Int, i < n → (RV.rs 1 p.length (irows p)).rel (ZW W) W (cv i 2) := fun i => by
    by_cases hi : i < n
    · obtain ⟨l, hl⟩ := int_rows (h1 i 2 hi (by decide))
      exact ⟨l, fun _ => hl⟩
    · exact ⟨[], fun h => absurd h hi⟩
  obtain ⟨f, hf⟩ := Classical.axiomOfChoice hv
  have hl : ((List.range n).map fun i => PsG.mk (v8 (cv i 0)) (v8 (cv i 1)) (f i)).length = n := by simp
  refine ⟨(List.range n).map fun i => ⟨v8 (cv i 0), v8 (cv i 1), f i⟩, fun σ => ?_⟩
  have := h2 (prows ((List.range n).map fun i => PsG.mk (v8 (cv i 0)) (v8 (cv i 1)) (f i))) (fun i j hi hj => ?_) σ
  · rw [pls, hl]; exact this
  have hc := h1 i j hi hj
  rw [prow (by rw [hl]; exact hi)]
  rw [List.getElem_map, List.getElem_range]
  match j, hj, hc with
  | 0, _, hc => exact ⟨one_vi hc, rel_v8 hc⟩
  | 1, _, hc => exact ⟨one_vi hc, rel_v8 hc⟩
  | 2, _, hc => exact ⟨sl_one hc, hf i hi⟩
  | j + 3, hj, _ => exact absurd hj (by simp)
section
variable {H : Type} {enc : TypeId × Value → H} {base : Nat} {spare : Nat → Bool} {held : Bool}
theorem mem_arg {v : Value} {d : DataW H} {p : List MemPlace} {r : Reach} {b0 : Nat} (hv : Value.okWide Try.prog W r b0 22 v) (h : DataW.Trod enc Try.prog W base spare held 22 v d p) : ∃ l : List MbG, ∀ σ, (mrs l).rel σ (ZW W) W v := by
  have hone : v.cells.toList = [v] := by
    simp only [Value.okWide, Try.underlying22, Cell.okWide] at hv
    cases v <;> simp_all [Cell.ok, Value.cells]
  have hc := open_flat flat22 h
  rw [hone] at hc
  obtain ⟨v0, _, e, h0, rfl⟩ := hc
  cases e
  exact mem_rows h0
theorem iris_arg {v : Value} {d : DataW H} {p : List MemPlace} {r : Reach} {b0 : Nat} (hv : Value.okWide Try.prog W r b0 41 v) (h : DataW.Trod enc Try.prog W base spare held 41 v d p) : ∃ x : IrG, ∀ σ, x.sv.rel σ (ZW W) W v := by
  obtain ⟨cs, rfl, _⟩ := okWide_struct Try.underlying41 hv
  have hc := open_flat flat41 h
  obtain ⟨cs⟩ := cs
  simp only [Value.cells] at hc
  obtain ⟨v0, _, e, h0, v1, _, rfl, h1, rfl⟩ := hc
  cases e
  refine ⟨⟨v64 v0, v64 v1⟩, fun σ => ⟨[v0, v1], rfl, fun v hv => ?_, v0, _, rfl, rel_v64 (Z := ZW W) h0, v1, _, rfl, rel_v64 (Z := ZW W) h1, rfl⟩⟩
  simp at hv
  rcases hv with rfl | rfl
  · exact one_vi h0
  · exact one_vi h1
theorem member_arg {v : Value} {d : DataW H} {p : List MemPlace} {r : Reach} {b0 : Nat} (hv : Value.okWide Try.prog W r b0 43 v) (h : DataW.Trod enc Try.prog W base spare held 43 v d p) : ∃ x : MbG, ∀ σ, x.sv.rel σ (ZW W) W v := by
  obtain ⟨cs, rfl, _⟩ := okWide_struct Try.underlying43 hv
  have hc := open_flat flat43 h
  obtain ⟨cs⟩ := cs
  simp only [Value.cells] at hc
  obtain ⟨v0, _, e, h0, v1, _, rfl, h1, v2, _, rfl, h2, rfl⟩ := hc
  cases e
  refine ⟨⟨vi v0, ⟨v64 v1, v64 v2⟩⟩, fun σ => ⟨[v0, v1, v2], rfl, fun v hv => ?_, v0, _, rfl, rel_vi (Z := ZW W) h0, v1, _, rfl, rel_v64 (Z := ZW W) h1, v2, _, rfl, rel_v64 (Z := ZW W) h2, rfl⟩⟩
  simp at hv
  rcases hv with rfl | rfl | rfl
  · exact one_vi h0
  · exact one_vi h1
  · exact one_vi h2
abbrev limS (num den : Int) : SV := .agg [.i num, .i den]
theorem limit_arg {v : Value} {d : DataW H} {p : List MemPlace} {r : Reach} {b0 : Nat} (hv : Value.okWide Try.prog W r b0 58 v) (h : DataW.Trod enc Try.prog W base spare held 58 v d p) : ∃ q : Int × Int, ∀ σ, (limS q.1 q.2).rel σ (ZW W) W v := by
  obtain ⟨cs, rfl, _⟩ := okWide_struct Try.underlying58 hv
  have hc := open_flat flat58 h
  obtain ⟨cs⟩ := cs
  simp only [Value.cells] at hc
  obtain ⟨v0, _, e, h0, v1, _, rfl, h1, rfl⟩ := hc
  cases e
  refine ⟨(vi v0, vi v1), fun σ => ⟨[v0, v1], rfl, fun v hv => ?_, v0, _, rfl, rel_vi (Z := ZW W) h0, v1, _, rfl, rel_vi (Z := ZW W) h1, rfl⟩⟩
  simp at hv
  rcases hv with rfl | rfl
  · exact one_vi h0
  · exact one_vi h1
theorem index_arg {v : Value} {d : DataW H} {p : List MemPlace} {r : Reach} {b0 : Nat} (hv : Value.okWide Try.prog W r b0 26 v) (h : DataW.Trod enc Try.prog W base spare held 26 v d p) : ∃ x : IxG, ∀ σ, x.sv.rel σ (ZW W) W v := by
  obtain ⟨cs, rfl, _⟩ := okWide_struct Try.underlying26 hv
  have hc := open_flat flat26 h
  obtain ⟨cs⟩ := cs
  simp only [Value.cells] at hc
  obtain ⟨v0, _, e, h0, v1, _, rfl, h1, v2, _, rfl, h2, v3, _, rfl, h3, v4, _, rfl, h4, v5, _, rfl, h5, v6, _, rfl, h6, v7, _, rfl, h7, v8, _, rfl, h8, rfl⟩ := hc
  cases e
  obtain ⟨l, hl⟩ := mem_rows h0
  obtain ⟨l1, g1⟩ := post_rows h1
  obtain ⟨l2, g2⟩ := post_rows h2
  obtain ⟨l3, g3⟩ := post_rows h3
  obtain ⟨l4, g4⟩ := post_rows h4
  obtain ⟨l5, g5⟩ := post_rows h5
  obtain ⟨l6, g6⟩ := post_rows h6
  obtain ⟨l7, g7⟩ := post_rows h7
  obtain ⟨l8, g8⟩ := post_rows h8
  refine ⟨⟨l, fun j => [l1, l2, l3, l4, l5, l6, l7, l8].getD j []⟩, fun σ => ⟨[v0, v1, v2, v3, v4, v5, v6, v7, v8], rfl, fun v hv => ?_, v0, _, rfl, hl σ, v1, _, rfl, g1 σ, v2, _, rfl, g2 σ, v3, _, rfl, g3 σ, v4, _, rfl, g4 σ, v5, _, rfl, g5 σ, v6, _, rfl, g6 σ, v7, _, rfl, g7 σ, v8, _, rfl, g8 σ, rfl⟩⟩
  simp at hv
  rcases hv with rfl | rfl | rfl | rfl | rfl | rfl | rfl | rfl | rfl
  · exact sl_one h0
  · exact sl_one h1
  · exact sl_one h2
  · exact sl_one h3
  · exact sl_one h4
  · exact sl_one h5
  · exact sl_one h6
  · exact sl_one h7
  · exact sl_one h8
theorem int_arg {v : Value} {d : DataW H} {p : List MemPlace} {r : Reach} {b0 : Nat} (hv : Value.okWide Try.prog W r b0 3 v) (h : DataW.Trod enc Try.prog W base spare held 3 v d p) :
    ∃ n : Int, v = .int .i64 n ∧ -9223372036854775808 ≤ n ∧ n ≤ 9223372036854775807 := by
  obtain ⟨n, rfl, _, _, hw⟩ := open_int Try.underlying3 hv h
  refine ⟨n, rfl, ?_⟩
  simp [Lit.wf, IntKind.min, IntKind.max, IntKind.bits, IntKind.signed] at hw
  omega
end
end
theorem own_ : ownKnob Try.prog.godebug = none := by kernel_rfl
theorem laidOut_ : laidOutB Try.prog = true := by kernel_rfl
end Go.Gx.Ix
