/-
  The framework's later parts: appends behind slices, relational contracts, open orders with moves, all orders, families, weaker views, calls that move cells.
-/
import Derived.Test.YtnajladibkpeaaaK8
/-
  append behind a slice that does not begin at its region's first row: there is room, or the rows move.
-/
set_option linter.unusedVariables false
set_option linter.unusedSimpArgs false
namespace Go.Gx
open Go.RowKit

theorem run_append_room_off {P : Program} (w : World) (t ty e : TypeId) (i : TypeInfo) (ht : P.underlying t = some (.slice e)) (hi : P.info? e = some i)
    (g off sLen sCap : Nat) (cur : Array Value) (hg : w.heap[g]? = some (.cells cur e (0, 0)))
    (a : Addr) (m c : Nat) (news : List Value) (hl : news.length = m * i.size) (hnews : ∀ j u, news[j]? = some u → w.cell? (a.add j) = some u) (h1 : ∀ u ∈ news, u.oneCell' = true)
    (hroom : sLen + m ≤ sCap) (hfit : off + sLen * i.size + news.length ≤ cur.size) :
    (Builtin.append_ #[t, t] ty #[.slice (some ⟨g, off, none⟩) sLen sCap, .slice (some a) m c]).run P w =
      .ok (.slice (some ⟨g, off, none⟩) (sLen + m) sCap) (w.setRow g (cur.toList.take (off + sLen * i.size) ++ news ++ cur.toList.drop (off + sLen * i.size + news.length)).toArray) := by
  have hf := run_firstCells_some (P := P) w i.size m a m c news hl hnews
  have hst := run_storeCells_at P g (off + sLen * i.size) e news 0 cur w hg (by simpa using hfit) h1
  simp only [Nat.add_zero] at hst
  simp [Builtin.append_, run_underlying ht, sizeOf, typeInfo, hi, Builtin.lenOf, hroom, hf, Addr.add_lit, hst]

section
variable {P : Program} {T : Tab} {N : Cfg} {E : Env} {M : Mem} {nx : Nat}
theorem St.app {B W : Nat → Prop} {w0 : W0} {σ : Sig} {a : Act} {w w' : World} (h : St B W w0 N σ E M nx a w) {ref : Nat} {L : Loc} {R : Reg}
    (hm : MOK B W w0.heap.size (upd σ ref (some L)) (upd (killM ref M) ref (some R)) (From nx) w') (hf : FrS W w0.heap.size w w') (hk : Keep (Zof B σ M w) (Zof B (upd σ ref (some L)) (upd (killM ref M) ref (some R)) w') w w')
    (hs : ∀ r L', r ≠ ref → σ r = some L' → upd σ ref (some L) r = some L') (hnp : N.np ≤ ref) :
    St B W w0 N (upd σ ref (some L)) (fun t => (E t).kill ref) (upd (killM ref M) ref (some R)) nx a w' :=
  h.go hm hf (fun t z hz => SV.rel_kill hs hk _ _ hz) h.low fun r hr => upd_ne _ _ (Nat.ne_of_lt (Nat.lt_of_lt_of_le hr hnp))
theorem GOp_appLo (hT : TabOK P T) {K : Env → Mem → Nat → Prop} {d : Option Tmp} {t ty e : TypeId} {pos : String} {af : Array Edge} {ref lo n m : Nat} {g get : Nat → Nat → SV} {s x : Operand} {ti ei : TI} {ob : Prop}
    (hx : ev E s = .sl ref ei.size lo n none) (hM : M ref = some (.vec e ei.size (lo + n) g)) (ht : T.ti t = some ti) (htk : ti.kind = .slice e) (hei : T.ti e = some ei) (h0 : 0 < ei.size) (hr : rowsOf M ei.size (ev E x) = some (ob, m, get)) (hob : ob) (hm : 0 < m)
    (hb : (n + m) * ei.bytes ≤ 140737488355328) (h63 : n + m ≤ 9223372036854775807) (hd : dOK N.n d) (hnp : N.np ≤ ref)
    (h1 : K (envPut (fun t => (E t).kill ref) d (.sl ref ei.size lo (n + m) none)) (upd (killM ref M) ref (some (.vec e ei.size (lo + (n + m)) fun i j => (joined (lo + n) m g get i j).kill ref))) nx)
    (h2 : K (envPut (fun t => (E t).kill ref) d (.sl ref ei.size 0 (n + m) none)) (upd (killM ref M) ref (some (.vec e ei.size (n + m) fun i j => (joined n m (fun i j => g (lo + i) j) get i j).kill ref))) nx) :
    GOpW P N ⟨d, .call ⟨.builtin .append, #[s, x], #[t, t]⟩, ty, pos, af, none⟩ E M nx K := by
  intro B W w0 σ a w hs next Q' hK
  have hu : P.underlying t = some (.slice e) := und_slice (hT.ti t ti ht) htk
  have hc := hT.ti e ei hei
  have hrs := ev_rel hs.env s
  have hrx := ev_rel hs.env x
  rw [hx] at hrs
  obtain ⟨L, A, g1, hy, g2, g3, g4, g5⟩ := hrs
  simp only [Option.getD_none] at g2 g3 g4 hy
  obtain ⟨A', c', news, e1, s1, s2, s3, hnew⟩ := rows_mem hs.mem hrx hr hob
  obtain ⟨L', e1', f0, fm, hf⟩ := hs.mem.reg ref _ hM
  rw [g1] at e1'; cases e1'
  have hmp : 0 < m * ei.size := Nat.mul_pos hm h0
  obtain ⟨b2, o2', rfl, hcell⟩ := s3 hmp
  have hn0 := hs.fr.size
  have hrun0 : (execOp a.eval ⟨d, .call ⟨.builtin .append, #[s, x], #[t, t]⟩, ty, pos, af, none⟩).run P w = vrun ((Builtin.append_ #[t, t] ty #[.slice A n (L.cap - lo), .slice (some ⟨b2, o2', none⟩) m c']).run P w) := by
    simp [execOp, resolve, invoke, builtin, hy, e1, vrun]
  unfold Oper.wp
  rw [hrun0]
  by_cases hfit : n + m ≤ L.cap - lo
  · obtain ⟨b, b1, rfl⟩ := g4 (by omega)
    rcases hf with ⟨f1, _⟩ | ⟨b', cs, f1, f2, f3, fo, f5⟩
    · rw [f1] at b1; cases b1
    rw [b1] at f1; cases f1
    have hlen : (lo + n) * ei.size + news.length ≤ cs.length := by rw [s1, f3, ← Nat.add_mul]; exact Nat.mul_le_mul_right _ (by omega)
    obtain ⟨i, hi, hi2, hi3, hz⟩ := ti_info hc
    have hrun := run_append_room_off (P := P) w t ty e i hu hi b (lo * ei.size) n (L.cap - lo) cs.toArray f2 ⟨b2, o2', none⟩ m c' news (by rw [hi2]; exact s1) (fun j u hu => by rw [add_none]; exact hcell j u hu) s2 hfit (by rw [hi2, ← Nat.add_mul]; simpa using hlen)
    rw [hi2, ← Nat.add_mul] at hrun
    have hpv : (cs.toArray.toList.take ((lo + n) * ei.size) ++ news ++ cs.toArray.toList.drop ((lo + n) * ei.size + news.length)).toArray = (putV cs ((lo + n) * ei.size) news).toArray := rfl
    rw [hpv] at hrun
    have hsm : ∀ x, x < w.heap.size → L.at_ ≠ some x → (w.setRow b (putV cs ((lo + n) * ei.size) news).toArray).heap[x]? = w.heap[x]? := fun x _ hx => setRow_other _ fun e => hx (by rw [e]; exact b1)
    obtain ⟨m1, m2, m3⟩ := mem_app (w' := w.setRow b (putV cs ((lo + n) * ei.size) news).toArray) (L := L) (R := .vec e ei.size (lo + (n + m)) fun i j => (joined (lo + n) m g get i j).kill ref) hs.mem hn0 hM g1 (by rw [setRow_size]; exact Nat.le_refl _) hsm (fun b hb => .inl hb)
      (fun σ' Z' hs' hk => ⟨by omega, fm, .inr ⟨b, _, b1, setRow_here f2, by rw [putV_length hlen]; exact f3, putV_one fo s2, fun i j hi hj => by
        rw [putV_get hlen, s1]
        dsimp only
        unfold joined
        by_cases hin : lo + n ≤ i ∧ i < lo + n + m
        · rw [if_pos ((row_div hj).2 hin), if_neg (by omega), if_pos hin.2]
          obtain ⟨v, v1, v2⟩ := hnew (i - (lo + n)) j (by omega) hj
          refine ⟨v, ?_, s2 v (List.mem_of_getElem? v1), SV.rel_kill hs' hk _ _ v2⟩
          rw [← v1, Nat.sub_mul]
          have : (lo + n) * ei.size ≤ i * ei.size := Nat.mul_le_mul_right _ hin.1
          congr 1; omega
        · rw [if_neg fun h => hin ((row_div hj).1 h)]
          obtain ⟨v, v1, v0, v2⟩ := f5 i j (by omega) hj
          refine ⟨v, v1, v0, ?_⟩
          rw [if_pos (by omega : i < lo + n)]
          exact SV.rel_kill hs' hk _ _ v2⟩⟩)
    rw [hrun]
    refine hK _ _ _ _ _ _ h1 (St.put (hs.app m1 ⟨rfl, rfl, rfl, by rw [setRow_size]; exact Nat.le_refl _, fun x hx hw => setRow_other _ fun e => ?_⟩ m2 m3 hnp) hd ⟨L, some ⟨b, lo * ei.size, none⟩, upd_same .., by simp, by simpa using hfit, by simpa using g3, fun _ => ⟨b, b1, by simp⟩, fun hl => by simpa using g5 hl⟩)
    subst e
    rcases hs.mem.own ref _ L x hM g1 b1 with h' | h'
    · exact hw h'
    · omega
  · clear hf
    have hro : rowsOf M ei.size (.sl ref ei.size lo n none) = some (ei.size = ei.size ∧ ei.size = ei.size ∧ lo + n ≤ lo + n, n, fun i j => g (lo + i) j) := by simp only [rowsOf, hM]
    obtain ⟨A2, c2, olds, q1, q2, q3, q4, q5⟩ := rows_mem (x := .slice A n (L.cap - lo)) hs.mem (s := .sl ref ei.size lo n none) ⟨L, A, g1, by simp, by simpa using g2, by simpa using g3, by simpa using g4, g5⟩ hro ⟨rfl, rfl, Nat.le_refl _⟩
    cases q1
    obtain ⟨cap, c1, c2, hrun⟩ := (src_slice (P := P) (c' := c') hu hc s1 s2 s3).2.2 ty A n (L.cap - lo) olds g2 q2 q4 (by omega) (by unfold maxLen; omega) hb
    have hsm : ∀ o x, x < w.heap.size → L.at_ ≠ some x → (w.drew.alloc o).heap[x]? = w.heap[x]? := fun o x hx _ => heap_old w.drew o x hx
    have hjc := fun rest => joined_cells (Z := Zof B σ M w) (w := w) (rest := rest) q2 q5 s1 hnew
    obtain ⟨m1, m2, m3⟩ := mem_app (w' := w.drew.alloc (.cells (olds ++ news ++ (Builtin.zeroCells ei.zeroV.cells (cap - (n + m))).toList).toArray e)) (L := ⟨some w.heap.size, cap⟩) (R := .vec e ei.size (n + m) fun i j => (joined n m (fun i j => g (lo + i) j) get i j).kill ref) hs.mem hn0 hM g1 (by simp) (hsm _) (fun b hb => .inr (by cases hb; exact Nat.le_refl _))
      (fun σ' Z' hs' hk => ⟨c1, c2, .inr ⟨w.heap.size, _, rfl, heap_new w.drew _, by
        show _ = cap * ei.size
        rw [List.length_append, List.length_append, q2, s1, zeroCells_rep hc, repV_length, List.length_map, ti_len hc, ← Nat.add_mul, ← Nat.add_mul]
        congr 1; omega, by
        intro v hv
        simp only [List.mem_append] at hv
        rcases hv with (hv | hv) | hv
        · exact q3 v hv
        · exact s2 v hv
        · rw [zeroCells_rep hc] at hv; exact rep_one _ _ v hv, fun i j hi hj => by
        obtain ⟨v, v1, v2⟩ := hjc (Builtin.zeroCells ei.zeroV.cells (cap - (n + m))).toList i j hi hj
        refine ⟨v, v1, ?_, ?_⟩
        · have hv := List.mem_of_getElem? v1
          simp only [List.mem_append] at hv
          rcases hv with (hv | hv) | hv
          · exact q3 v hv
          · exact s2 v hv
          · rw [zeroCells_rep hc] at hv; exact rep_one _ _ v hv
        · exact SV.rel_kill hs' hk _ _ v2⟩⟩)
    rw [hrun]
    exact hK _ _ _ _ _ _ h2 (St.put (hs.app m1 ⟨rfl, rfl, rfl, by simp, fun x hx _ => heap_old w.drew _ x (show x < w.heap.size by omega)⟩ m2 m3 hnp) hd ⟨⟨some w.heap.size, cap⟩, _, upd_same .., by simp, by simpa using c1, by simp, fun _ => ⟨w.heap.size, rfl, by simp⟩, fun _ => .inr rfl⟩)
end
end Go.Gx
/-
  Contracts whose result is known by a relation; regions under other numbers.
-/
set_option linter.unusedVariables false
set_option linter.unusedSimpArgs false
namespace Go.Gx
open Go.RowKit

section
variable {P : Program} {T : Tab}
/-- As OwnS; what comes back is some S with some regions Rs' of which Ψ holds. -/
def OwnX (P : Program) (np : Nat) (f : FuncId) (Rs : List Reg) (args : List SV) (Ψ : SV → List Reg → Prop) : Prop :=
  ∀ (B : Nat → Prop) (σ : Sig) (w : World) (vs : List Value), MOK B (Wof σ (memR Rs)) w.heap.size σ (memR Rs) (From Rs.length) w → SV.relL σ (Zof B σ (memR Rs) w) w args vs →
    (callFunc f vs.toArray).run P w = .ok (.enter f vs.toArray) w ∧
    Calls P f vs.toArray w fun e w' => ∃ S Rs' y σ', Ψ S Rs' ∧ e = .returned y ∧ MOK B (Wof σ (memR Rs)) w.heap.size σ' (memR Rs') (From Rs'.length) w' ∧ S.rel σ' (Zof B σ' (memR Rs') w') w' y ∧ FrS (Wof σ (memR Rs)) w.heap.size w w' ∧
      ∀ r, r < np → σ' r = σ r
/-- What is handed out, for a relation (simp does not look into it). -/
def gxe (Ψ : SV → List Reg → Prop) (np : Nat) (s : SV) (M : Mem) : Prop := ∃ S Rs' ρl, Ψ S Rs' ∧ keepsL np 0 ρl ∧ gexp M s ρl S Rs'
theorem gxe.mk {Ψ : SV → List Reg → Prop} {np : Nat} {s : SV} {M : Mem} (S : SV) (Rs' : List Reg) (ρl : List Nat) (h : Ψ S Rs') (hk : keepsL np 0 ρl) (hd : ρl.Nodup) (hs : ∀ N : Nat, s.sub (S.ren fun i => (ρl[i]?).getD N)) (hr : ∀ N : Nat, gexpR M (fun i => (ρl[i]?).getD N) ρl Rs') : gxe Ψ np s M :=
  ⟨S, Rs', ρl, h, hk, hd, fun N => ⟨hs N, hr N⟩⟩
theorem ownX_of_GC (hT : TabOK P T) {f : FuncId} {fn : Func} (hf : P.funcs[f]? = some fn) {c : Code} (hb : fn.body = some c) (hn : (fn.name == "runtime.NumGoroutine") = false) {args : List SV} (hlen : args.length ≤ fn.ntmps) {Rs : List Reg} {Ψ : SV → List Reg → Prop}
    {N : Nat} {rs : List ResultVar} (hN : fn.ntmps = N) (hrs : fn.results.toList = rs) (np : Nat) (hnp : np ≤ Rs.length) (h : GC P T ⟨N, np⟩ c [] (gret T rs (gxe Ψ np)) (env0 args) (memR Rs) Rs.length) : OwnX P np f Rs args Ψ := by
  subst hN; subst hrs
  intro B σ w vs hm ha
  refine ⟨enter_run hf hb hn _, ?_⟩
  refine (calls_of_gexec hT hf hb hlen hnp hm ha h).mono fun e w' h' => ?_
  obtain ⟨s, y, σ', M', nx', rfl, ⟨S, Rs', ρl, hΨ, hk, h1, h2⟩, hrel, hm', hfr, hpin⟩ := h'
  obtain ⟨h3, h4⟩ := h2 nx'
  obtain ⟨m1, m2⟩ := hm'.export (hm'.fresh nx' (Nat.le_refl nx')) h1 h4
  refine ⟨S, Rs', y, _, hΨ, rfl, m1, SV.rel_mono (fun _ _ h => h) (fun b hb => ⟨m2 b hb, rfl⟩) _ _ ((SV.rel_ren _ _).1 (SV.sub_rel _ _ _ h3 hrel)), ⟨hfr.os, hfr.tape, hfr.output, hfr.size, hfr.block⟩, fun r hr => ?_⟩
  have := keepsL_get hk r hr
  simp only [this, Nat.zero_add, Option.getD_some]
  exact hpin r hr
theorem OwnS.toX {np : Nat} {f : FuncId} {Rs Rs' : List Reg} {args : List SV} {S : SV} (h : OwnS P np f Rs args S Rs') : OwnX P np f Rs args fun s rs => s = S ∧ rs = Rs' := fun B σ w vs hm ha => by
  obtain ⟨h1, h2⟩ := h B σ w vs hm ha
  exact ⟨h1, h2.mono fun e w' ⟨y, σ', a, b⟩ => ⟨S, Rs', y, σ', ⟨rfl, rfl⟩, a, b⟩⟩
theorem OwnX.mono {np : Nat} {f : FuncId} {Rs : List Reg} {args : List SV} {Ψ Ψ' : SV → List Reg → Prop} (h : OwnX P np f Rs args Ψ) (hi : ∀ s r, Ψ s r → Ψ' s r) : OwnX P np f Rs args Ψ' := fun B σ w vs hm ha => by
  obtain ⟨h1, h2⟩ := h B σ w vs hm ha
  exact ⟨h1, h2.mono fun e w' ⟨S, Rs', y, σ', c, d⟩ => ⟨S, Rs', y, σ', hi _ _ c, d⟩⟩
/-- A call under a contract whose result is known by a relation. -/
theorem callK_ownX {np cp : Nat} {f : FuncId} {Rs : List Reg} {args0 args : List SV} {Ψ : SV → List Reg → Prop} {M : Mem} {nx : Nat} {K : SV → Mem → Nat → (SV → SV) → Prop} (ρl : List Nat) (hp : OwnX P cp f Rs args0 Ψ) (hcp : cp ≤ Rs.length) (hnd : ρl.Nodup)
    (ha : args = SV.renL (fun i => (ρl[i]?).getD nx) args0) (hM : atM M (fun i => (ρl[i]?).getD nx) ρl Rs)
    (hK : ∀ S Rs', Ψ S Rs' → K (S.ren (renS cp nx ρl)) (addS (renS cp nx ρl) 0 Rs' (dropM ρl M)) (nx + Rs'.length) id) : CallK P np f args M nx K := by
  intro B W n0 σ w vs hm hn0 hnp hrel
  obtain ⟨hlen, hget⟩ := atM_get hM
  have hget' : ∀ (i : Nat) (R : Reg), memR Rs i = some R → ∃ q, ρl[i]? = some q ∧ M q = some (R.ren fun i => (ρl[i]?).getD nx) := fun i R h => hget i R (by rw [← memR_get]; exact h)
  let σ1 : Sig := fun i => σ ((ρl[i]?).getD nx)
  have hσ1 : ∀ i q, ρl[i]? = some q → σ1 i = σ q := fun i q h => by simp [σ1, h]
  have hW : ∀ b, Wof σ1 (memR Rs) b → ∃ q R L, q ∈ ρl ∧ M q = some R ∧ σ q = some L ∧ L.at_ = some b := by
    rintro b ⟨r, R, L, h1, h2, h3⟩
    obtain ⟨q, e1, e2⟩ := hget' r R h1
    rw [hσ1 r q e1] at h2
    exact ⟨q, _, L, List.mem_of_getElem? e1, e2, h2, h3⟩
  have hW' : ∀ q R L b, q ∈ ρl → M q = some R → σ q = some L → L.at_ = some b → Wof σ1 (memR Rs) b := by
    intro q R L b h1 h2 h3 h4
    obtain ⟨i, hi, rfl⟩ := List.getElem_of_mem h1
    have e0 : ρl[i]? = some ρl[i] := List.getElem?_eq_getElem hi
    exact ⟨i, Rs[i]'(by omega), L, by rw [memR_get]; exact List.getElem?_eq_getElem (by omega), by rw [hσ1 i _ e0]; exact h3, h4⟩
  let B1 : Nat → Prop := fun b => Zof B σ M w b ∨ Wof σ1 (memR Rs) b ∨ w.heap.size ≤ b
  have hz1 : ∀ b, Zof B σ M w b → Zof B1 σ1 (memR Rs) w b := fun b hb => ⟨⟨hb.1.1, .inl hb⟩, fun r R L h1 h2 h3 => by
    obtain ⟨q, e1, e2⟩ := hget' r R h1
    rw [hσ1 r q e1] at h2
    exact hb.2 q _ L e2 h2 h3⟩
  have hm1 : MOK B1 (Wof σ1 (memR Rs)) w.heap.size σ1 (memR Rs) (From Rs.length) w := by
    refine ⟨fun b hb => .inr (hb.symm), fun r hr => ?_, fun r R h => ?_, fun r r' R R' L L' b h1 h2 h3 h4 h5 h6 => ?_, fun r R L b h1 h2 h3 => .inl ⟨r, R, L, h1, h2, h3⟩⟩
    · have : ρl[r]? = none := List.getElem?_eq_none (by have : Rs.length ≤ r := hr; omega)
      simp [σ1, this, hm.fresh nx (Nat.le_refl nx)]
    · obtain ⟨q, e1, e2⟩ := hget' r R h
      obtain ⟨L, g1, g2⟩ := hm.reg q _ e2
      refine ⟨L, by rw [hσ1 r q e1]; exact g1, ?_⟩
      exact (RegOK_ren.1 g2).mono (fun _ _ h => h) (fun b hb => ⟨hz1 b hb, rfl⟩) (fun _ _ => rfl)
    · obtain ⟨q, e1, e2⟩ := hget' r R h1
      obtain ⟨q', e3, e4⟩ := hget' r' R' h2
      rw [hσ1 r q e1] at h3
      rw [hσ1 r' q' e3] at h4
      have := hm.inj q q' _ _ L L' b e2 e4 h3 h4 h5 h6
      subst this
      obtain ⟨l1, l2⟩ := List.getElem?_eq_some_iff.1 e1
      obtain ⟨l3, l4⟩ := List.getElem?_eq_some_iff.1 e3
      exact nodup_inj hnd l1 l3 (l2.trans l4.symm)
  have ha1 : SV.relL σ1 (Zof B1 σ1 (memR Rs) w) w args0 vs := by
    rw [ha] at hrel
    exact SV.relL_mono (fun _ _ h => h) (fun b hb => ⟨hz1 b hb, rfl⟩) _ _ ((SV.relL_ren _ _).1 hrel)
  obtain ⟨c1, c2⟩ := hp B1 σ1 w vs hm1 ha1
  refine .inl ⟨c1, c2.mono fun e w' h' => ?_⟩
  obtain ⟨S, Rs', y, σ', hΨ, rfl, hm', hr, hf, hpin⟩ := h'
  have hBW : ∀ b, Wof σ1 (memR Rs) b → W b ∨ n0 ≤ b := fun b hb => by
    obtain ⟨q, R, L, h1, h2, h3, h4⟩ := hW b hb
    exact hm.own q R L b h2 h3 h4
  have hB : ∀ b, B1 b → B b := fun b hb => by
    rcases hb with hb | hb | hb
    · exact hb.1.2
    · exact hm.newB b (hBW b hb).symm
    · exact hm.newB b (.inl (by omega))
  let ρ : Nat → Nat := renS cp nx ρl
  let σ2 : Sig := fun r => if nx ≤ r then σ' (r - nx) else σ r
  let M2 : Mem := addS ρ 0 Rs' (dropM ρl M)
  have hltσ : ∀ r L, σ r = some L → r < nx := fun r L h => by
    rcases Nat.lt_or_ge r nx with h1 | h1
    · exact h1
    · rw [hm.fresh r h1] at h; cases h
  have hσ2' : ∀ i, σ2 (ρ i) = σ' i := by
    intro i
    show σ2 (renS cp nx ρl i) = _
    unfold renS
    by_cases hi : i < cp
    · rw [if_pos hi, hpin i hi]
      have hil : i < ρl.length := by omega
      have e0 : ρl[i]? = some ρl[i] := List.getElem?_eq_getElem hil
      rw [e0]
      have hR : memR Rs i = some (Rs[i]'(by omega)) := by rw [memR_get]; exact List.getElem?_eq_getElem (by omega)
      obtain ⟨q, e1, e2⟩ := hget' i _ hR
      rw [e0] at e1; cases e1
      obtain ⟨L, g1, _⟩ := hm.reg _ _ e2
      have hlt := hltσ _ _ g1
      simp only [Option.getD_some]
      rw [hσ1 i _ e0]
      exact if_neg (by omega)
    · rw [if_neg hi]
      simp [σ2]
  have hσ2 : (fun i => σ2 (ρ i)) = σ' := by
    funext i; exact hσ2' i
  have hs2 : SigLe σ σ2 := fun r L h => by
    show (if nx ≤ r then _ else _) = _
    rw [if_neg]
    · exact h
    · intro hr
      rw [hm.fresh r hr] at h; cases h
  -- what a region is now: one of those that came back, or one of the old ones that were not given up
  have hk2 : ∀ r R, M2 r = some R → (∃ i R', r = ρ i ∧ memR Rs' i = some R' ∧ R = R'.ren ρ) ∨ (r ∉ ρl ∧ M r = some R ∧ r < nx) := by
    intro r R h
    rcases addS_get ρ Rs' 0 _ r R h with ⟨j, R', h1, h2, h3⟩ | ⟨h1, h2⟩
    · exact .inl ⟨j, R', by simpa using h2, by rw [memR_get]; exact h1, h3⟩
    · rw [dropM_at] at h1
      split at h1
      · cases h1
      · rename_i hr
        obtain ⟨L, g1, _⟩ := hm.reg r R h1
        exact .inr ⟨hr, h1, hltσ r L g1⟩
  have holdW : ∀ r R L b, r ∉ ρl → M r = some R → σ r = some L → L.at_ = some b → b < w.heap.size ∧ ¬ Wof σ1 (memR Rs) b := by
    intro r R L b h1 h2 h3 h4
    obtain ⟨L', g1, g2⟩ := hm.reg r R h2
    rw [h3] at g1; cases g1
    refine ⟨g2.block h4, fun hb => ?_⟩
    obtain ⟨q, R1, L1, q1, q2, q3, q4⟩ := hW b hb
    exact h1 (by rw [hm.inj r q R R1 L L1 b h2 q2 h3 q3 h4 q4]; exact q1)
  have hnew : ∀ i R L b, memR Rs' i = some R → σ' i = some L → L.at_ = some b → Wof σ1 (memR Rs) b ∨ w.heap.size ≤ b := fun i R L b h1 h2 h3 => hm'.own i R L b h1 h2 h3
  have hZW : ∀ b, Zof B σ M w b → ¬ Wof σ1 (memR Rs) b := fun b hb h => by
    obtain ⟨q, R1, L1, q1, q2, q3, q4⟩ := hW b h
    exact hb.2 q R1 L1 q2 q3 q4
  have hz2 : ∀ b, Zof B σ M w b → Zof B σ2 M2 w' b := fun b hb => ⟨⟨Nat.lt_of_lt_of_le hb.1.1 hf.size, hb.1.2⟩, fun r R L h1 h2 h3 => by
    rcases hk2 r R h1 with ⟨i, R', rfl, e1, _⟩ | ⟨e1, e2, e3⟩
    · rw [hσ2' i] at h2
      rcases hnew i R' L b e1 h2 h3 with h | h
      · exact hZW b hb h
      · have := hb.1.1; omega
    · have : σ2 r = σ r := if_neg (by omega)
      rw [this] at h2
      exact hb.2 r R L e2 h2 h3⟩
  have hkeep : Keep (Zof B σ M w) (Zof B σ2 M2 w') w w' := fun b hb => ⟨hz2 b hb, hf.block b hb.1.1 (hZW b hb)⟩
  have hz3 : ∀ b, Zof B1 σ' (memR Rs') w' b → Zof B σ2 M2 w' b := fun b hb => ⟨⟨hb.1.1, hB b hb.1.2⟩, fun r R L h1 h2 h3 => by
    rcases hk2 r R h1 with ⟨i, R', rfl, e1, _⟩ | ⟨e1, e2, e3⟩
    · rw [hσ2' i] at h2
      exact hb.2 i R' L e1 h2 h3
    · have : σ2 r = σ r := if_neg (by omega)
      rw [this] at h2
      obtain ⟨g1, g2⟩ := holdW r R L b e1 e2 h2 h3
      rcases hb.1.2 with h | h | h
      · exact h.2 r R L e2 h2 h3
      · exact g2 h
      · omega⟩
  refine ⟨y, S.ren ρ, M2, nx + Rs'.length, σ2, id, rfl, hK S Rs' hΨ, ⟨hm.newB, fun r hr => ?_, fun r R h => ?_, fun r r' R R' L L' b h1 h2 h3 h4 h5 h6 => ?_, fun r R L b h1 h2 h3 => ?_⟩, hkeep, ?_, fun t z hz => SV.rel_mono hs2 hkeep _ _ hz, ⟨hf.os, hf.tape, hf.output, hf.size, fun b hb hw => hf.block b (by omega) fun h => ?_⟩, by omega, fun r hr => if_neg (by omega)⟩
  · have hr' : nx + Rs'.length ≤ r := hr
    show (if nx ≤ r then _ else _) = _
    rw [if_pos (by omega)]
    exact hm'.fresh (r - nx) (show Rs'.length ≤ r - nx by omega)
  · rcases hk2 r R h with ⟨i, R', rfl, e1, rfl⟩ | ⟨e1, e2, e3⟩
    · obtain ⟨L, g1, g2⟩ := hm'.reg i R' e1
      refine ⟨L, by rw [hσ2' i]; exact g1, ?_⟩
      refine RegOK_ren.2 ?_
      rw [hσ2]
      exact g2.mono (fun _ _ h => h) (fun b hb => ⟨hz3 b hb, rfl⟩) (fun _ _ => rfl)
    · obtain ⟨L, g1, g2⟩ := hm.reg r R e2
      refine ⟨L, hs2 _ _ g1, g2.mono hs2 hkeep fun b hb => ?_⟩
      obtain ⟨q1, q2⟩ := holdW r R L b e1 e2 g1 hb
      exact hf.block b q1 q2
  · rcases hk2 r R h1 with ⟨i, R1, rfl, e1, _⟩ | ⟨e1, e2, e3⟩
    · have g3 : σ' i = some L := by rw [← hσ2' i]; exact h3
      rcases hk2 r' R' h2 with ⟨i', R2, rfl, e1', _⟩ | ⟨e1', e2', e3'⟩
      · have g4 : σ' i' = some L' := by rw [← hσ2' i']; exact h4
        rw [hm'.inj i i' R1 R2 L L' b e1 e1' g3 g4 h5 h6]
      · exfalso
        have : σ2 r' = σ r' := if_neg (by omega)
        rw [this] at h4
        obtain ⟨q1, q2⟩ := holdW r' R' L' b e1' e2' h4 h6
        rcases hnew i R1 L b e1 g3 h5 with h | h
        · exact q2 h
        · omega
    · have g3 : σ r = some L := by
        have : σ2 r = σ r := if_neg (by omega)
        rw [← this]; exact h3
      rcases hk2 r' R' h2 with ⟨i', R2, rfl, e1', _⟩ | ⟨e1', e2', e3'⟩
      · exfalso
        have g4 : σ' i' = some L' := by rw [← hσ2' i']; exact h4
        obtain ⟨q1, q2⟩ := holdW r R L b e1 e2 g3 h5
        rcases hnew i' R2 L' b e1' g4 h6 with h | h
        · exact q2 h
        · omega
      · have : σ2 r' = σ r' := if_neg (by omega)
        rw [this] at h4
        exact hm.inj r r' R R' L L' b e2 e2' g3 h4 h5 h6
  · rcases hk2 r R h1 with ⟨i, R1, rfl, e1, _⟩ | ⟨e1, e2, e3⟩
    · have g3 : σ' i = some L := by rw [← hσ2' i]; exact h2
      rcases hnew i R1 L b e1 g3 h3 with h | h
      · exact hBW b h
      · right; omega
    · have : σ2 r = σ r := if_neg (by omega)
      rw [this] at h2
      exact hm.own r R L b e2 h2 h3
  · refine (SV.rel_ren _ _).2 ?_
    rw [hσ2]
    exact SV.rel_mono (fun _ _ h => h) (fun b hb => ⟨hz3 b hb, rfl⟩) _ _ hr
  · rcases hBW b h with h | h
    · exact hw h
    · omega
end

/-! ### a region under another number -/
mutual
def SV.mv (p q : Nat) : SV → SV
  | .r x => .r x
  | .ptr z row k fld => if z = p then .ptr q row k fld else if z = q then .r .any else .ptr z row k fld
  | .sl z k lo n c => if z = p then .sl q k lo n c else if z = q then .r .any else .sl z k lo n c
  | .mp z => if z = p then .mp q else if z = q then .r .any else .mp z
  | .fn f fi ca => .fn f (SV.mvL p q fi) (SV.mvL p q ca)
  | .agg l => .agg (SV.mvL p q l)
  | .tup l => .tup (SV.mvL p q l)
def SV.mvL (p q : Nat) : List SV → List SV
  | [] => []
  | s :: l => s.mv p q :: SV.mvL p q l
end
def Reg.mv (p q : Nat) : Reg → Reg
  | .box l => .box (SV.mvL p q l)
  | .vec e k n g => .vec e k n fun i j => (g i j).mv p q
  | .map has val st => .map has (fun a => (val a).mv p q) st
  | .iter m f c all left la => .iter (m.mv p q) f c all left la
def mvM (p q : Nat) (M : Mem) : Mem := fun r => if r = q then (M p).map (Reg.mv p q) else if r = p then none else (M r).map (Reg.mv p q)
attribute [go_sem] SV.mv SV.mvL Reg.mv mvM
@[go_sem] theorem SV.mv_ite (p q : Nat) (c : Prop) [Decidable c] (x y : SV) : SV.mv p q (if c then x else y) = if c then x.mv p q else y.mv p q := by split <;> rfl

section
variable {σ σ' : Sig} {Z Z' : Nat → Prop} {w : World} {p q : Nat}
mutual
theorem SV.rel_mv (hp : σ' q = σ p) (hs : ∀ r, r ≠ p → r ≠ q → σ' r = σ r) (hz : ∀ b, Z b → Z' b) : ∀ (s : SV) (y : Value), s.rel σ Z w y → (s.mv p q).rel σ' Z' w y
  | .r x, y, h => by
    unfold SV.mv
    exact RV.rel_mono (fun b hb => ⟨hz b hb, rfl⟩) x y h
  | .ptr z row k fld, y, h => by
    unfold SV.mv
    obtain ⟨L, b, h1, h2, h3⟩ := h
    split
    · rename_i e; subst e; exact ⟨L, b, hp.trans h1, h2, h3⟩
    · split
      · trivial
      · rename_i e1 e2; exact ⟨L, b, (hs z e1 e2).trans h1, h2, h3⟩
  | .sl z k lo n c, y, h => by
    unfold SV.mv
    obtain ⟨L, A, h1, h2⟩ := h
    split
    · rename_i e; subst e; exact ⟨L, A, hp.trans h1, h2⟩
    · split
      · trivial
      · rename_i e1 e2; exact ⟨L, A, (hs z e1 e2).trans h1, h2⟩
  | .mp z, y, h => by
    unfold SV.mv
    obtain ⟨L, b, h1, h2, h3⟩ := h
    split
    · rename_i e; subst e; exact ⟨L, b, hp.trans h1, h2, h3⟩
    · split
      · trivial
      · rename_i e1 e2; exact ⟨L, b, (hs z e1 e2).trans h1, h2, h3⟩
  | .fn f fi ca, y, h => by
    obtain ⟨vs, ws, e, h1, h2⟩ := h
    exact ⟨vs, ws, e, SV.relL_mv hp hs hz _ _ h1, SV.relL_mv hp hs hz _ _ h2⟩
  | .agg l, y, h => by
    obtain ⟨vs, e, h1, h2⟩ := h
    exact ⟨vs, e, h1, SV.relL_mv hp hs hz _ _ h2⟩
  | .tup l, y, h => by
    obtain ⟨vs, e, h2⟩ := h
    exact ⟨vs, e, SV.relL_mv hp hs hz _ _ h2⟩
theorem SV.relL_mv (hp : σ' q = σ p) (hs : ∀ r, r ≠ p → r ≠ q → σ' r = σ r) (hz : ∀ b, Z b → Z' b) : ∀ (l : List SV) (ys : List Value), SV.relL σ Z w l ys → SV.relL σ' Z' w (SV.mvL p q l) ys
  | [], ys, h => h
  | s :: l, ys, h => by
    obtain ⟨v, vs', e, h1, h2⟩ := h
    exact ⟨v, vs', e, SV.rel_mv hp hs hz s v h1, SV.relL_mv hp hs hz l vs' h2⟩
end
theorem RegOK.mv {L : Loc} {R : Reg} (hp : σ' q = σ p) (hs : ∀ r, r ≠ p → r ≠ q → σ' r = σ r) (hz : ∀ b, Z b → Z' b) (h : RegOK σ Z w L R) : RegOK σ' Z' w L (R.mv p q) := by
  cases R with
  | box l =>
    obtain ⟨b', cs, ty, h1, h2, h3, h4⟩ := h
    exact ⟨b', cs, ty, h1, h2, h3, SV.relL_mv hp hs hz _ _ h4⟩
  | vec e k n g =>
    obtain ⟨h0, hm, h | ⟨b', cs, h1, h2, h3, ho, h5⟩⟩ := h
    · exact ⟨h0, hm, .inl h⟩
    · refine ⟨h0, hm, .inr ⟨b', cs, h1, h2, h3, ho, fun i j hi hj => ?_⟩⟩
      obtain ⟨v, hv, ho, hr⟩ := h5 i j hi hj
      exact ⟨v, hv, ho, SV.rel_mv hp hs hz _ _ hr⟩
  | map has val st =>
    obtain ⟨b', es, ck, h1, h2, h3, h4⟩ := h
    exact ⟨b', es, ck, h1, h2, h3.mono fun a v _ hv => SV.rel_mv hp hs hz _ _ hv, h4⟩
  | iter m f c all left la =>
    obtain ⟨b', mo, seen, sp, h1, h2, h3, h4, h5⟩ := h
    exact ⟨b', mo, seen, sp, h1, h2, h3, SV.rel_mv hp hs hz _ _ h4, h5⟩
end
theorem GSt.move {N : Cfg} {E : Env} {M : Mem} {nx : Nat} (p q : Nat) (hpq : p ≠ q) (hp : N.np ≤ p) (hq : N.np ≤ q) (hqx : q < nx) : GSt N E M nx (fun t => (E t).mv p q) (mvM p q M) nx := by
  intro B W w0 σ a w h
  let σ' : Sig := fun r => if r = q then σ p else if r = p then none else σ r
  have e1 : σ' q = σ p := if_pos rfl
  have e2 : ∀ r, r ≠ p → r ≠ q → σ' r = σ r := fun r h1 h2 => by
    show (if r = q then _ else _) = _
    rw [if_neg h2, if_neg h1]
  have hk : ∀ r R', mvM p q M r = some R' → (r = q ∧ ∃ R, M p = some R ∧ R' = R.mv p q) ∨ (r ≠ q ∧ r ≠ p ∧ ∃ R, M r = some R ∧ R' = R.mv p q) := by
    intro r R' h
    unfold mvM at h
    split at h
    · rename_i e
      cases hq : M p with
      | none => rw [hq] at h; cases h
      | some R => rw [hq] at h; cases h; exact .inl ⟨e, R, rfl, rfl⟩
    · split at h
      · cases h
      · rename_i e e'
        cases hq : M r with
        | none => rw [hq] at h; cases h
        | some R => rw [hq] at h; cases h; exact .inr ⟨e, e', R, rfl, rfl⟩
  have hk' : ∀ r R' L, mvM p q M r = some R' → σ' r = some L → ∃ r0 R, M r0 = some R ∧ R' = R.mv p q ∧ σ r0 = some L ∧ (r = q ∧ r0 = p ∨ r ≠ q ∧ r ≠ p ∧ r0 = r) := by
    intro r R' L h1 h2
    rcases hk r R' h1 with ⟨rfl, R, h3, h4⟩ | ⟨h5, h6, R, h3, h4⟩
    · exact ⟨p, R, h3, h4, by rw [← e1]; exact h2, .inl ⟨rfl, rfl⟩⟩
    · exact ⟨r, R, h3, h4, by rw [← e2 r h6 h5]; exact h2, .inr ⟨h5, h6, rfl⟩⟩
  have hz : ∀ b, Zof B σ M w b → Zof B σ' (mvM p q M) w b := fun b hb => ⟨hb.1, fun r R' L h1 h2 h3 => by
    obtain ⟨r0, R, g1, _, g3, _⟩ := hk' r R' L h1 h2
    exact hb.2 r0 R L g1 g3 h3⟩
  refine ⟨σ', fun t => SV.rel_mv e1 e2 hz _ _ (h.env t), ⟨h.mem.newB, fun r hr => ?_, fun r R' h1 => ?_, fun r r' R R' L L' b h1 h2 h3 h4 h5 h6 => ?_, fun r R' L b h1 h2 h3 => ?_⟩, h.fr, h.defers, h.size, h.low, fun r hr => ?_⟩
  · have hr' : nx ≤ r := hr
    by_cases e : r = p
    · subst e
      show (if r = q then _ else if r = r then none else _) = none
      rw [if_neg hpq, if_pos rfl]
    · rw [e2 r e (by omega)]
      exact h.mem.fresh r hr
  · rcases hk r R' h1 with ⟨rfl, R, h3, rfl⟩ | ⟨h5, h6, R, h3, rfl⟩
    · obtain ⟨L, g1, g2⟩ := h.mem.reg p R h3
      exact ⟨L, by rw [e1]; exact g1, g2.mv e1 e2 hz⟩
    · obtain ⟨L, g1, g2⟩ := h.mem.reg r R h3
      exact ⟨L, by rw [e2 r h6 h5]; exact g1, g2.mv e1 e2 hz⟩
  · obtain ⟨r0, R0, g1, _, g3, g4⟩ := hk' r R L h1 h3
    obtain ⟨r1, R1, k1, _, k3, k4⟩ := hk' r' R' L' h2 h4
    have := h.mem.inj r0 r1 R0 R1 L L' b g1 k1 g3 k3 h5 h6
    omega
  · obtain ⟨r0, R0, g1, _, g3, g4⟩ := hk' r R' L h1 h2
    exact h.mem.own r0 R0 L b g1 g3 h3
  · rw [e2 r (by omega) (by omega)]
    exact h.pin r hr
end Go.Gx
/-
  Regions of open order in which some operations (values that are moved, ahead of a call) go first, some float, and the rest is in order.
-/
set_option linter.unusedVariables false
set_option linter.unusedSimpArgs false
namespace Go.Gx
open Go.RowKit

section
variable {P : Program} {T : Tab} {B W F : Nat → Prop} {w0 : W0} {N : Cfg} {n0 : Nat} {σ σ' : Sig} {M M' : Mem} {nx : Nat} {w w' : World} {a : Act} {E E' : Env} {ops : Array Oper}
variable {m : Nat} {vals : Nat → SV × Option Reg} {q : Nat → Nat} {tk : List Nat}

structure DT (ops : Array Oper) (m : Nat) (tk : List Nat) : Prop where
  le : m ≤ ops.size
  pair : ∀ i j, i < m → j < m → i ≠ j → clashes ops i j = true → (if i < j then ahead_ ops i j else ahead_ ops j i) = true
  tail : ∀ j, m ≤ j → j < ops.size → ∀ i, i < j → i < m → i ∈ tk ∨ ahead_ ops i j = true
  late : ∀ j i, m ≤ i → i < j → j < ops.size → ahead_ ops i j = true
  wf : ∀ j o, ops[j]? = some o → ∀ e ∈ o.after, Region.binds .any e = true → e.on < j
  guard : ∀ i, i < m → ∀ o, ops[i]? = some o → ∀ g, o.guard = some g → g.1 < m
  tkm : ∀ i ∈ tk, i < m
  tko : ∀ i ∈ tk, ∃ d x ty pos af, ops[i]? = some ⟨d, .move x, ty, pos, af, none⟩ ∧ ∀ e ∈ af, Region.binds .any e = false
  nd : tk.Nodup
def isMv (o : Oper) : Bool := o.guard.isNone && (o.after.all fun e => !Region.binds .any e) && (match o.op with | .move _ => true | _ => false)
def drawOKt (ops : Array Oper) (m : Nat) (tk : List Nat) : Bool :=
  decide (m ≤ ops.size) && ((List.range m).all fun j => (List.range m).all fun i => decide (i = j) || !clashes ops i j || (if i < j then ahead_ ops i j else ahead_ ops j i)) &&
  ((List.range ops.size).all fun j => decide (j < m) || (List.range j).all fun i => (decide (i < m) && decide (i ∈ tk)) || ahead_ ops i j) &&
  (ops.toList.zipIdx.all fun (o, j) => o.after.all fun e => !Region.binds .any e || decide (e.on < j)) &&
  ((List.range m).all fun i => match ops[i]? with | some o => (match o.guard with | some g => decide (g.1 < m) | none => true) | none => true) &&
  (tk.all fun i => decide (i < m) && match ops[i]? with | some o => isMv o | none => false) && decide tk.Nodup
theorem drawOKt_spec (h : drawOKt ops m tk = true) : DT ops m tk := by
  unfold drawOKt at h
  simp only [Bool.and_eq_true] at h
  obtain ⟨⟨⟨⟨⟨⟨h1, h2⟩, h3⟩, h4⟩, h5⟩, h6⟩, h7⟩ := h
  have ht : ∀ j, m ≤ j → j < ops.size → ∀ i, i < j → (i < m ∧ i ∈ tk) ∨ ahead_ ops i j = true := fun j hj hs i hi => by
    have := List.all_eq_true.1 h3 j (List.mem_range.2 hs)
    rw [Bool.or_eq_true] at this
    rcases this with h | h
    · have := of_decide_eq_true h; omega
    · have := List.all_eq_true.1 h i (List.mem_range.2 hi)
      rw [Bool.or_eq_true, Bool.and_eq_true] at this
      rcases this with h | h
      · exact .inl ⟨of_decide_eq_true h.1, of_decide_eq_true h.2⟩
      · exact .inr h
  refine ⟨of_decide_eq_true h1, fun i j hi hj hne hc => ?_, fun j hj hs i hi him => (ht j hj hs i hi).imp (·.2) id, fun j i hi hj hs => (ht j (by omega) hs i hj).resolve_left fun h => by omega, fun j o ho e he hb => ?_, fun i hi o ho g hg => ?_, fun i hi => ?_, fun i hi => ?_, of_decide_eq_true h7⟩
  · have := List.all_eq_true.1 (List.all_eq_true.1 h2 j (List.mem_range.2 hj)) i (List.mem_range.2 hi)
    rw [Bool.or_eq_true, Bool.or_eq_true] at this
    rcases this with (h | h) | h
    · exact absurd (by simpa using h) hne
    · rw [hc] at h; cases h
    · exact h
  · have := List.all_eq_true.1 h4 (o, j) (by rw [List.mk_mem_zipIdx_iff_getElem?]; simpa using ho)
    simp only at this
    have := Array.all_eq_true_iff_forall_mem.1 this e he
    rw [Bool.or_eq_true] at this
    rcases this with h | h
    · rw [hb] at h; cases h
    · exact of_decide_eq_true h
  · have := List.all_eq_true.1 h5 i (List.mem_range.2 hi)
    simp only [ho, hg] at this
    exact of_decide_eq_true this
  · have := List.all_eq_true.1 h6 i hi
    rw [Bool.and_eq_true] at this
    exact of_decide_eq_true this.1
  · have := List.all_eq_true.1 h6 i hi
    rw [Bool.and_eq_true] at this
    have h8 := this.2
    split at h8
    · rename_i o ho
      obtain ⟨d, op, ty, pos, af, g⟩ := o
      simp only [isMv, Bool.and_eq_true, Option.isNone_iff_eq_none] at h8
      obtain ⟨⟨h9, h10⟩, h11⟩ := h8
      subst h9
      have hb : ∀ e ∈ af, Region.binds .any e = false := fun e he => by
        have := Array.all_eq_true_iff_forall_mem.1 h10 e he
        simpa using this
      split at h11
      · exact ⟨d, _, ty, pos, af, ho, hb⟩
      · cases h11
    · cases h8

theorem extract_get {i : Nat} (hi : i < m) (hm : m ≤ ops.size) : (ops.extract 0 m)[i]? = ops[i]? := by
  rw [Array.getElem?_extract]
  simp
  omega
theorem extract_some {i : Nat} {o : Oper} (h : (ops.extract 0 m)[i]? = some o) : ops[i]? = some o := by
  rw [Array.getElem?_extract] at h
  split at h
  · simpa using h
  · cases h
theorem ESl_take (vals : Nat → SV × Option Reg) (E : Env) (lf : Nat → Bool) (m : Nat) (hm' : m ≤ m) : ∀ k, k ≤ m → m ≤ ops.size → ESl (ops.extract 0 m) vals E lf k = ESl ops vals E lf k
  | 0, _, _ => rfl
  | k + 1, hk, hs => by
    simp only [ESl, ESl_take vals E lf m hm' k (by omega) hs, extract_get (show k < m by omega) hs]
theorem yielded_take {j : Nat} (hj : j < m) (hm : m ≤ ops.size) (tmps : Array Value) : yielded (ops.extract 0 m) tmps j = yielded ops tmps j := by
  unfold yielded
  rw [extract_get hj hm]
theorem befGo_take : ∀ (l : List Oper) (n : Nat) (acc : Array Nat) (j : Nat), j < acc.size + n → (befGo acc (l.take n)).getD j 0 = (befGo acc l).getD j 0
  | [], n, acc, j, _ => by simp
  | o :: l, 0, acc, j, h => by
    rw [List.take_zero]
    exact (befGo_old (o :: l) acc j (by omega)).symm
  | o :: l, n + 1, acc, j, h => by
    simp only [List.take_succ_cons, befGo]
    exact befGo_take l n _ j (by simp; omega)
theorem ahead_take {i j : Nat} (hm : m ≤ ops.size) (hj : j < m) : ahead_ (ops.extract 0 m) i j = ahead_ ops i j := by
  unfold ahead_ befs
  have : (ops.extract 0 m).toList = ops.toList.take m := by simp
  rw [this, befGo_take _ _ _ _ (by simpa using hj)]
theorem wpOp_take {i : Nat} (hi : i < m) (hm : m ≤ ops.size) (hg : ∀ o g, ops[i]? = some o → o.guard = some g → g.1 < m) {Q : Exit → Act → World → Prop} {K : Act → World → Prop} (h : wpOp P (ops.extract 0 m) Q i K a w) : wpOp P ops Q i K a w := by
  unfold wpOp at h ⊢
  rw [extract_get hi hm] at h
  cases ho : ops[i]? with
  | none => rw [ho] at h; exact h
  | some o =>
    rw [ho] at h
    simp only at h ⊢
    have : Region.wanted o (yielded (ops.extract 0 m) a.tmps) = Region.wanted o (yielded ops a.tmps) := by
      unfold Region.wanted
      cases hgd : o.guard with
      | none => rfl
      | some g =>
        have := hg o g ho hgd
        simp only [yielded_take this hm]
    rw [this] at h
    exact h

theorem tail_any2 (hT : TabOK P T) (ok : DT ops m tk) {Q : GQ} : ∀ (fuel : Nat) (U : List Nat) (p : Nat) (listed : Array Bool) (E : Env) (M : Mem) (nx : Nat) (σ : Sig) (a : Act) (w : World),
    U.length = fuel → U.Nodup → (∀ j, j ∈ U ↔ j < ops.size ∧ listed.getD j false = false) → listed.size = ops.size → m ≤ p → (∀ j, j < ops.size → (listed.getD j false = true ↔ j < p)) →
    St B W w0 N σ E M nx a w → gops P T N ops (ops.toList.drop p) E M nx (Q .normal) → wpAny P .any ops (QQ B W w0 N Q) fuel listed a w := by
  intro fuel
  induction fuel with
  | zero =>
    intro U p listed E M nx σ a w hl hnd hU hsz hmp hp h hg
    have hU0 : U = [] := List.eq_nil_of_length_eq_zero hl
    subst hU0
    have hall : ops.size ≤ p := by
      rcases Nat.lt_or_ge p ops.size with h1 | h1
      · have : listed.getD p false = false := by
          cases h2 : listed.getD p false with
          | false => rfl
          | true => have := (hp p h1).1 h2; omega
        have := (hU p).2 ⟨h1, this⟩
        simp at this
      · exact h1
    rw [List.drop_of_length_le (by simpa using hall)] at hg
    refine ⟨?_, _, _, _, _, hg, h⟩
    apply List.eq_nil_iff_forall_not_mem.2
    intro i hi
    have := (unl listed i).1 (mem_ready.1 hi).1
    have := (hU i).2 ⟨by omega, this.2⟩
    simp at this
  | succ fuel ih =>
    intro U p listed E M nx σ a w hl hnd hU hsz hmp hp h hg
    have hready : ∀ i, i ∈ Region.ready .any ops listed → i = p := by
      intro i hi
      obtain ⟨h1, o, ho, h2⟩ := mem_ready.1 hi
      obtain ⟨h3, h4⟩ := (unl listed i).1 h1
      have h5 : ¬ i < p := fun hlt => by rw [(hp i (by omega)).2 hlt] at h4; cases h4
      rcases Nat.lt_or_ge p i with h6 | h6
      · have h7 := ahead_in (l := fun j => listed.getD j false = true) ok.wf (fun j o' hj ho' e he hb => by
          have hlt := (Array.getElem?_eq_some_iff.1 ho').1
          have := (hp j hlt).1 hj
          have h8 := ok.wf j o' ho' e he hb
          exact (hp e.on (by omega)).2 (by omega)) i (fun o' ho' => by rw [ho] at ho'; cases ho'; exact h2) (ok.late i p hmp h6 (by omega))
        have := (hp p (by omega)).1 h7
        omega
      · omega
    refine ⟨fun hr => ?_, fun i hi => ?_⟩
    · rcases Nat.lt_or_ge p ops.size with h1 | h1
      · have : p ∈ Region.ready .any ops listed := by
          refine mem_ready.2 ⟨(unl listed p).2 ⟨by omega, ?_⟩, ops[p], Array.getElem?_eq_getElem h1, fun e he hb => ?_⟩
          · cases h2 : listed.getD p false with
            | false => rfl
            | true => have := (hp p h1).1 h2; omega
          · have h8 := ok.wf p _ (Array.getElem?_eq_getElem h1) e he hb
            exact (hp e.on (by omega)).2 h8
        rw [hr] at this; simp at this
      · rw [List.drop_of_length_le (by simpa using h1)] at hg
        exact ⟨_, _, _, _, hg, h⟩
    · have := hready i hi
      subst this
      obtain ⟨h1, o, ho, h2⟩ := mem_ready.1 hi
      obtain ⟨h3, h4⟩ := (unl listed i).1 h1
      have hlt : i < ops.toList.length := by simpa using (by omega : i < ops.size)
      have hget : ops.toList[i] = o := by
        have := (Array.getElem?_eq_some_iff.1 ho).2
        simpa using this
      rw [List.drop_eq_getElem_cons hlt, hget] at hg
      have hs := gops_step (Q := QQ B W w0 N Q) (next := wpAny P .any ops (QQ B W w0 N Q) fuel (listed.setIfInBounds i true)) hT h hg (fun E' M' nx' σ' a' w' hk hs => by
        refine ih (U.erase i) (i + 1) _ E' M' nx' σ' a' w' ?_ (hnd.erase i) ?_ (by simpa using hsz) (by omega) ?_ hs hk
        · rw [List.length_erase_of_mem ((hU i).2 ⟨by omega, h4⟩), hl]; rfl
        · intro j
          rw [hnd.mem_erase_iff, hU, getD_put _ h3]
          by_cases hj : j = i
          · simp [hj]
          · simp [hj]
        · intro j hj
          rw [getD_put _ h3]
          by_cases hji : j = i
          · simp [hji]
          · rw [if_neg hji, hp j hj]; omega)
      unfold wpOp; rw [ho]; simp only []
      split
      · rename_i hw; rw [if_pos hw] at hs; exact .inl hs
      · rename_i hw; rw [if_neg hw] at hs; exact hs

theorem phase_any2 (hT : TabOK P T) (ok : DT ops m tk) (tr : Tr P T N (ops.extract 0 m) m vals q E M nx) (hlow : N.np ≤ nx) {Q : GQ} (hfin : gops P T N ops (ops.toList.drop m) (ESl ops vals E (fun _ => true) m) (MSl vals q M (fun _ => true) m) (q m) (Q .normal)) : ∀ (fuel : Nat) (U : List Nat) (listed : Array Bool) (σ : Sig) (a : Act) (w : World),
    U.length = fuel → U.Nodup → (∀ j, j ∈ U ↔ j < ops.size ∧ listed.getD j false = false) → listed.size = ops.size → Clo ops (fun j => listed.getD j false) → (∀ j, listed.getD j false = true → j < m) → (∀ j ∈ tk, listed.getD j false = true) →
    StF B W w0 N σ (ESl ops vals E (fun j => listed.getD j false) m) (MSl vals q M (fun j => listed.getD j false) m) (FS m vals q nx (fun j => listed.getD j false)) a w → wpAny P .any ops (QQ B W w0 N Q) fuel listed a w := by
  have hsl : ∀ lf, ESl (ops.extract 0 m) vals E lf m = ESl ops vals E lf m := fun lf => ESl_take vals E lf m (Nat.le_refl m) m (Nat.le_refl m) ok.le
  have done : ∀ (fuel : Nat) (U : List Nat) (listed : Array Bool) (σ : Sig) (a : Act) (w : World),
    U.length = fuel → U.Nodup → (∀ j, j ∈ U ↔ j < ops.size ∧ listed.getD j false = false) → listed.size = ops.size → Clo ops (fun j => listed.getD j false) → (∀ j, listed.getD j false = true → j < m) →
    StF B W w0 N σ (ESl ops vals E (fun j => listed.getD j false) m) (MSl vals q M (fun j => listed.getD j false) m) (FS m vals q nx (fun j => listed.getD j false)) a w →
    (∀ j, j < m → listed.getD j false = true) → wpAny P .any ops (QQ B W w0 N Q) fuel listed a w := by
    intro fuel U listed σ a w hl hnd hU hsz hcl hm h hall
    refine tail_any2 hT ok fuel U m listed _ _ (q m) σ a w hl hnd hU hsz (Nat.le_refl _) (fun j _ => ⟨hm j, hall j⟩) ?_ hfin
    have e1 : ESl ops vals E (fun j => listed.getD j false) m = ESl ops vals E (fun _ => true) m := by
      funext t; exact ESl_agree m (fun k hk _ => hall k hk)
    have e2 : MSl vals q M (fun j => listed.getD j false) m = MSl vals q M (fun _ => true) m := MSl_congr m (fun k hk => hall k hk)
    rw [e1, e2] at h
    refine ⟨h.env, h.mem.weaken fun r hr => ⟨Nat.le_trans (tr.qge m) hr, fun c h1 _ h2 => ?_⟩, h.fr, h.defers, h.size, Nat.le_trans hlow (tr.qge m), h.pin⟩
    have h3 := tr.qlt c h1 h2
    have h4 : q m ≤ r := hr
    omega
  intro fuel
  induction fuel with
  | zero =>
    intro U listed σ a w hl hnd hU hsz hcl hm htk h
    refine done 0 U listed σ a w hl hnd hU hsz hcl hm h fun j hj => ?_
    have hU0 : U = [] := List.eq_nil_of_length_eq_zero hl
    subst hU0
    cases h2 : listed.getD j false with
    | true => rfl
    | false =>
      have := (hU j).2 ⟨Nat.lt_of_lt_of_le hj ok.le, h2⟩
      simp at this
  | succ fuel ih =>
    intro U listed σ a w hl hnd hU hsz hcl hm htk h
    by_cases hall : ∀ j, j < m → listed.getD j false = true
    · exact done _ U listed σ a w hl hnd hU hsz hcl hm h hall
    · have hle := ok.le
      refine ⟨fun hr => ?_, fun i hi => ?_⟩
      · exfalso
        apply hall
        intro j
        induction j using Nat.strongRecOn with
        | _ j ihj =>
          intro hj
          cases h2 : listed.getD j false with
          | true => rfl
          | false =>
            have hlt : j < ops.size := by omega
            have : j ∈ Region.ready .any ops listed := mem_ready.2 ⟨(unl listed j).2 ⟨by omega, h2⟩, ops[j], Array.getElem?_eq_getElem hlt, fun e he hb => by
              have h8 := ok.wf j _ (Array.getElem?_eq_getElem hlt) e he hb
              exact ihj e.on h8 (by omega)⟩
            rw [hr] at this; simp at this
      · obtain ⟨h1, o, ho, h2⟩ := mem_ready.1 hi
        obtain ⟨h3, h4⟩ := (unl listed i).1 h1
        have him : i < m := by
          rcases Nat.lt_or_ge i m with h5 | h5
          · exact h5
          · exfalso
            apply hall
            intro j hj
            apply Classical.byContradiction
            intro hnj
            exact hnj <| ahead_in (l := fun j => listed.getD j false = true) ok.wf (fun j o hj ho => hcl j o hj ho) i (fun o' ho' => by rw [ho] at ho'; cases ho'; exact h2) ((ok.tail i h5 (by omega) j (by omega) hj).resolve_left fun hjk => hnj (htk j hjk))
        have e0 : (fun j => (listed.setIfInBounds i true).getD j false) = (fun k => if k = i then true else listed.getD k false) := by
          funext j; exact getD_put listed h3 j
        have hoX : (ops.extract 0 m)[i]? = some o := by rw [extract_get him ok.le]; exact ho
        refine wpOp_take him ok.le (fun o' g ho' hg => ok.guard i him o' ho' g hg) ?_
        refine phase_step hT tr (lf := fun j => listed.getD j false) him hoX h4 h2 (fun j o' hj ho' => hcl j o' hj (extract_some ho')) (by rw [hsl]; exact h) fun σ' a' w' hs => ?_
        rw [hsl] at hs
        refine ih (U.erase i) _ σ' a' w' ?_ (hnd.erase i) ?_ (by simpa using hsz) ?_ ?_ ?_ ?_
        · rw [List.length_erase_of_mem ((hU i).2 ⟨by omega, h4⟩), hl]; rfl
        · intro j
          rw [hnd.mem_erase_iff, hU, getD_put _ h3]
          by_cases hj : j = i
          · simp [hj]
          · simp [hj]
        · rw [e0]
          intro j o' hj ho' e he hb
          show (if e.on = i then true else listed.getD e.on false) = true
          by_cases hji : j = i
          · subst hji
            rw [ho] at ho'; cases ho'
            have := h2 e he hb
            simp only [this]; split <;> rfl
          · have hj' : listed.getD j false = true := by simpa [hji] using hj
            have := hcl j o' hj' ho' e he hb
            simp only at this
            simp only [this]; split <;> rfl
        · intro j hj
          rw [getD_put _ h3] at hj
          by_cases hji : j = i
          · omega
          · rw [if_neg hji] at hj; exact hm j hj
        · intro j hj
          rw [getD_put _ h3]
          by_cases hji : j = i
          · rw [if_pos hji]
          · rw [if_neg hji]; exact htk j hj
        · rw [e0]; exact hs


theorem DStep_take {i : Nat} {o : Oper} {E : Env} {M : Mem} {p : Nat} {v : SV} {u : Option Reg} (hm : m ≤ ops.size) (hg : ∀ g, o.guard = some g → g.1 < m) (h : DStep P T N ops o E M p v u) : DStep P T N (ops.extract 0 m) o E M p v u := by
  cases hgd : o.guard with
  | none => exact (DStep_none hgd).2 ((DStep_none hgd).1 h)
  | some g =>
    obtain ⟨j, want⟩ := g
    have hj := hg _ hgd
    refine (DStep_some hgd).2 ?_
    have := (DStep_some hgd).1 h
    rw [← extract_get (show j < m from hj) hm] at this
    exact this
def freeSeq (ops : Array Oper) : List Nat → Array Bool → Bool
  | [], _ => true
  | i :: tk, listed => Region.free .any ops listed i && (Region.ready .any ops listed).contains i && freeSeq ops tk (listed.setIfInBounds i true)
theorem takes_any (hT : TabOK P T) (ok : DT ops m tk) (tr : Tr P T N (ops.extract 0 m) m vals q E M nx) (hlow : N.np ≤ nx) (hsel : Region.noSelect ops = true) {Q : GQ} (hp : ∀ c E M nx, Q (.panic c) E M nx → False)
    (hfin : gops P T N ops (ops.toList.drop m) (ESl ops vals E (fun _ => true) m) (MSl vals q M (fun _ => true) m) (q m) (Q .normal)) : ∀ (tl : List Nat) (fuel : Nat) (U : List Nat) (listed : Array Bool) (σ : Sig) (a : Act) (w : World),
    (∀ i ∈ tl, i ∈ tk) → tl.Nodup → (∀ i ∈ tl, listed.getD i false = false) → (∀ i ∈ tk, i ∈ tl ∨ listed.getD i false = true) → freeSeq ops tl listed = true →
    U.length = fuel → U.Nodup → (∀ j, j ∈ U ↔ j < ops.size ∧ listed.getD j false = false) → listed.size = ops.size → Clo ops (fun j => listed.getD j false) → (∀ j, listed.getD j false = true → j < m) →
    StF B W w0 N σ (ESl ops vals E (fun j => listed.getD j false) m) (MSl vals q M (fun j => listed.getD j false) m) (FS m vals q nx (fun j => listed.getD j false)) a w → wpAny P .any ops (QQ B W w0 N Q) fuel listed a w := by
  have hsl : ∀ lf k, k ≤ m → ESl (ops.extract 0 m) vals E lf k = ESl ops vals E lf k := fun lf k hk => ESl_take vals E lf m (Nat.le_refl m) k hk ok.le
  intro tl
  induction tl with
  | nil =>
    intro fuel U listed σ a w _ _ _ htk _ hl hnd hU hsz hcl hm h
    exact phase_any2 hT ok tr hlow hfin fuel U listed σ a w hl hnd hU hsz hcl hm (fun j hj => (htk j hj).resolve_left (by simp)) h
  | cons i tl ih =>
    intro fuel U listed σ a w hsub hnd2 hun htk hfr hl hnd hU hsz hcl hm h
    have hik := hsub i (by simp)
    have him := ok.tkm i hik
    have hle := ok.le
    have h4 := hun i (by simp)
    have h3 : i < listed.size := by omega
    obtain ⟨d, x, ty, pos, af, ho, hbn⟩ := ok.tko i hik
    have hiU : i ∈ U := (hU i).2 ⟨by omega, h4⟩
    cases fuel with
    | zero =>
      have : U = [] := List.eq_nil_of_length_eq_zero hl
      rw [this] at hiU; simp at hiU
    | succ fuel =>
      simp only [freeSeq, Bool.and_eq_true] at hfr
      obtain ⟨⟨hf1, hf2⟩, hf3⟩ := hfr
      have hoX : (ops.extract 0 m)[i]? = some ⟨d, .move x, ty, pos, af, none⟩ := by rw [extract_get him hle]; exact ho
      have hcl' : Clo (ops.extract 0 m) (fun j => listed.getD j false) := fun j o' hj ho' => hcl j o' hj (extract_some ho')
      have h2 : ∀ e ∈ (⟨d, .move x, ty, pos, af, none⟩ : Oper).after, Region.binds .any e = true → listed.getD e.on false = true := fun e he hb => by rw [hbn e he] at hb; cases hb
      obtain ⟨hdst, hrun⟩ := (DStep_none rfl).1 (tr.step i _ him hoX)
      have hrun := ((DRun_else (by intro c x y h; cases h)).1 hrun).2
      simp only [DRun', gop] at hrun
      obtain ⟨_, hv, hu⟩ := hrun
      have hops : ev (ESl ops vals E (fun j => listed.getD j false) m) x = ev (ESl ops vals E (fun _ => true) i) x := by
        cases x with
        | tmp t =>
          have := phase_env tr him hoX h4 h2 hcl' (t := t) fun k _ _ hd => clash_operand hoX hd (by simp [Op.operands])
          rw [hsl _ m (Nat.le_refl m), hsl _ i (by omega)] at this
          exact this
        | _ => rfl
      have hE' := ESl_put (ops := ops) (vals := vals) (E := E) (l := fun j => listed.getD j false) h4 m him (fun k h1 h2' hl t hti htk' => by
        have h5 := ok.pair k i h2' him (by omega) (clash_dst (o := ⟨d, .move x, ty, pos, af, none⟩) ho htk' (by rw [ho] at hti; simpa using hti))
        rw [if_neg (by omega)] at h5
        have := ahead_in (l := fun j => listed.getD j false = true) ok.wf (fun j o hj ho => hcl j o hj ho) k (fun o' ho' => hcl k o' hl ho') h5
        rw [h4] at this; cases this)
      have hM' := MSl_put (M := M) (vals := vals) (q := q) (l := fun j => listed.getD j false) h4 m him (fun k hk hne h1 h2 => tr.qne k i hne h1 h2)
      have hdsto : (ops[i]?).bind (·.dst) = d := by rw [ho]; rfl
      rw [hdsto, hv] at hE'
      rw [hu] at hM'
      rw [hsl _ i (by omega)] at hE'
      rw [← hops] at hE'
      have e0 : (fun j => (listed.setIfInBounds i true).getD j false) = (fun k => if k = i then true else listed.getD k false) := by
        funext j; exact getD_put listed h3 j
      have hst := h.put hdst (ev_rel h.env x)
      refine wpAny_take (v := a.eval x) ho hsel hf1 hf2 (fun c a w hh => ?_) (.inl ⟨by simp [Region.wanted], fun w => rfl⟩) ?_
      · obtain ⟨_, _, _, _, hq, _⟩ := hh
        exact (hp _ _ _ _ hq).elim
      refine ih fuel (U.erase i) _ σ _ w (fun j hj => hsub j (by simp [hj])) (List.nodup_cons.1 hnd2).2 (fun j hj => ?_) (fun j hj => ?_) hf3 ?_ (hnd.erase i) ?_ (by simpa using hsz) ?_ ?_ ?_
      · rw [getD_put _ h3, if_neg fun e => (List.nodup_cons.1 hnd2).1 (by rw [← e]; exact hj)]
        exact hun j (by simp [hj])
      · rw [getD_put _ h3]
        rcases htk j hj with h5 | h5
        · rcases List.mem_cons.1 h5 with rfl | h5
          · exact .inr (if_pos rfl)
          · exact .inl h5
        · by_cases e : j = i
          · exact .inr (if_pos e)
          · exact .inr (by rw [if_neg e]; exact h5)
      · rw [List.length_erase_of_mem hiU, hl]; rfl
      · intro j
        rw [hnd.mem_erase_iff, hU, getD_put _ h3]
        by_cases hj : j = i
        · simp [hj]
        · simp [hj]
      · rw [e0]
        intro j o' hj ho' e he hb
        show (if e.on = i then true else listed.getD e.on false) = true
        by_cases hji : j = i
        · subst hji
          rw [ho] at ho'; cases ho'
          rw [hbn e he] at hb; cases hb
        · have hj' : listed.getD j false = true := by simpa [hji] using hj
          have := hcl j o' hj' ho' e he hb
          simp only at this
          simp only [this]; split <;> rfl
      · intro j hj
        rw [getD_put _ h3] at hj
        by_cases hji : j = i
        · omega
        · rw [if_neg hji] at hj; exact hm j hj
      · rw [e0, hE', hM']
        refine StF.weak hst fun r hr => ⟨hr.1, fun c h1 h2 h3 => hr.2 c h1 ?_ h3⟩
        simp only [h2]; split <;> rfl
theorem gdraw2 (hT : TabOK P T) (hm : P.follows .mixedOrders = true) {id : Nat} (tk : List Nat) (m : Nat) (hok : drawOKt ops m tk = true) (hfree : freeSeq ops tk (Array.replicate ops.size false) = true) (hsel : Region.noSelect ops = true) {Q : GQ} (hp : ∀ c E M nx, Q (.panic c) E M nx → False)
    {nw : FuncId → Bool} (h : gphase nw P T N ops (ops.toList.take m) E M nx (fun E M nx => gops P T N ops (ops.toList.drop m) E M nx (Q .normal))) : GW P N (.region id ops true) E M nx Q := by
  intro B W w0 σ a w hs
  have ok := drawOKt_spec hok
  obtain ⟨vals, h1, h2⟩ := gphase_trace _ _ _ _ h
  have hlen : (ops.toList.take m).length = m := by have := ok.le; simp; omega
  have hget : ∀ k, k < m → (ops.toList.take m)[k]? = ops[k]? := fun k hk => by
    rw [List.getElem?_take_of_lt hk]; simp
  have hE := fun j hj => SL_env (E := E) (M := M) (nx := nx) (ops := ops) (l := ops.toList.take m) (vals := vals) (fun k hk => by rw [hget k (by omega)]) j hj
  have hM := SL_mem (E := E) (M := M) (nx := nx) (l := ops.toList.take m) (vals := vals)
  have hsz' : (ops.extract 0 m).size = m := by have := ok.le; simp; omega
  have okx : DK (ops.extract 0 m) m := by
    refine ⟨by rw [hsz']; exact Nat.le_refl m, fun i j hi hj hne hc => ?_, fun j hj hs => by rw [hsz'] at hs; omega, fun j o ho => ok.wf j o (extract_some ho)⟩
    have hcl : clashes (ops.extract 0 m) i j = clashes ops i j := by
      unfold clashes
      rw [extract_get hi ok.le, extract_get hj ok.le]
      cases (ops[i]?).bind (·.dst) with
      | none => rfl
      | some d =>
        cases hgj : ops[j]? with
        | none => rfl
        | some o =>
          dsimp only
          congr 1
          cases hgd : o.guard with
          | none => rfl
          | some g =>
            have := ok.guard j hj o hgj g hgd
            obtain ⟨g1, g2⟩ := g
            dsimp only at this ⊢
            rw [extract_get this ok.le]
    have hah : ∀ i j, j < m → ahead_ (ops.extract 0 m) i j = ahead_ ops i j := fun i j hj => ahead_take ok.le hj
    rw [hcl] at hc
    have := ok.pair i j hi hj hne hc
    rw [hah i j hj, hah j i hi]
    exact this
  have tr : Tr P T N (ops.extract 0 m) m vals (fun k => (SL (ops.toList.take m) vals E M nx k).2.2) E M nx := {
    ok := okx
    step := fun k o hk ho => by
      have ho' := extract_some ho
      have := h1 k o (by rw [hget k hk]; exact ho')
      rw [hE k (by omega), hM k] at this
      rw [ESl_take vals E _ m (Nat.le_refl m) k (by omega) ok.le]
      exact DStep_take (i := k) ok.le (fun g hg => ok.guard k hk o ho' g hg) this
    qne := fun i j hne hi hj => q_ne hne hi hj
    qfind := fun x j h1 h2 => q_find h1 h2
    qge := fun j => q_mono (i := 0) (Nat.zero_le j)
    qlt := fun c hc hu => q_lt hc hu
    base := fun r hr => by
      cases hM : M r with
      | none => rfl
      | some R =>
        obtain ⟨L, e1, _⟩ := hs.mem.reg r R hM
        rw [hs.mem.fresh r hr] at e1
        cases e1 }
  rw [hlen, hE m (by omega), hM m] at h2
  refine wp_region_any hm ?_
  have e0 : (fun j => (Array.replicate ops.size false).getD j false) = fun _ => false := by
    funext j; exact rep_getD _ j
  have e1 : ∀ m, ESl ops vals E (fun _ => false) m = E := by
    intro m; induction m with
    | zero => rfl
    | succ m ih => simp only [ESl]; exact ih
  have e2 : ∀ q m, MSl vals q M (fun _ => false) m = M := by
    intro q m; induction m with
    | zero => rfl
    | succ m ih => simp only [MSl]; exact ih
  have hd := hs.drawn
  refine takes_any hT ok tr hs.low hsel hp h2 tk ops.size (List.range ops.size) _ σ a _ (fun _ h => h) ok.nd (fun i _ => rep_getD _ i) (fun i hi => .inl hi) hfree (by simp) List.nodup_range (fun j => by rw [rep_getD]; simp) (by simp) ?_ ?_ ?_
  · rw [e0]; intro j o hj; cases hj
  · intro j hj; rw [rep_getD] at hj; cases hj
  · rw [e0, e1, e2]
    exact ⟨hd.env, hd.mem.weaken fun r hr => hr.1, hd.fr, hd.defers, hd.size, fun r hr => Nat.le_trans hd.low hr.1, hd.pin⟩
end
theorem GDraw_mix {P : Program} {T : Tab} {N : Cfg} {k : List It} {Q : GQ} {E : Env} {M : Mem} {nx : Nat} (nw : FuncId → Bool) (hT : TabOK P T) (hm : P.follows .mixedOrders = true) {id : Nat} {ops : List Oper} (tk : List Nat) (m : Nat) (hok : drawOKt ops.toArray m tk = true)
    (hfree : freeSeq ops.toArray tk (Array.replicate ops.toArray.size false) = true) (hsel : Region.noSelect ops.toArray = true) (hp : ∀ c E M nx, GK P T N k Q (.panic c) E M nx → False) {l fin : List Oper} (hl : ops.take m = l) (hf : ops.drop m = fin)
    (h : GPh nw P T N ops.toArray l fin k Q E M nx) : GDraw P T N id ops.toArray k Q E M nx := by
  subst hl; subst hf
  exact gdraw2 hT hm tk m hok hfree hsel hp h
end Go.Gx
/-
  Regions of open order by all their orders; what reads no memory goes first (checks of pointers too).
-/
set_option linter.unusedVariables false
set_option linter.unusedSimpArgs false
namespace Go.Gx
open Go.RowKit

/-- What goes first: it reads no memory. -/
def takesX (o : Oper) : Bool := o.guard.isNone && match o.op with | .fieldAddr .. | .move _ | .assign _ | .nilCheck _ => true | _ => false
def gtakeX (T : Tab) (E : Env) : Op → GR
  | .fieldAddr t x f => gfield T t (ev E x) f
  | .move x | .assign x => .pure True (ev E x)
  | .nilCheck x => gnilop (ev E x)
  | _ => .bad
def TT.makeX (ops : Array Oper) : Nat → Array Bool → TT
  | 0, l => if (Region.ready .any ops l).isEmpty then .done else .bad
  | n + 1, l =>
    let r := Region.ready .any ops l
    if r.isEmpty then .done else
    match r.find? fun i => ((ops[i]?).map takesX).getD false && Region.free .any ops l i with
    | some i => .take i (TT.makeX ops n (l.setIfInBounds i true))
    | none => r.foldr (fun i t => .alt i (TT.makeX ops n (l.setIfInBounds i true)) t) .nil

section
variable (P : Program) (T : Tab) (N : Cfg)
def TQX (K : Env → Mem → Nat → Prop) : GQ := fun e E M nx => match e with | .normal => K E M nx | _ => True
def GTkX (g : GR) (d : Option Tmp) (K : Env → Mem → Nat → Prop) (E : Env) (M : Mem) (nx : Nat) : Prop :=
  match g with
  | .pure ob s => ob ∧ dOK N.n d ∧ K (envPut E d s) M nx
  | _ => False
def GUX (all : Array Oper) : TT → List It → GQ → Env → Mem → Nat → Prop
  | .done, k, Q, E, M, nx => GK P T N k Q .normal E M nx
  | .bad, _, _, _, _, _ => False
  | .nil, _, _, _, _, _ => True
  | .alt i sub more, k, Q, E, M, nx => (match all[i]? with | some o => GO P T N all [o] [] (TQX (GUX all sub k Q)) E M nx | none => False) ∧ GUX all more k Q E M nx
  | .take i sub, k, Q, E, M, nx => match all[i]? with | some o => GTkX N (gtakeX T E o.op) o.dst (GUX all sub k Q) E M nx | none => False
def GUoX (o : Option Oper) (all : Array Oper) (sub : TT) (k : List It) (Q : GQ) (E : Env) (M : Mem) (nx : Nat) : Prop :=
  match o with | some o => GO P T N all [o] [] (TQX (GUX P T N all sub k Q)) E M nx | none => False
def GUtX (o : Option Oper) (all : Array Oper) (sub : TT) (k : List It) (Q : GQ) (E : Env) (M : Mem) (nx : Nat) : Prop :=
  match o with | some o => GTkX N (gtakeX T E o.op) o.dst (GUX P T N all sub k Q) E M nx | none => False
end
section
variable {P : Program} {T : Tab} {N : Cfg} {k : List It} {Q : GQ} {E : Env} {M : Mem} {nx : Nat}
@[go_sem] theorem TQX_normal (K : Env → Mem → Nat → Prop) : TQX K .normal E M nx = K E M nx := (rfl)
@[go_sem] theorem GUX_done (all : Array Oper) : GUX P T N all .done k Q E M nx = GK P T N k Q .normal E M nx := (rfl)
@[go_sem] theorem GUX_nil (all : Array Oper) : GUX P T N all .nil k Q E M nx = True := (rfl)
@[go_sem] theorem GUX_alt (all : Array Oper) (i : Nat) (s m : TT) : GUX P T N all (.alt i s m) k Q E M nx = (GUoX P T N all[i]? all s k Q E M nx ∧ GUX P T N all m k Q E M nx) := (rfl)
@[go_sem] theorem GUX_take (all : Array Oper) (i : Nat) (s : TT) : GUX P T N all (.take i s) k Q E M nx = GUtX P T N all[i]? all s k Q E M nx := (rfl)
@[go_sem] theorem GUoX_some (all : Array Oper) (o : Oper) (s : TT) : GUoX P T N (some o) all s k Q E M nx = GO P T N all [o] [] (TQX (GUX P T N all s k Q)) E M nx := (rfl)
@[go_sem] theorem GUtX_some (all : Array Oper) (d : Option Tmp) (op : Op) (ty : TypeId) (pos : String) (af : Array Edge) (g : Option (Nat × Bool)) (s : TT) :
    GUtX P T N (some ⟨d, op, ty, pos, af, g⟩) all s k Q E M nx = GTkX N (gtakeX T E op) d (GUX P T N all s k Q) E M nx := (rfl)
@[go_sem] theorem GTkX_pure (ob : Prop) (s : SV) (d : Option Tmp) (K : Env → Mem → Nat → Prop) : GTkX N (.pure ob s) d K E M nx = (ob ∧ dOK N.n d ∧ K (envPut E d s) M nx) := (rfl)
@[go_sem] theorem gtakeX_fieldAddr (t : TypeId) (x : Operand) (f : Nat) : gtakeX T E (.fieldAddr t x f) = gfield T t (ev E x) f := (rfl)
@[go_sem] theorem gtakeX_move (x : Operand) : gtakeX T E (.move x) = .pure True (ev E x) := (rfl)
@[go_sem] theorem gtakeX_nilCheck (x : Operand) : gtakeX T E (.nilCheck x) = gnilop (ev E x) := (rfl)
@[go_sem] theorem gtakeX_assign (x : Operand) : gtakeX T E (.assign x) = .pure True (ev E x) := (rfl)

theorem guX_alts {all : Array Oper} {f : Nat → TT} : ∀ (l : List Nat), GUX P T N all (l.foldr (fun i t => .alt i (f i) t) .nil) k Q E M nx →
    ∀ i ∈ l, ∃ o, all[i]? = some o ∧ gops P T N all [o] E M nx (fun E M nx => GUX P T N all (f i) k Q E M nx)
  | [], _, i, hi => by simp at hi
  | j :: l, h, i, hi => by
    simp only [List.foldr_cons, GUX] at h
    rcases List.mem_cons.1 hi with rfl | hi
    · have h1 := h.1
      cases ho : all[i]? with
      | none => rw [ho] at h1; exact h1.elim
      | some o => rw [ho] at h1; exact ⟨o, rfl, h1⟩
    · exact guX_alts l h.2 i hi

theorem guX_any (hT : TabOK P T) {B W : Nat → Prop} {w0 : W0} {all : Array Oper} (hsel : Region.noSelect all = true) {R : Exit → Act → World → Prop}
    (hK : ∀ E M nx σ a w, GK P T N k Q .normal E M nx → St B W w0 N σ E M nx a w → R .normal a w) (hR : ∀ c a w, ¬ R (.panic c) a w) : ∀ (fuel : Nat) (listed : Array Bool) (E : Env) (M : Mem) (nx : Nat) (σ : Sig) (a : Act) (w : World),
    St B W w0 N σ E M nx a w → GUX P T N all (TT.makeX all fuel listed) k Q E M nx → wpAny P .any all R fuel listed a w := by
  intro fuel
  induction fuel with
  | zero =>
    intro listed E M nx σ a w h hg
    simp only [TT.makeX] at hg
    split at hg
    · rename_i hr
      exact ⟨List.isEmpty_iff.1 hr, hK _ _ _ _ _ _ hg h⟩
    · exact hg.elim
  | succ fuel ih =>
    intro listed E M nx σ a w h hg
    simp only [TT.makeX] at hg
    split at hg
    · rename_i hr
      have hr' := List.isEmpty_iff.1 hr
      refine ⟨fun _ => hK _ _ _ _ _ _ hg h, fun i hi => ?_⟩
      rw [hr'] at hi; simp at hi
    · rename_i hr
      split at hg
      · rename_i i hi
        have hp := List.find?_some hi
        have hmem := List.mem_of_find?_eq_some hi
        simp only [Bool.and_eq_true] at hp
        obtain ⟨hp1, hp2⟩ := hp
        simp only [GUX] at hg
        cases ho : all[i]? with
        | none => rw [ho] at hg; exact hg.elim
        | some o =>
          rw [ho] at hg hp1
          simp only [Option.map_some, Option.getD_some] at hp1
          obtain ⟨dst, op, ty, pos, af, gd⟩ := o
          simp only [takesX, Bool.and_eq_true, Option.isNone_iff_eq_none] at hp1
          obtain ⟨rfl, hp1⟩ := hp1
          have hw : Region.wanted ⟨dst, op, ty, pos, af, none⟩ (yielded all a.tmps) = true := by simp [Region.wanted]
          have fin : ∀ (s : SV) (y : Value), (∀ w, (execOp a.eval ⟨dst, op, ty, pos, af, none⟩).run P w = .ok (.value y) w) → s.rel σ (Zof B σ M w) w y → dOK N.n dst → GUX P T N all (TT.makeX all fuel (listed.setIfInBounds i true)) k Q (envPut E dst s) M nx → wpAny P .any all R (fuel + 1) listed a w := by
            intro s y h1 h2 h3 h4
            exact wpAny_take (v := y) ho hsel hp2 (by simpa using hmem) (fun c a w hh => (hR _ _ _ hh).elim) (.inl ⟨hw, h1⟩) (ih _ _ _ _ _ _ _ (h.put h3 h2) h4)
          cases op with
          | fieldAddr t x f =>
            simp only [gtakeX] at hg
            cases hq : gfield T t (ev E x) f with
            | pure ob s =>
              rw [hq] at hg
              obtain ⟨h1, h2, h3⟩ := hg
              obtain ⟨y, e1, e2⟩ := take_field hT hq h1 (ev_rel h.env x)
              exact fin s y (fun w => by simp [execOp, e1]) e2 h2 h3
            | _ => rw [hq] at hg; exact hg.elim
          | move x =>
            obtain ⟨_, h2, h3⟩ := hg
            exact fin _ (a.eval x) (fun w => rfl) (ev_rel h.env x) h2 h3
          | assign x =>
            obtain ⟨_, h2, h3⟩ := hg
            exact fin _ (a.eval x) (fun w => rfl) (ev_rel h.env x) h2 h3
          | nilCheck x =>
            simp only [gtakeX] at hg
            have hx := ev_rel h.env x
            unfold gnilop at hg
            split at hg
            · rename_i a1 a2 a3 a4 heq
              rw [heq] at hx
              obtain ⟨_, h2, h3⟩ := hg
              obtain ⟨L, b, q1, q2, q3⟩ := hx
              exact fin (.ptr a1 a2 a3 a4) (a.eval x) (fun w => by simp [execOp, q3]) ⟨L, b, q1, q2, q3⟩ h2 h3
            · rename_i a1 a2 a3 a4 a5 heq
              rw [heq] at hx
              obtain ⟨_, h2, h3⟩ := hg
              obtain ⟨b, o, q1, q2⟩ := hx
              exact fin (.r (.rp a1 a2 a3 a4 a5)) (a.eval x) (fun w => by simp [execOp, q1]) ⟨b, o, q1, q2⟩ h2 h3
            · rename_i f a1 a2 heq
              rw [heq] at hx
              split at hg
              · rename_i f'
                obtain ⟨_, h2, h3⟩ := hg
                obtain ⟨vs, ws, q1, q2⟩ := hx
                exact fin (.fn (.func f') a1 a2) (a.eval x) (fun w => by simp [execOp, q1]) ⟨vs, ws, q1, q2⟩ h2 h3
              · exact hg.elim
            · exact hg.elim
          | _ => simp at hp1
      · refine ⟨fun h' => absurd (List.isEmpty_iff.2 h') hr, fun i hi => ?_⟩
        obtain ⟨o, ho, hgo⟩ := guX_alts _ hg i hi
        have hs := gops_step (Q := R) (next := wpAny P .any all R fuel (listed.setIfInBounds i true)) hT h hgo (fun E' M' nx' σ' a' w' hk hs => ih _ E' M' nx' σ' a' w' hs hk)
        unfold wpOp; rw [ho]; simp only []
        split
        · rename_i hw; rw [if_pos hw] at hs; exact .inl hs
        · rename_i hw; rw [if_neg hw] at hs; exact hs

/-- A region of open order, by all its orders. -/
theorem GDraw_x (hT : TabOK P T) (hm : P.follows .mixedOrders = true) {id : Nat} {all : Array Oper} {t : TT} (hsel : Region.noSelect all = true) (ht : TT.makeX all all.size (Array.replicate all.size false) = t)
    (hp : ∀ c E M nx, GK P T N k Q (.panic c) E M nx → False) (h : GUX P T N all t k Q E M nx) : GDraw P T N id all k Q E M nx := by
  subst ht
  intro B W w0 σ a w hs
  refine wp_region_any hm (guX_any hT hsel (R := fun e a' w' => ∃ E' M' nx' σ', GK P T N k Q e E' M' nx' ∧ St B W w0 N σ' E' M' nx' a' w') (fun E M nx σ a w hk hst => ⟨E, M, nx, σ, hk, hst⟩) (fun c a w ⟨E, M, nx, σ, hk, _⟩ => hp _ _ _ _ hk) _ _ E M nx σ a _ hs.drawn h)
end
end Go.Gx
/-
  Families of regions again, in the form that simp reckons with: regions i + b.
-/
set_option linter.unusedVariables false
set_option linter.unusedSimpArgs false
namespace Go.Gx
open Go.RowKit

section
variable {P : Program} {T : Tab} {N : Cfg} {k : List It} {Q : GQ} {E : Env} {M M' : Mem} {nx : Nat}
def famN (M : Mem) (b n : Nat) (R : Nat → Option Reg) : Mem := fun r => if b ≤ r ∧ r < n + b then R (r - b) else M r
@[go_sem] theorem famN_app (M : Mem) (b n : Nat) (R : Nat → Option Reg) (r : Nat) : famN M b n R r = if b ≤ r ∧ r < n + b then R (r - b) else M r := rfl
theorem famN_eq (M : Mem) (b n : Nat) (R : Nat → Option Reg) : famN M b n R = famM M b n R := by
  funext r
  unfold famN famM
  rw [Nat.add_comm n b]
theorem Fit.of_famN {S : List (Nat × SV)} {l : List (Option Reg)} {b cnt n : Nat} {R : Nat → Option Reg} (hn : N.np ≤ n) (h : slotsS n E S) (hl : l.length = b) (h1 : regsS 0 (trimM n M) l)
    (h2 : ∀ i, i < cnt → Reg.sub (trimM n M (i + b)) (R i)) : Fit N E M nx S (famN (memL l) b cnt R) n := by
  rw [famN_eq]
  exact Fit.of_fam hn h hl h1 fun i hi => by rw [Nat.add_comm]; exact h2 i hi
theorem memR_famN (l : List Reg) (n : Nat) (f : Nat → Reg) : memR (l ++ (List.range n).map f) = famN (memR l) l.length n (fun i => some (f i)) := by
  rw [famN_eq]; exact memR_fam' l n f
@[go_sem] theorem addS_famN (b i n : Nat) (f : Nat → Reg) (M : Mem) : addS (fun i => b + i) i ((List.range n).map f) M = famN M (b + i) n fun j => some ((f j).ren fun i => b + i) := by
  have := addS_map b (fun i => b + i) (fun _ => rfl) f n 0 i M
  rw [List.range_eq_range', famN_eq]
  simpa using this
@[go_sem] theorem famL_def (n : Nat) (f : Nat → Reg) : famL n f = (List.range n).map f := rfl
/-- The regions of an export: some, and a family. -/
def famR (l : List Nat) (n b : Nat) : List Nat := l ++ (List.range n).map fun i => i + b
theorem famR_nodup {l : List Nat} {n b : Nat} (h : l.Nodup) (hl : ∀ x ∈ l, x < b) : (famR l n b).Nodup :=
  nodup_fam h (fun i j _ _ h => by omega) fun x hx i _ => by have := hl x hx; omega
theorem famR_getD (l : List Nat) (n b D r : Nat) : ((famR l n b)[r]?).getD D = if r < l.length then (l[r]?).getD D else if r < n + l.length then r - l.length + b else D := by
  unfold famR
  rw [getD_fam, Nat.add_comm l.length n]
theorem famR_lo {l : List Nat} {n b D r : Nat} (h : r < l.length) : ((famR l n b)[r]?).getD D = (l[r]?).getD D := by
  rw [famR_getD, if_pos h]
theorem famR_hi {l : List Nat} {n b D i : Nat} (h : i < n) : ((famR l n b)[i + l.length]?).getD D = i + b := by
  rw [famR_getD, if_neg (by omega), if_pos (by omega)]; omega
theorem gexpR_famN {ρ : Nat → Nat} {l : List Nat} {Rs : List Reg} {n b : Nat} {f : Nat → Reg} (h : gexpR M ρ l Rs) (h' : ∀ i, i < n → Reg.sub (M (i + b)) (some ((f i).ren ρ))) : gexpR M ρ (famR l n b) (Rs ++ (List.range n).map f) :=
  gexpR_fam h h'
end
end Go.Gx
/-
  Cells of which less is known.
-/
set_option linter.unusedVariables false
set_option linter.unusedSimpArgs false
namespace Go.Gx
open Go.RowKit

section
variable {P : Program} {T : Tab} {N : Cfg} {k : List It} {Q : GQ} {E : Env} {M M' : Mem} {nx : Nat}
/-- As Reg.sub; of the cells of rows less may be known. -/
def Reg.wk (R R' : Option Reg) : Prop :=
  Reg.sub R R' ∨ ∃ e k n n' g g', R = some (.vec e k n g) ∧ R' = some (.vec e k n' g') ∧ n' ≤ n ∧ ∀ i j, i < n' → j < k → (g i j).sub (g' i j)
theorem Reg.wk_vec {e k n n' : Nat} {g g' : Nat → Nat → SV} (hn : n' ≤ n) (h : ∀ i j, i < n' → j < k → (g i j).sub (g' i j)) : Reg.wk (some (.vec e k n g)) (some (.vec e k n' g')) := .inr ⟨e, k, n, n', g, g', rfl, rfl, hn, h⟩
theorem Reg.wk_ok {σ : Sig} {Z Z' : Nat → Prop} {w : World} {L : Loc} {R R' : Reg} (h : Reg.wk (some R) (some R')) (hz : ∀ b, Z b → Z' b) (hr : RegOK σ Z w L R) : RegOK σ Z' w L R' := by
  rcases h with h | ⟨e, k, n, n', g, g', h1, h2, hn, hg⟩
  · exact Reg.sub_ok h hz hr
  · cases h1; cases h2
    have hr' := hr.mono (fun _ _ h => h) (fun b hb => ⟨hz b hb, rfl⟩) (fun _ _ => rfl)
    obtain ⟨h0, hm, h⟩ := hr'
    refine ⟨Nat.le_trans hn h0, hm, h.imp id fun ⟨b, cs, h1, h2, h3, ho, h5⟩ => ⟨b, cs, h1, h2, h3, ho, fun i j hi hj => ?_⟩⟩
    obtain ⟨v, v1, v0, v2⟩ := h5 i j (by omega) hj
    exact ⟨v, v1, v0, SV.sub_rel _ _ _ (hg i j hi hj) v2⟩
theorem MOK.wk {B W F : Nat → Prop} {n0 : Nat} {σ : Sig} {w : World} (hm : MOK B W n0 σ M F w) (hs : ∀ r, Reg.wk (M r) (M' r)) : MOK B W n0 σ M' F w ∧ ∀ b, Zof B σ M w b → Zof B σ M' w b := by
  have hk : ∀ r R', M' r = some R' → ∃ R1, M r = some R1 ∧ Reg.wk (some R1) (some R') := by
    intro r R' h
    have := hs r
    rw [h] at this
    cases hq : M r with
    | none =>
      rw [hq] at this
      rcases this with h | ⟨_, _, _, _, _, _, h, _⟩
      · simp [Reg.sub] at h
      · cases h
    | some R1 => rw [hq] at this; exact ⟨R1, rfl, this⟩
  have hz : ∀ b, Zof B σ M w b → Zof B σ M' w b := fun b hb => ⟨hb.1, fun r R' L' h1 h2 h3 => by
    obtain ⟨R1, e1, _⟩ := hk r R' h1
    exact hb.2 r R1 L' e1 h2 h3⟩
  refine ⟨⟨hm.newB, hm.fresh, fun r R' h => ?_, fun r r' R1 R2 L1 L2 x h1 h2 h3 h4 h5 h6 => ?_, fun r R' L' x h1 h2 h3 => ?_⟩, hz⟩
  · obtain ⟨R1, e1, e2⟩ := hk r R' h
    obtain ⟨L', g1, g2⟩ := hm.reg r R1 e1
    exact ⟨L', g1, Reg.wk_ok e2 hz g2⟩
  · obtain ⟨R3, e1, _⟩ := hk r R1 h1
    obtain ⟨R4, e2, _⟩ := hk r' R2 h2
    exact hm.inj r r' R3 R4 L1 L2 x e1 e2 h3 h4 h5 h6
  · obtain ⟨R3, e1, _⟩ := hk r R' h1
    exact hm.own r R3 L' x e1 h2 h3
theorem Fit.of_wk {S : List (Nat × SV)} {M1 : Mem} {n : Nat} (hn : N.np ≤ n) (h : slotsS n E S) (hM : ∀ r, Reg.wk (trimM n M r) (M1 r)) : Fit N E M nx S M1 n := by
  refine ⟨trimE n E, fun B W w0 σ a w h3 => ?_⟩
  have h4 := h3.trim n hn
  obtain ⟨m1, m2⟩ := h4.mem.wk hM
  exact ⟨_, updL_sub _ _ (slotsS_all h) fun t => SV.rel_mono (fun _ _ h => h) (fun b hb => ⟨m2 b hb, rfl⟩) _ _ (h4.env t), m1, h4.fr, h4.defers, h4.size, h4.low, h4.pin⟩
/-- Less is known of the memory, ahead of a call. -/
theorem callK_wk {np : Nat} {f : FuncId} {args : List SV} {K : SV → Mem → Nat → (SV → SV) → Prop} (hs : ∀ r, Reg.wk (M r) (M' r)) (h : CallK P np f args M' nx K) : CallK P np f args M nx K := by
  intro B W n0 σ w vs hm hn hl ha
  obtain ⟨m1, m2⟩ := hm.wk hs
  have ha' := SV.relL_mono (σ := σ) (σ' := σ) (w := w) (w' := w) (fun _ _ h => h) (fun b hb => ⟨m2 b hb, rfl⟩) args vs ha
  have conv : ∀ e w', CallPost np B W n0 σ M' w K e w' → CallPost np B W n0 σ M w K e w' := by
    rintro e w' ⟨y, s, M1, nx', σ', up, rfl, p1, p2, p3, p4, p5, p6⟩
    exact ⟨y, s, M1, nx', σ', up, rfl, p1, p2, fun b hb => p3 b (m2 b hb), p4, fun t z hz' => p5 _ _ (SV.rel_mono (fun _ _ h => h) (fun b hb => ⟨m2 b hb, rfl⟩) _ _ hz'), p6⟩
  rcases h B W n0 σ w vs m1 hn hl ha' with ⟨c1, c2⟩ | ⟨y, w', c1, c2⟩
  · exact .inl ⟨c1, c2.mono fun e w' hp => conv e w' hp⟩
  · exact .inr ⟨y, w', c1, conv _ _ c2⟩
end
end Go.Gx
/-
  Calls that move cells whose plain cells are known.
-/
set_option linter.unusedVariables false
set_option linter.unusedSimpArgs false
namespace Go.Gx
open Go.RowKit
section
variable {P : Program} {T : Tab} {N : Cfg} {k : List It} {Q : GQ} {E : Env} {M : Mem} {nx : Nat}
theorem callK_opq2 {np : Nat} {f : FuncId} {args : List SV} {K : SV → Mem → Nat → (SV → SV) → Prop} (refs : List Nat) (hr : ∀ r ∈ refs, ∃ e k n get, M r = some (.vec e k n get)) {S : SV} {M2 : Mem} {q k m nx' : Nat} {e' : TypeId} {get' : Nat → Nat → SV}
    (H : ∀ Nm : SV → Value → Prop, (∀ x y, Nm (.r (.v x)) y ↔ y = x) → ∀ M1, NmM Nm refs M M1 → CallK P np f args M1 nx fun s M' nx1 up => up = id ∧ nx1 = nx' ∧ s = S ∧ ∃ d : Nat → Nat → Value, (∀ i j, i < m → j < k → Nm (get' i j) (d i j)) ∧ M' = upd M2 q (some (.vec e' k m fun i j => .r (.v (d i j)))))
    (hK : K S (upd M2 q (some (.vec e' k m get'))) nx' id) : CallK P np f args M nx K := by
  intro B W n0 σ w vs hm hn hl ha
  let M1 : Mem := fun r => if r ∈ refs then (match M r with | some (.vec e k n get) => some (.vec e k n fun i j => .r (.v (nmC σ w r k i j))) | R => R) else M r
  have hdom : ∀ r, (M r).isSome = (M1 r).isSome := fun r => by
    show _ = Option.isSome (if r ∈ refs then _ else _)
    split
    · split
      · rename_i h; rw [h]; rfl
      · rfl
    · rfl
  have hcell : ∀ r e k n get, M r = some (.vec e k n get) → ∃ L, σ r = some L ∧ RegOK σ (Zof B σ M w) w L (.vec e k n fun i j => .r (.v (nmC σ w r k i j))) ∧ ∀ i j, i < n → j < k → (get i j).rel σ (Zof B σ M w) w (nmC σ w r k i j) ∧ (nmC σ w r k i j).oneCell' = true := by
    intro r e k n get h
    obtain ⟨L, g1, g2⟩ := hm.reg r _ h
    obtain ⟨f0, fm, f | ⟨b, cs, f1, f2, f3, fo, f5⟩⟩ := g2
    · exact ⟨L, g1, ⟨f0, fm, .inl f⟩, fun i j hi => by omega⟩
    · have key : ∀ i j v, cs[i * k + j]? = some v → nmC σ w r k i j = v := fun i j v hv => by
        simp [nmC, g1, f1, World.cell?, f2, hv]
      refine ⟨L, g1, ⟨f0, fm, .inr ⟨b, cs, f1, f2, f3, fo, fun i j hi hj => ?_⟩⟩, fun i j hi hj => ?_⟩
      · obtain ⟨v, h1, h2, h3⟩ := f5 i j hi hj
        exact ⟨v, h1, h2, (key i j v h1).symm⟩
      · obtain ⟨v, h1, h2, h3⟩ := f5 i j hi hj
        rw [key i j v h1]; exact ⟨h3, h2⟩
  have hm1 : MOK B W n0 σ M1 (From nx) w := hm.swap hdom fun r R' h => by
    have h' : (if r ∈ refs then (match M r with | some (.vec e k n get) => some (.vec e k n fun i j => .r (.v (nmC σ w r k i j))) | R => R) else M r) = some R' := h
    split at h'
    · split at h'
      · rename_i e k n get hM
        cases h'
        obtain ⟨L, g1, g2, _⟩ := hcell r e k n get hM
        exact ⟨L, g1, g2⟩
      · exact hm.reg r R' h'
    · exact hm.reg r R' h'
  have hZ1 := Zof_dom (B := B) (σ := σ) (w := w) hdom
  have hNm : NmM (fun s y => s.rel σ (Zof B σ M w) w y) refs M M1 := ⟨fun r h => if_neg h, fun r h e k n get hM => ⟨nmC σ w r k, by
    show (if r ∈ refs then _ else _) = _
    rw [if_pos h, hM], (hcell r e k n get hM).elim fun L h => h.2.2⟩⟩
  have conv : ∀ e w', CallPost np B W n0 σ M1 w (fun s M' nx1 up => up = id ∧ nx1 = nx' ∧ s = S ∧ ∃ d : Nat → Nat → Value, (∀ i j, i < m → j < k → (get' i j).rel σ (Zof B σ M w) w (d i j)) ∧ M' = upd M2 q (some (.vec e' k m fun i j => .r (.v (d i j))))) e w' → CallPost np B W n0 σ M w K e w' := by
    rintro e w' ⟨y, s, M', nx1, σ', up, rfl, ⟨rfl, rfl, rfl, d, hd, rfl⟩, p1, p2, p3, p4, p5, p6, p7⟩
    have hdom' : ∀ r, (upd M2 q (some (.vec e' k m fun i j => .r (.v (d i j)))) r).isSome = (upd M2 q (some (.vec e' k m get')) r).isSome := fun r => by
      simp only [upd_app]
      split <;> rfl
    have hZ2 := Zof_dom (B := B) (σ := σ') (w := w') hdom'
    have hm2 : MOK B W n0 σ' (upd M2 q (some (.vec e' k m get'))) (From nx1) w' := p1.swap hdom' fun r R' h => by
      rw [upd_app] at h
      split at h
      · rename_i hq
        subst hq
        cases h
        obtain ⟨L, g1, g2⟩ := p1.reg r _ (upd_same ..)
        obtain ⟨f0, fm, f | ⟨b, cs, f1, f2, f3, fo, f5⟩⟩ := g2
        · exact ⟨L, g1, f0, fm, .inl f⟩
        · refine ⟨L, g1, f0, fm, .inr ⟨b, cs, f1, f2, f3, fo, fun i j hi hj => ?_⟩⟩
          obtain ⟨v, h1, h2, h3⟩ := f5 i j hi hj
          refine ⟨v, h1, h2, ?_⟩
          rw [show v = d i j from h3]
          have := p4 (get' i j) (d i j) (by rw [← hZ1]; exact hd i j hi hj)
          exact this
      · rename_i hq
        exact p1.reg r R' (by rw [upd_ne _ _ hq]; exact h)
    refine ⟨y, _, _, _, σ', id, rfl, hK, hm2, ?_, ?_, fun t z hz => ?_, p5, p6, p7⟩
    · rw [← hZ2, hZ1]; exact p2
    · rw [← hZ2]; exact p3
    · rw [← hZ2]; rw [hZ1] at hz; exact p4 t z hz
  rcases H _ (fun x y => Iff.rfl) M1 hNm B W n0 σ w vs hm1 hn hl (by rw [← hZ1]; exact ha) with ⟨c1, c2⟩ | ⟨y, w', c1, c2⟩
  · exact .inl ⟨c1, c2.mono fun e w' hp => conv e w' hp⟩
  · exact .inr ⟨y, w', c1, conv _ _ c2⟩
/-- Less is known of what a call hands back. -/
theorem OwnS.less {np : Nat} {f : FuncId} {Rs Rs' Rs2 : List Reg} {args : List SV} {S : SV} (h : OwnS P np f Rs args S Rs') (hl : Rs'.length = Rs2.length) (hs : ∀ r, Reg.sub (memR Rs' r) (memR Rs2 r)) : OwnS P np f Rs args S Rs2 := by
  intro B σ w vs hm ha
  obtain ⟨h1, h2⟩ := h B σ w vs hm ha
  refine ⟨h1, h2.mono fun e w' ⟨y, σ', e1, e2, e3, e4, e5⟩ => ?_⟩
  rw [hl] at e2
  obtain ⟨m1, m2⟩ := e2.sub hs
  exact ⟨y, σ', e1, m1, SV.rel_mono (fun _ _ h => h) (fun b hb => ⟨m2 b hb, rfl⟩) _ _ e3, e4, e5⟩
end
end Go.Gx
