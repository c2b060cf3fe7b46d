/-
  append behind a slice that does not begin at its region's first row: there is room, or the rows move.
-/
import Derived.Test.YtnajladibkpeaaaK8
set_option linter.unusedVariables false
set_option linter.unusedSimpArgs false
namespace Go.Gx
open Go.RowKit

theorem run_append_room_off {P : Program} (w : World) (t ty e : TypeId) (i : TypeInfo) (ht : P.underlying t = some (.slice e)) (hi : P.info? e = some i)
    (g off sLen sCap : Nat) (cur : Array Value) (hg : w.heap[g]? = some (.cells cur e (0, 0)))
    (a : Addr) (m c : Nat) (news : List Value) (hl : news.length = m * i.size) (hnews : ∀ j u, news[j]? = some u → w.cell? (a.add j) = some u) (h1 : ∀ u ∈ news, u.oneCell' = true)
    (hroom : sLen + m ≤ sCap) (hfit : off + sLen * i.size + news.length ≤ cur.size) :
    (Builtin.append_ #[t, t] ty #[.slice (some ⟨g, off, none⟩) sLen sCap, .slice (some a) m c]).run P w =
      .ok (.slice (some ⟨g, off, none⟩) (sLen + m) sCap) (w.setRow g (cur.toList.take (off + sLen * i.size) ++ news ++ cur.toList.drop (off + sLen * i.size + news.length)).toArray) := by
  have hf := run_firstCells_some (P := P) w i.size m a m c news hl hnews
  have hst := run_storeCells_at P g (off + sLen * i.size) e news 0 cur w hg (by simpa using hfit) h1
  simp only [Nat.add_zero] at hst
  simp [Builtin.append_, run_underlying ht, sizeOf, typeInfo, hi, Builtin.lenOf, hroom, hf, Addr.add_lit, hst]

section
variable {P : Program} {T : Tab} {N : Cfg} {E : Env} {M : Mem} {nx : Nat}
theorem St.app {B W : Nat → Prop} {w0 : W0} {σ : Sig} {a : Act} {w w' : World} (h : St B W w0 N σ E M nx a w) {ref : Nat} {L : Loc} {R : Reg}
    (hm : MOK B W w0.heap.size (upd σ ref (some L)) (upd (killM ref M) ref (some R)) (From nx) w') (hf : FrS W w0.heap.size w w') (hk : Keep (Zof B σ M w) (Zof B (upd σ ref (some L)) (upd (killM ref M) ref (some R)) w') w w')
    (hs : ∀ r L', r ≠ ref → σ r = some L' → upd σ ref (some L) r = some L') (hnp : N.np ≤ ref) :
    St B W w0 N (upd σ ref (some L)) (fun t => (E t).kill ref) (upd (killM ref M) ref (some R)) nx a w' :=
  h.go hm hf (fun t z hz => SV.rel_kill hs hk _ _ hz) h.low fun r hr => upd_ne _ _ (Nat.ne_of_lt (Nat.lt_of_lt_of_le hr hnp))
theorem GOp_appLo (hT : TabOK P T) {K : Env → Mem → Nat → Prop} {d : Option Tmp} {t ty e : TypeId} {pos : String} {af : Array Edge} {ref lo n m : Nat} {g get : Nat → Nat → SV} {s x : Operand} {ti ei : TI} {ob : Prop}
    (hx : ev E s = .sl ref ei.size lo n none) (hM : M ref = some (.vec e ei.size (lo + n) g)) (ht : T.ti t = some ti) (htk : ti.kind = .slice e) (hei : T.ti e = some ei) (h0 : 0 < ei.size) (hr : rowsOf M ei.size (ev E x) = some (ob, m, get)) (hob : ob) (hm : 0 < m)
    (hb : (n + m) * ei.bytes ≤ 140737488355328) (h63 : n + m ≤ 9223372036854775807) (hd : dOK N.n d) (hnp : N.np ≤ ref)
    (h1 : K (envPut (fun t => (E t).kill ref) d (.sl ref ei.size lo (n + m) none)) (upd (killM ref M) ref (some (.vec e ei.size (lo + (n + m)) fun i j => (joined (lo + n) m g get i j).kill ref))) nx)
    (h2 : K (envPut (fun t => (E t).kill ref) d (.sl ref ei.size 0 (n + m) none)) (upd (killM ref M) ref (some (.vec e ei.size (n + m) fun i j => (joined n m (fun i j => g (lo + i) j) get i j).kill ref))) nx) :
    GOpW P N ⟨d, .call ⟨.builtin .append, #[s, x], #[t, t]⟩, ty, pos, af, none⟩ E M nx K := by
  intro B W w0 σ a w hs next Q' hK
  have hu : P.underlying t = some (.slice e) := und_slice (hT.ti t ti ht) htk
  have hc := hT.ti e ei hei
  have hrs := ev_rel hs.env s
  have hrx := ev_rel hs.env x
  rw [hx] at hrs
  obtain ⟨L, A, g1, hy, g2, g3, g4, g5⟩ := hrs
  simp only [Option.getD_none] at g2 g3 g4 hy
  obtain ⟨A', c', news, e1, s1, s2, s3, hnew⟩ := rows_mem hs.mem hrx hr hob
  obtain ⟨L', e1', f0, fm, hf⟩ := hs.mem.reg ref _ hM
  rw [g1] at e1'; cases e1'
  have hmp : 0 < m * ei.size := Nat.mul_pos hm h0
  obtain ⟨b2, o2', rfl, hcell⟩ := s3 hmp
  have hn0 := hs.fr.size
  have hrun0 : (execOp a.eval ⟨d, .call ⟨.builtin .append, #[s, x], #[t, t]⟩, ty, pos, af, none⟩).run P w = vrun ((Builtin.append_ #[t, t] ty #[.slice A n (L.cap - lo), .slice (some ⟨b2, o2', none⟩) m c']).run P w) := by
    simp [execOp, resolve, invoke, builtin, hy, e1, vrun]
  unfold Oper.wp
  rw [hrun0]
  by_cases hfit : n + m ≤ L.cap - lo
  · obtain ⟨b, b1, rfl⟩ := g4 (by omega)
    rcases hf with ⟨f1, _⟩ | ⟨b', cs, f1, f2, f3, fo, f5⟩
    · rw [f1] at b1; cases b1
    rw [b1] at f1; cases f1
    have hlen : (lo + n) * ei.size + news.length ≤ cs.length := by rw [s1, f3, ← Nat.add_mul]; exact Nat.mul_le_mul_right _ (by omega)
    obtain ⟨i, hi, hi2, hi3, hz⟩ := ti_info hc
    have hrun := run_append_room_off (P := P) w t ty e i hu hi b (lo * ei.size) n (L.cap - lo) cs.toArray f2 ⟨b2, o2', none⟩ m c' news (by rw [hi2]; exact s1) (fun j u hu => by rw [add_none]; exact hcell j u hu) s2 hfit (by rw [hi2, ← Nat.add_mul]; simpa using hlen)
    rw [hi2, ← Nat.add_mul] at hrun
    have hpv : (cs.toArray.toList.take ((lo + n) * ei.size) ++ news ++ cs.toArray.toList.drop ((lo + n) * ei.size + news.length)).toArray = (putV cs ((lo + n) * ei.size) news).toArray := rfl
    rw [hpv] at hrun
    have hsm : ∀ x, x < w.heap.size → L.at_ ≠ some x → (w.setRow b (putV cs ((lo + n) * ei.size) news).toArray).heap[x]? = w.heap[x]? := fun x _ hx => setRow_other _ fun e => hx (by rw [e]; exact b1)
    obtain ⟨m1, m2, m3⟩ := mem_app (w' := w.setRow b (putV cs ((lo + n) * ei.size) news).toArray) (L := L) (R := .vec e ei.size (lo + (n + m)) fun i j => (joined (lo + n) m g get i j).kill ref) hs.mem hn0 hM g1 (by rw [setRow_size]; exact Nat.le_refl _) hsm (fun b hb => .inl hb)
      (fun σ' Z' hs' hk => ⟨by omega, fm, .inr ⟨b, _, b1, setRow_here f2, by rw [putV_length hlen]; exact f3, putV_one fo s2, fun i j hi hj => by
        rw [putV_get hlen, s1]
        dsimp only
        unfold joined
        by_cases hin : lo + n ≤ i ∧ i < lo + n + m
        · rw [if_pos ((row_div hj).2 hin), if_neg (by omega), if_pos hin.2]
          obtain ⟨v, v1, v2⟩ := hnew (i - (lo + n)) j (by omega) hj
          refine ⟨v, ?_, s2 v (List.mem_of_getElem? v1), SV.rel_kill hs' hk _ _ v2⟩
          rw [← v1, Nat.sub_mul]
          have : (lo + n) * ei.size ≤ i * ei.size := Nat.mul_le_mul_right _ hin.1
          congr 1; omega
        · rw [if_neg fun h => hin ((row_div hj).1 h)]
          obtain ⟨v, v1, v0, v2⟩ := f5 i j (by omega) hj
          refine ⟨v, v1, v0, ?_⟩
          rw [if_pos (by omega : i < lo + n)]
          exact SV.rel_kill hs' hk _ _ v2⟩⟩)
    rw [hrun]
    refine hK _ _ _ _ _ _ h1 (St.put (hs.app m1 ⟨rfl, rfl, rfl, by rw [setRow_size]; exact Nat.le_refl _, fun x hx hw => setRow_other _ fun e => ?_⟩ m2 m3 hnp) hd ⟨L, some ⟨b, lo * ei.size, none⟩, upd_same .., by simp, by simpa using hfit, by simpa using g3, fun _ => ⟨b, b1, by simp⟩, fun hl => by simpa using g5 hl⟩)
    subst e
    rcases hs.mem.own ref _ L x hM g1 b1 with h' | h'
    · exact hw h'
    · omega
  · clear hf
    have hro : rowsOf M ei.size (.sl ref ei.size lo n none) = some (ei.size = ei.size ∧ ei.size = ei.size ∧ lo + n ≤ lo + n, n, fun i j => g (lo + i) j) := by simp only [rowsOf, hM]
    obtain ⟨A2, c2, olds, q1, q2, q3, q4, q5⟩ := rows_mem (x := .slice A n (L.cap - lo)) hs.mem (s := .sl ref ei.size lo n none) ⟨L, A, g1, by simp, by simpa using g2, by simpa using g3, by simpa using g4, g5⟩ hro ⟨rfl, rfl, Nat.le_refl _⟩
    cases q1
    obtain ⟨cap, c1, c2, hrun⟩ := (src_slice (P := P) (c' := c') hu hc s1 s2 s3).2.2 ty A n (L.cap - lo) olds g2 q2 q4 (by omega) (by unfold maxLen; omega) hb
    have hsm : ∀ o x, x < w.heap.size → L.at_ ≠ some x → (w.drew.alloc o).heap[x]? = w.heap[x]? := fun o x hx _ => heap_old w.drew o x hx
    have hjc := fun rest => joined_cells (Z := Zof B σ M w) (w := w) (rest := rest) q2 q5 s1 hnew
    obtain ⟨m1, m2, m3⟩ := mem_app (w' := w.drew.alloc (.cells (olds ++ news ++ (Builtin.zeroCells ei.zeroV.cells (cap - (n + m))).toList).toArray e)) (L := ⟨some w.heap.size, cap⟩) (R := .vec e ei.size (n + m) fun i j => (joined n m (fun i j => g (lo + i) j) get i j).kill ref) hs.mem hn0 hM g1 (by simp) (hsm _) (fun b hb => .inr (by cases hb; exact Nat.le_refl _))
      (fun σ' Z' hs' hk => ⟨c1, c2, .inr ⟨w.heap.size, _, rfl, heap_new w.drew _, by
        show _ = cap * ei.size
        rw [List.length_append, List.length_append, q2, s1, zeroCells_rep hc, repV_length, List.length_map, ti_len hc, ← Nat.add_mul, ← Nat.add_mul]
        congr 1; omega, by
        intro v hv
        simp only [List.mem_append] at hv
        rcases hv with (hv | hv) | hv
        · exact q3 v hv
        · exact s2 v hv
        · rw [zeroCells_rep hc] at hv; exact rep_one _ _ v hv, fun i j hi hj => by
        obtain ⟨v, v1, v2⟩ := hjc (Builtin.zeroCells ei.zeroV.cells (cap - (n + m))).toList i j hi hj
        refine ⟨v, v1, ?_, ?_⟩
        · have hv := List.mem_of_getElem? v1
          simp only [List.mem_append] at hv
          rcases hv with (hv | hv) | hv
          · exact q3 v hv
          · exact s2 v hv
          · rw [zeroCells_rep hc] at hv; exact rep_one _ _ v hv
        · exact SV.rel_kill hs' hk _ _ v2⟩⟩)
    rw [hrun]
    exact hK _ _ _ _ _ _ h2 (St.put (hs.app m1 ⟨rfl, rfl, rfl, by simp, fun x hx _ => heap_old w.drew _ x (show x < w.heap.size by omega)⟩ m2 m3 hnp) hd ⟨⟨some w.heap.size, cap⟩, _, upd_same .., by simp, by simpa using c1, by simp, fun _ => ⟨w.heap.size, rfl, by simp⟩, fun _ => .inr rfl⟩)
end
end Go.Gx
