/-
  A call to which own memory is lent, and which hands back new memory.
-/
import Derived.Test.YtaggojedpkddjaaG5
set_option linter.unusedVariables false
set_option linter.unusedSimpArgs false
namespace Go.Gx
open Go.RowKit

mutual
/-- Nothing read-only in it. -/
def SV.own : SV → Prop
  | .r x => x.flat = true
  | .ptr .. => True
  | .sl .. => True
  | .fn f a b => SV.ownL a ∧ SV.ownL b
  | .agg l => SV.ownL l
  | .tup l => SV.ownL l
def SV.ownL : List SV → Prop
  | [] => True
  | s :: l => s.own ∧ SV.ownL l
end
def Reg.own : Reg → Prop
  | .box l => SV.ownL l
  | .vec e k n g => ∀ i j, i < n → j < k → (g i j).flat = true
def Reg.ownL : List Reg → Prop
  | [] => True
  | R :: l => R.own ∧ Reg.ownL l
theorem Reg.ownL_get : ∀ {l : List Reg} {i : Nat} {R : Reg}, Reg.ownL l → l[i]? = some R → R.own
  | [], i, R, _, h => by simp at h
  | R' :: l, 0, R, h, e => by simp at e; subst e; exact h.1
  | R' :: l, i + 1, R, h, e => Reg.ownL_get h.2 (by simpa using e)
section
variable {σ : Sig} {Z Z' : Nat → Prop} {w : World}
mutual
theorem SV.rel_own : ∀ (s : SV) (y : Value), s.own → s.rel σ Z w y → s.rel σ Z' w y
  | .r x, y, h, hr => RV.rel_flat h hr
  | .ptr .., y, h, hr => hr
  | .sl .., y, h, hr => hr
  | .fn f a b, y, h, hr => by
    obtain ⟨vs, ws, e, h1, h2⟩ := hr
    exact ⟨vs, ws, e, SV.relL_own a vs h.1 h1, SV.relL_own b ws h.2 h2⟩
  | .agg l, y, h, hr => by
    obtain ⟨vs, e, h1, h2⟩ := hr
    exact ⟨vs, e, h1, SV.relL_own l vs h h2⟩
  | .tup l, y, h, hr => by
    obtain ⟨vs, e, h2⟩ := hr
    exact ⟨vs, e, SV.relL_own l vs h h2⟩
theorem SV.relL_own : ∀ (l : List SV) (ys : List Value), SV.ownL l → SV.relL σ Z w l ys → SV.relL σ Z' w l ys
  | [], ys, _, h => h
  | s :: l, ys, h, hr => by
    obtain ⟨v, vs', e, h1, h2⟩ := hr
    exact ⟨v, vs', e, SV.rel_own s v h.1 h1, SV.relL_own l vs' h.2 h2⟩
end
theorem RegOK_own {L : Loc} {R : Reg} (h : R.own) (hr : RegOK σ Z w L R) : RegOK σ Z' w L R := by
  cases R with
  | box l =>
    obtain ⟨b, cs, ty, h1, h2, h3, h4⟩ := hr
    exact ⟨b, cs, ty, h1, h2, h3, SV.relL_own l cs h h4⟩
  | vec e k n g =>
    obtain ⟨h0, hm, hr⟩ := hr
    refine ⟨h0, hm, hr.imp id fun ⟨b, cs, h1, h2, h3, ho, h5⟩ => ⟨b, cs, h1, h2, h3, ho, fun i j hi hj => ?_⟩⟩
    obtain ⟨v, v1, v0, v2⟩ := h5 i j hi hj
    exact ⟨v, v1, v0, RV.rel_flat (h i j hi hj) v2⟩
end

variable {P : Program}
theorem callK_lentOwn {f : FuncId} {args : List SV} {S : SV} {Rs' : List Reg} {M : Mem} {nx : Nat} {K : SV → Mem → Nat → (SV → SV) → Prop} (hp : gviewL M args fun l => Own P f [] l S Rs') (hS : S.own) (hR : Reg.ownL Rs')
    (hK : K (S.ren fun i => nx + i) (addM nx Rs' (fun i => nx + i) M) (nx + Rs'.length) id) : CallK P f args M nx K := by
  intro B W n0 σ w vs hm hn0 hrel
  have hlt : ∀ r R L b, M r = some R → σ r = some L → L.at_ = some b → b < w.heap.size := fun r R L b h1 h2 h3 => by
    obtain ⟨L', e1, e2⟩ := hm.reg r R h1
    rw [h2] at e1; cases e1
    exact e2.block h3
  obtain ⟨l, hown, hl⟩ := gviewL_rel' (Z' := fun b => b < w.heap.size) hm (fun b hb => hb.1.1) hlt args _ vs hp hrel
  have hW : Wof (fun _ => none) (memR []) = fun _ => False := by
    funext b
    exact propext (Iff.intro (fun ⟨r, R, L, h1, h2⟩ => nomatch h1) False.elim)
  have hm1 : MOK (fun _ => True) (Wof (fun _ => none) (memR [])) w.heap.size (fun _ => none) (memR []) (From ([] : List Reg).length) w :=
    ⟨fun b hb => trivial, fun _ _ => rfl, fun r R h => (by cases h), fun r r' R R' L L' b h => (by cases h), fun r R L b h => (by cases h)⟩
  obtain ⟨c1, c2⟩ := hown (fun _ => True) (fun _ => none) w vs hm1 (SV.relL_mono (fun _ _ h => h) (fun b hb => ⟨⟨⟨hb, trivial⟩, fun r R L h => (by cases h)⟩, rfl⟩) _ _ hl)
  refine .inl ⟨c1, c2.mono fun e w' h' => ?_⟩
  obtain ⟨y, σ', rfl, hm', hr, hf⟩ := h'
  rw [hW] at hm' hf
  have hsame : ∀ b, b < w.heap.size → w'.heap[b]? = w.heap[b]? := fun b hb => hf.block b hb (fun h => h)
  let σ2 : Sig := fun r => if nx ≤ r then σ' (r - nx) else σ r
  let M2 : Mem := addM nx Rs' (fun i => nx + i) M
  have hσ2 : (fun i => σ2 (nx + i)) = σ' := by
    funext i
    simp [σ2]
  have hs2 : SigLe σ σ2 := fun r L h => by
    show (if nx ≤ r then _ else _) = _
    rw [if_neg]
    · exact h
    · intro hr
      rw [hm.fresh r hr] at h; cases h
  have hltσ : ∀ r L, σ r = some L → r < nx := fun r L h => by
    rcases Nat.lt_or_ge r nx with h1 | h1
    · exact h1
    · rw [hm.fresh r h1] at h; cases h
  have hk2 : ∀ r R, M2 r = some R → (∃ i R', r = nx + i ∧ memR Rs' i = some R' ∧ R = R'.ren fun i => nx + i) ∨ (M r = some R ∧ r < nx) := by
    intro r R h
    have h : addM nx Rs' (fun i => nx + i) M r = some R := h
    rw [addM_at] at h
    split at h
    · rename_i hr
      left
      refine ⟨r - nx, ?_⟩
      cases hq : Rs'[r - nx]? with
      | none => rw [hq] at h; cases h
      | some R' => rw [hq] at h; cases h; exact ⟨R', by omega, by rw [memR_get]; exact hq, rfl⟩
    · obtain ⟨L, g1, _⟩ := hm.reg r R h
      exact .inr ⟨h, hltσ r L g1⟩
  have hnew : ∀ i R L b, memR Rs' i = some R → σ' i = some L → L.at_ = some b → w.heap.size ≤ b := fun i R L b h1 h2 h3 => (hm'.own i R L b h1 h2 h3).elim False.elim id
  have hz2 : ∀ b, Zof B σ M w b → Zof B σ2 M2 w' b := fun b hb => ⟨⟨Nat.lt_of_lt_of_le hb.1.1 hf.size, hb.1.2⟩, fun r R L h1 h2 h3 => by
    rcases hk2 r R h1 with ⟨i, R', rfl, e1, _⟩ | ⟨e2, e3⟩
    · have : σ' i = some L := by rw [← hσ2]; exact h2
      have := hnew i R' L b e1 this h3
      have := hb.1.1; omega
    · have : σ2 r = σ r := if_neg (by omega)
      rw [this] at h2
      exact hb.2 r R L e2 h2 h3⟩
  have hkeep : Keep (Zof B σ M w) (Zof B σ2 M2 w') w w' := fun b hb => ⟨hz2 b hb, hsame b hb.1.1⟩
  refine ⟨y, S.ren fun i => nx + i, M2, nx + Rs'.length, σ2, id, rfl, hK, ⟨hm.newB, fun r hr => ?_, fun r R h => ?_, fun r r' R R' L L' b h1 h2 h3 h4 h5 h6 => ?_, fun r R L b h1 h2 h3 => ?_⟩, hkeep, ?_, fun t z hz => SV.rel_mono hs2 hkeep _ _ hz, ⟨hf.os, hf.tape, hf.output, hf.size, fun b hb hw => hsame b (by omega)⟩⟩
  · have hr' : nx + Rs'.length ≤ r := hr
    show (if nx ≤ r then _ else _) = _
    rw [if_pos (by omega)]
    exact hm'.fresh (r - nx) (show Rs'.length ≤ r - nx by omega)
  · rcases hk2 r R h with ⟨i, R', rfl, e1, rfl⟩ | ⟨e2, e3⟩
    · obtain ⟨L, g1, g2⟩ := hm'.reg i R' e1
      refine ⟨L, by rw [← g1, ← hσ2], ?_⟩
      refine RegOK_ren.2 ?_
      rw [hσ2]
      exact RegOK_own (Reg.ownL_get hR (by rw [← memR_get]; exact e1)) g2
    · obtain ⟨L, g1, g2⟩ := hm.reg r R e2
      exact ⟨L, hs2 _ _ g1, g2.mono hs2 hkeep fun b hb => hsame b (hlt r R L b e2 g1 hb)⟩
  · rcases hk2 r R h1 with ⟨i, R1, rfl, e1, _⟩ | ⟨e2, e3⟩
    · have g3 : σ' i = some L := by rw [← hσ2]; exact h3
      rcases hk2 r' R' h2 with ⟨i', R2, rfl, e1', _⟩ | ⟨e2', e3'⟩
      · have g4 : σ' i' = some L' := by rw [← hσ2]; exact h4
        rw [hm'.inj i i' R1 R2 L L' b e1 e1' g3 g4 h5 h6]
      · exfalso
        have : σ2 r' = σ r' := if_neg (by omega)
        rw [this] at h4
        have q1 := hlt r' R' L' b e2' h4 h6
        have := hnew i R1 L b e1 g3 h5
        omega
    · have g3 : σ r = some L := by
        have : σ2 r = σ r := if_neg (by omega)
        rw [← this]; exact h3
      rcases hk2 r' R' h2 with ⟨i', R2, rfl, e1', _⟩ | ⟨e2', e3'⟩
      · exfalso
        have g4 : σ' i' = some L' := by rw [← hσ2]; exact h4
        have q1 := hlt r R L b e2 g3 h5
        have := hnew i' R2 L' b e1' g4 h6
        omega
      · have : σ2 r' = σ r' := if_neg (by omega)
        rw [this] at h4
        exact hm.inj r r' R R' L L' b e2 e2' g3 h4 h5 h6
  · rcases hk2 r R h1 with ⟨i, R1, rfl, e1, _⟩ | ⟨e2, e3⟩
    · have g3 : σ' i = some L := by rw [← hσ2]; exact h2
      have := hnew i R1 L b e1 g3 h3
      right; omega
    · have : σ2 r = σ r := if_neg (by omega)
      rw [this] at h2
      exact hm.own r R L b e2 h2 h3
  · refine (SV.rel_ren _ _).2 ?_
    rw [hσ2]
    exact SV.rel_own _ _ hS hr
attribute [go_sem] SV.own SV.ownL Reg.own Reg.ownL
end Go.Gx
