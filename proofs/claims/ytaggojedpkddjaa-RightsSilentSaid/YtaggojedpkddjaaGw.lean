/-
  Steps of ghosts alone: a nil slice becomes a region of its own; a region becomes read-only; less is known. Loops with them.
-/
import Derived.Test.YtaggojedpkddjaaGv
set_option linter.unusedVariables false
set_option linter.unusedSimpArgs false
namespace Go.Gx
open Go.RowKit

mutual
theorem SV.trim_closed (n : Nat) : ∀ s : SV, s.closed = true → s.trim n = s
  | .r x, h => rfl
  | .ptr .., h => by simp [SV.closed] at h
  | .sl .., h => by simp [SV.closed] at h
  | .fn f fi ca, h => by
    simp [SV.closed] at h
    simp [SV.trim, SV.trimL_closed n fi h.1, SV.trimL_closed n ca h.2]
  | .agg l, h => by
    simp [SV.closed] at h
    simp [SV.trim, SV.trimL_closed n l h]
  | .tup l, h => by
    simp [SV.closed] at h
    simp [SV.trim, SV.trimL_closed n l h]
theorem SV.trimL_closed (n : Nat) : ∀ l : List SV, SV.closedL l = true → SV.trimL n l = l
  | [], h => rfl
  | s :: l, h => by
    simp [SV.closedL] at h
    simp [SV.trimL, SV.trim_closed n s h.1, SV.trimL_closed n l h.2]
end

/-- From what is known to what is known, in one world. -/
def GSt (N : Nat) (E : Env) (M : Mem) (nx : Nat) (E' : Env) (M' : Mem) (nx' : Nat) : Prop :=
  ∀ (B W : Nat → Prop) (w0 : World) (σ : Sig) (a : Act) (w : World), St B W w0 N σ E M nx a w → ∃ σ', St B W w0 N σ' E' M' nx' a w

section
variable {P : Program} {T : Tab} {N : Nat} {k : List It} {Q : GQ} {E E' E'' : Env} {M M' M'' : Mem} {nx nx' nx'' : Nat}

theorem GSt.refl : GSt N E M nx E M nx := fun B W w0 σ a w h => ⟨σ, h⟩
theorem GSt.trans (h : GSt N E M nx E' M' nx') (h' : GSt N E' M' nx' E'' M'' nx'') : GSt N E M nx E'' M'' nx'' := fun B W w0 σ a w hs => by
  obtain ⟨σ', hs'⟩ := h B W w0 σ a w hs
  exact h' B W w0 σ' a w hs'
theorem GW.pre {c : Code} {Q : Exit → Env → Mem → Nat → Prop} (h : GSt N E M nx E' M' nx') (g : GW P N c E' M' nx' Q) : GW P N c E M nx Q := fun B W w0 σ a w hs => by
  obtain ⟨σ', hs'⟩ := h B W w0 σ a w hs
  exact g B W w0 σ' a w hs'
theorem GLoop_pre {c : Code} (h : GSt N E M nx E' M' nx') (g : GLoop P T N c k Q E' M' nx') : GLoop P T N c k Q E M nx := GW.pre h g
theorem GDraw_pre {id : Nat} {ops : Array Oper} (h : GSt N E M nx E' M' nx') (g : GDraw P T N id ops k Q E' M' nx') : GDraw P T N id ops k Q E M nx := GW.pre h g
/-- An operation that stands still goes on behind a step of ghosts. -/
theorem GOp_pre (hT : TabOK P T) {o : Oper} {K : Env → Mem → Nat → Prop} (h : GSt N E M nx E' M' nx') (g : grun P T N o E' M' nx' K) : GOpW P N o E M nx K := fun B W w0 σ a w hs next Q hK => by
  obtain ⟨σ', hs'⟩ := h B W w0 σ a w hs
  exact grun_sound hT hs' g hK
theorem GOp_go (hT : TabOK P T) {all : Array Oper} {rest : List Oper} {o : Oper} (hg : o.guard = none) (h : GSt N E M nx E' M' nx') (g : GO P T N all (o :: rest) k Q E' M' nx') :
    GOpW P N o E M nx fun E' M' nx' => GO P T N all rest k Q E' M' nx' := by
  refine GOp_pre hT h ?_
  unfold GO at g
  simp only [gops, hg] at g
  exact g

/-! ### a nil slice as a region of its own -/
theorem GSt.adopt (t e k : Nat) (get : Nat → Nat → RV) (hE : E t = .r (.v (.slice none 0 0))) : GSt N E M nx (upd E t (.sl nx k 0 0 none)) (upd M nx (some (.vec e k 0 get))) (nx + 1) := by
  intro B W w0 σ a w h
  obtain ⟨e1, e2, e3⟩ := mem_new (w' := w) (L := ⟨none, 0⟩) (R := .vec e k 0 get) h.mem (Nat.le_refl nx) h.fr.size (Nat.le_refl _) (fun _ _ => rfl) (fun b hb => by cases hb) (fun σ' Z' _ _ => ⟨Nat.le_refl _, by simp [maxLen], .inl ⟨rfl, rfl⟩⟩)
  refine ⟨_, ?_, e1.weaken fun r hr => ⟨Nat.le_of_succ_le hr, Nat.ne_of_gt hr⟩, h.fr, h.defers, h.size⟩
  intro t'
  by_cases ht : t' = t
  · subst ht
    rw [upd_same]
    have := h.env t'
    rw [hE] at this
    rw [show a.tmps.getD t' undef = .slice none 0 0 from this]
    exact ⟨⟨none, 0⟩, none, upd_same .., rfl, by simp, by simp, by simp, fun _ => .inl rfl⟩
  · rw [upd_ne _ _ ht]
    exact SV.rel_mono e3 e2 _ _ (h.env t')

theorem relL_set {σ : Sig} {Z : Nat → Prop} {w : World} {s : SV} : ∀ {l : List SV} {cs : List Value} (j : Nat), SV.relL σ Z w l cs → (∀ v, cs[j]? = some v → s.rel σ Z w v) → SV.relL σ Z w (l.set j s) cs
  | [], cs, j, h, _ => by simpa using h
  | x :: l, cs, 0, h, hs => by
    obtain ⟨v, vs, rfl, h1, h2⟩ := h
    exact ⟨v, vs, rfl, hs v rfl, h2⟩
  | x :: l, cs, j + 1, h, hs => by
    obtain ⟨v, vs, rfl, h1, h2⟩ := h
    exact ⟨v, vs, rfl, h1, relL_set j h2 fun u hu => hs u (by simpa using hu)⟩

theorem GSt.adoptBox (ref j e k : Nat) (get : Nat → Nat → RV) {l : List SV} (hM : M ref = some (.box l)) (hj : l[j]? = some (.r (.v (.slice none 0 0)))) (hr : ref < nx) :
    GSt N E M nx E (upd (upd M nx (some (.vec e k 0 get))) ref (some (.box (l.set j (.sl nx k 0 0 none))))) (nx + 1) := by
  intro B W w0 σ a w h
  obtain ⟨e1, e2, e3⟩ := mem_new (w' := w) (L := ⟨none, 0⟩) (R := .vec e k 0 get) h.mem (Nat.le_refl nx) h.fr.size (Nat.le_refl _) (fun _ _ => rfl) (fun b hb => by cases hb) (fun σ' Z' _ _ => ⟨Nat.le_refl _, by simp [maxLen], .inl ⟨rfl, rfl⟩⟩)
  have hM' : upd M nx (some (.vec e k 0 get)) ref = some (.box l) := by rw [upd_ne _ _ (by omega)]; exact hM
  obtain ⟨m1, m2⟩ := set_same (R' := .box (l.set j (.sl nx k 0 0 none))) e1 hM' (fun L Z w' hL hR => by
    obtain ⟨b, cs, ty, h1, h2, h3, h4⟩ := hR
    refine ⟨b, cs, ty, h1, h2, h3, relL_set j h4 fun v hv => ?_⟩
    obtain ⟨v', hv', hrel⟩ := SV.relL_get h4 j _ hj
    rw [hv] at hv'; cases hv'
    cases hrel
    exact ⟨⟨none, 0⟩, none, upd_same .., rfl, by simp, by simp, by simp, fun _ => .inl rfl⟩)
  refine ⟨_, ?_, m1.weaken fun r hr => ⟨Nat.le_of_succ_le hr, Nat.ne_of_gt hr⟩, h.fr, h.defers, h.size⟩
  intro t'
  exact SV.rel_mono (fun _ _ h => h) m2 _ _ (SV.rel_mono e3 e2 _ _ (h.env t'))

/-! ### a region becomes read-only -/
mutual
def SV.fz (ref : Nat) (R : Reg) : SV → SV
  | .r x => .r x
  | .ptr q row k fld => if q = ref then (match R with
      | .vec e k' n g => if k' = k then .r (.rp k n g row fld) else .r .any
      | .box l => .r (.rp l.length 1 (gbox l) 0 (row * k + fld))) else .ptr q row k fld
  | .sl q k lo n c => if q = ref then (match R with
      | .vec e k' N g => if k' = k ∧ lo + n ≤ N then .r (.rs k n fun i j => g (lo + i) j) else .r .any
      | .box _ => .r .any) else .sl q k lo n c
  | .fn f fi ca => .fn f (SV.fzL ref R fi) (SV.fzL ref R ca)
  | .agg l => .agg (SV.fzL ref R l)
  | .tup l => .tup (SV.fzL ref R l)
def SV.fzL (ref : Nat) (R : Reg) : List SV → List SV
  | [] => []
  | s :: l => s.fz ref R :: SV.fzL ref R l
end
def Reg.fz (ref : Nat) (R : Reg) : Reg → Reg
  | .box l => .box (SV.fzL ref R l)
  | .vec e k n g => .vec e k n g
def fzM (ref : Nat) (R : Reg) (M : Mem) : Mem := fun r => if r = ref then none else (M r).map (Reg.fz ref R)

section
variable {σ : Sig} {Z Z' : Nat → Prop} {w : World} {ref : Nat} {R : Reg} {L : Loc}
mutual
theorem SV.rel_fz (hσ : σ ref = some L) (hR : RegOK σ Z w L R) (hz : ∀ b, Z b → Z' b) (hb : ∀ b, L.at_ = some b → Z' b) : ∀ (s : SV) (y : Value), s.rel σ Z w y → (s.fz ref R).rel σ Z' w y
  | .r x, y, h => by
    unfold SV.fz
    exact RV.rel_mono (fun b hb => ⟨hz b hb, rfl⟩) x y h
  | .ptr q row k fld, y, h => by
    unfold SV.fz
    split
    · rename_i hq
      subst hq
      obtain ⟨L', b, h1, h2, rfl⟩ := h
      rw [hσ] at h1; cases h1
      cases R with
      | vec e k' n g =>
        dsimp only
        split
        · rename_i hk
          subst hk
          obtain ⟨f0, fm, f | ⟨b', cs, f1, f2, f3, fo, f5⟩⟩ := hR
          · rw [h2] at f; cases f.1
          rw [h2] at f1; cases f1
          refine ⟨b, 0, by simp, hb b h2, fun i j hi hj => ?_⟩
          obtain ⟨v, v1, v0, v2⟩ := f5 i j hi hj
          exact ⟨v, by simp [World.cell?, f2, v1], v0, RV.rel_mono (fun b hb => ⟨hz b hb, rfl⟩) _ _ v2⟩
        · trivial
      | box l =>
        obtain ⟨b', cs, ty, f1, f2, f3, f4⟩ := hR
        rw [h2] at f1; cases f1
        refine ⟨b, 0, by simp, hb b h2, fun i j hi hj => ?_⟩
        have hi0 : i = 0 := by omega
        subst hi0
        obtain ⟨v, v1, v2⟩ := SV.relL_get f4 j l[j] (List.getElem?_eq_getElem hj)
        refine ⟨v, by simp [World.cell?, f2, v1], f3 v (List.mem_of_getElem? v1), ?_⟩
        unfold gbox
        rw [List.getElem?_eq_getElem hj]
        exact RV.rel_mono (fun b hb => ⟨hz b hb, rfl⟩) _ _ (toRV_rel v2)
    · obtain ⟨L', b, h1, h2, h3⟩ := h
      exact ⟨L', b, h1, h2, h3⟩
  | .sl q k lo n c, y, h => by
    unfold SV.fz
    split
    · rename_i hq
      subst hq
      cases R with
      | vec e k' N g =>
        dsimp only
        split
        · rename_i hk
          obtain ⟨rfl, hle⟩ := hk
          obtain ⟨L', A, g1, rfl, g2, g3, g4, g5⟩ := h
          rw [hσ] at g1; cases g1
          refine ⟨A, _, rfl, g2, fun h0 => ?_⟩
          obtain ⟨b, q1, rfl⟩ := g4 (by omega)
          obtain ⟨f0, fm, f | ⟨b', cs, f1, f2, f3, fo, f5⟩⟩ := hR
          · rw [q1] at f; cases f.1
          rw [q1] at f1; cases f1
          refine ⟨b, lo * k', rfl, hb b q1, fun i j hi hj => ?_⟩
          obtain ⟨v, v1, v0, v2⟩ := f5 (lo + i) j (by omega) hj
          refine ⟨v, ?_, v0, RV.rel_mono (fun b hb => ⟨hz b hb, rfl⟩) _ _ v2⟩
          simp only [World.cell?, f2]
          rw [← v1, Nat.add_mul, Nat.add_assoc]
          simp
        · trivial
      | box l => trivial
    · obtain ⟨L', A, h1, h2⟩ := h
      exact ⟨L', A, h1, h2⟩
  | .fn f fi ca, y, h => by
    obtain ⟨vs, ws, e, h1, h2⟩ := h
    exact ⟨vs, ws, e, SV.relL_fz hσ hR hz hb _ _ h1, SV.relL_fz hσ hR hz hb _ _ h2⟩
  | .agg l, y, h => by
    obtain ⟨vs, e, h1, h2⟩ := h
    exact ⟨vs, e, h1, SV.relL_fz hσ hR hz hb _ _ h2⟩
  | .tup l, y, h => by
    obtain ⟨vs, e, h2⟩ := h
    exact ⟨vs, e, SV.relL_fz hσ hR hz hb _ _ h2⟩
theorem SV.relL_fz (hσ : σ ref = some L) (hR : RegOK σ Z w L R) (hz : ∀ b, Z b → Z' b) (hb : ∀ b, L.at_ = some b → Z' b) : ∀ (l : List SV) (ys : List Value), SV.relL σ Z w l ys → SV.relL σ Z' w (SV.fzL ref R l) ys
  | [], ys, h => h
  | s :: l, ys, h => by
    obtain ⟨v, vs', e, h1, h2⟩ := h
    exact ⟨v, vs', e, SV.rel_fz hσ hR hz hb s v h1, SV.relL_fz hσ hR hz hb l vs' h2⟩
end
end

theorem MOK.freeze {B W F : Nat → Prop} {n0 : Nat} {σ : Sig} {w : World} (hm : MOK B W n0 σ M F w) {ref : Nat} {R : Reg} (hM : M ref = some R) :
    MOK B W n0 σ (fzM ref R M) F w ∧ ∀ s y, SV.rel σ (Zof B σ M w) w s y → (s.fz ref R).rel σ (Zof B σ (fzM ref R M) w) w y := by
  obtain ⟨L, hσ, hR⟩ := hm.reg ref R hM
  have hk : ∀ r R', fzM ref R M r = some R' → r ≠ ref ∧ ∃ R1, M r = some R1 ∧ R' = Reg.fz ref R R1 := by
    intro r R' h
    unfold fzM at h
    split at h
    · cases h
    · rename_i hne
      cases hq : M r with
      | none => rw [hq] at h; cases h
      | some R1 => rw [hq] at h; cases h; exact ⟨hne, R1, rfl, rfl⟩
  have hz : ∀ b, Zof B σ M w b → Zof B σ (fzM ref R M) w b := fun b hb => ⟨hb.1, fun r R' L' h1 h2 h3 => by
    obtain ⟨_, R1, e1, _⟩ := hk r R' h1
    exact hb.2 r R1 L' e1 h2 h3⟩
  have hb : ∀ b, L.at_ = some b → Zof B σ (fzM ref R M) w b := fun b h => ⟨⟨hR.block h, hm.newB b ((hm.own ref R L b hM hσ h).symm)⟩, fun r R' L' h1 h2 h3 => by
    obtain ⟨hne, R1, e1, _⟩ := hk r R' h1
    exact hne (hm.inj r ref R1 R L' L b e1 hM h2 hσ h3 h)⟩
  refine ⟨⟨hm.newB, hm.fresh, fun r R' h => ?_, fun r r' R1 R2 L1 L2 x h1 h2 h3 h4 h5 h6 => ?_, fun r R' L' x h1 h2 h3 => ?_⟩, fun s y h => SV.rel_fz hσ hR hz hb s y h⟩
  · obtain ⟨hne, R1, e1, rfl⟩ := hk r R' h
    obtain ⟨L', g1, g2⟩ := hm.reg r R1 e1
    refine ⟨L', g1, ?_⟩
    cases R1 with
    | box l =>
      obtain ⟨b', cs, ty, h1, h2, h3, h4⟩ := g2
      exact ⟨b', cs, ty, h1, h2, h3, SV.relL_fz hσ hR hz hb _ _ h4⟩
    | vec e k n g => exact g2.mono (fun _ _ h => h) (fun b hb => ⟨hz b hb, rfl⟩) fun _ _ => rfl
  · obtain ⟨_, R3, e1, _⟩ := hk r R1 h1
    obtain ⟨_, R4, e2, _⟩ := hk r' R2 h2
    exact hm.inj r r' R3 R4 L1 L2 x e1 e2 h3 h4 h5 h6
  · obtain ⟨_, R3, e1, _⟩ := hk r R' h1
    exact hm.own r R3 L' x e1 h2 h3

theorem GSt.freeze (ref : Nat) {R : Reg} (hM : M ref = some R) : GSt N E M nx (fun t => (E t).fz ref R) (fzM ref R M) nx := by
  intro B W w0 σ a w h
  obtain ⟨h1, h2⟩ := h.mem.freeze hM
  exact ⟨σ, fun t => h2 _ _ (h.env t), h1, h.fr, h.defers, h.size⟩

/-! ### less is known -/
def RV.sub : RV → RV → Prop
  | .rs k n g, .rs k' n' g' => k = k' ∧ n = n' ∧ ∀ i j, i < n → j < k → g i j = g' i j
  | .v (.slice none 0 0), .rs k' n' g' => n' = 0
  | _, .any => True
  | a, b => a = b
mutual
def SV.sub : SV → SV → Prop
  | .r a, .r b => a.sub b
  | .agg l, .agg l' => SV.subL l l'
  | .tup l, .tup l' => SV.subL l l'
  | _, .r .any => True
  | a, b => a = b
def SV.subL : List SV → List SV → Prop
  | [], [] => True
  | s :: l, s' :: l' => s.sub s' ∧ SV.subL l l'
  | _, _ => False
end
def Reg.sub : Option Reg → Option Reg → Prop
  | some (.vec e k n g), some (.vec e' k' n' g') => e = e' ∧ k = k' ∧ n = n' ∧ ∀ i j, i < n → j < k → g i j = g' i j
  | some (.box l), some (.box l') => SV.subL l l'
  | _, none => True
  | none, some _ => False
  | some (.vec ..), some (.box _) => False
  | some (.box _), some (.vec ..) => False

@[go_sem] theorem RV.sub_rfl (x : RV) : x.sub x := by
  cases x with
  | rs k n g => exact ⟨rfl, rfl, fun _ _ _ _ => rfl⟩
  | v x => simp [RV.sub]
  | _ => simp [RV.sub]
mutual
theorem SV.sub_rfl : ∀ s : SV, s.sub s
  | .r x => by simp only [SV.sub]; exact RV.sub_rfl x
  | .agg l => by simp only [SV.sub]; exact SV.subL_rfl l
  | .tup l => by simp only [SV.sub]; exact SV.subL_rfl l
  | .ptr .. => by simp [SV.sub]
  | .sl .. => by simp [SV.sub]
  | .fn .. => by simp [SV.sub]
theorem SV.subL_rfl : ∀ l : List SV, SV.subL l l
  | [] => trivial
  | s :: l => ⟨SV.sub_rfl s, SV.subL_rfl l⟩
end
attribute [go_sem] SV.sub_rfl SV.subL_rfl
@[go_sem] theorem Reg.sub_rfl (R : Option Reg) : Reg.sub R R := by
  cases R with
  | none => trivial
  | some R =>
    cases R with
    | box l => exact SV.subL_rfl l
    | vec e k n g => exact ⟨rfl, rfl, rfl, fun _ _ _ _ => rfl⟩

theorem RV.sub_rel {Z : Nat → Prop} {w : World} {x x' : RV} {y : Value} (h : x.sub x') (hr : x.rel Z w y) : x'.rel Z w y := by
  unfold RV.sub at h
  split at h
  · obtain ⟨rfl, rfl, hg⟩ := h
    obtain ⟨A, c, h1, h2, h3⟩ := hr
    refine ⟨A, c, h1, h2, fun h0 => ?_⟩
    obtain ⟨b, o, h4, h5, h6⟩ := h3 h0
    refine ⟨b, o, h4, h5, fun i j hi hj => ?_⟩
    obtain ⟨v, e1, e2, e3⟩ := h6 i j hi hj
    exact ⟨v, e1, e2, by rw [← hg i j hi hj]; exact e3⟩
  · subst h
    cases hr
    exact ⟨none, 0, rfl, Nat.le_refl _, fun h => by omega⟩
  · trivial
  · subst h; exact hr
mutual
theorem SV.sub_rel {σ : Sig} {Z : Nat → Prop} {w : World} : ∀ (s s' : SV) (y : Value), s.sub s' → s.rel σ Z w y → s'.rel σ Z w y
  | .r a, s', y, h, hr => by
    cases s' with
    | r b => simp only [SV.sub] at h; exact RV.sub_rel (Z := Z) (w := w) h hr
    | _ => simp [SV.sub] at h
  | .agg l, s', y, h, hr => by
    cases s' with
    | agg l' =>
      simp only [SV.sub] at h
      obtain ⟨vs, e, h1, h2⟩ := hr
      exact ⟨vs, e, h1, SV.subL_rel l l' vs h h2⟩
    | r b => cases b <;> first | trivial | simp [SV.sub] at h
    | _ => simp [SV.sub] at h
  | .tup l, s', y, h, hr => by
    cases s' with
    | tup l' =>
      simp only [SV.sub] at h
      obtain ⟨vs, e, h2⟩ := hr
      exact ⟨vs, e, SV.subL_rel l l' vs h h2⟩
    | r b => cases b <;> first | trivial | simp [SV.sub] at h
    | _ => simp [SV.sub] at h
  | .ptr a b c d, s', y, h, hr => by
    cases s' with
    | ptr => simp only [SV.sub] at h; rw [← h]; exact hr
    | r b => cases b <;> first | trivial | simp [SV.sub] at h
    | _ => simp [SV.sub] at h
  | .sl a b c d e, s', y, h, hr => by
    cases s' with
    | sl => simp only [SV.sub] at h; rw [← h]; exact hr
    | r b => cases b <;> first | trivial | simp [SV.sub] at h
    | _ => simp [SV.sub] at h
  | .fn f a b, s', y, h, hr => by
    cases s' with
    | fn => simp only [SV.sub] at h; rw [← h]; exact hr
    | r b => cases b <;> first | trivial | simp [SV.sub] at h
    | _ => simp [SV.sub] at h
theorem SV.subL_rel {σ : Sig} {Z : Nat → Prop} {w : World} : ∀ (l l' : List SV) (ys : List Value), SV.subL l l' → SV.relL σ Z w l ys → SV.relL σ Z w l' ys
  | [], l', ys, h, hr => by
    cases l' with
    | nil => exact hr
    | cons => simp [SV.subL] at h
  | s :: l, l', ys, h, hr => by
    cases l' with
    | nil => simp [SV.subL] at h
    | cons s' l' =>
      simp only [SV.subL] at h
      obtain ⟨v, vs', e, h1, h2⟩ := hr
      exact ⟨v, vs', e, SV.sub_rel s s' v h.1 h1, SV.subL_rel l l' vs' h.2 h2⟩
end
theorem Reg.sub_ok {σ : Sig} {Z Z' : Nat → Prop} {w : World} {L : Loc} {R R' : Reg} (h : Reg.sub (some R) (some R')) (hz : ∀ b, Z b → Z' b) (hr : RegOK σ Z w L R) : RegOK σ Z' w L R' := by
  have hr' := hr.mono (fun _ _ h => h) (fun b hb => ⟨hz b hb, rfl⟩) (fun _ _ => rfl)
  cases R with
  | box l =>
    cases R' with
    | vec => simp [Reg.sub] at h
    | box l' =>
      obtain ⟨b', cs, ty, h1, h2, h3, h4⟩ := hr'
      exact ⟨b', cs, ty, h1, h2, h3, SV.subL_rel _ _ _ h h4⟩
  | vec e k n g =>
    cases R' with
    | box => simp [Reg.sub] at h
    | vec e' k' n' g' =>
      obtain ⟨rfl, rfl, rfl, hg⟩ := h
      obtain ⟨h0, hm, h⟩ := hr'
      refine ⟨h0, hm, h.imp id fun ⟨b, cs, h1, h2, h3, ho, h5⟩ => ⟨b, cs, h1, h2, h3, ho, fun i j hi hj => ?_⟩⟩
      obtain ⟨v, v1, v0, v2⟩ := h5 i j hi hj
      exact ⟨v, v1, v0, by rw [← hg i j hi hj]; exact v2⟩

theorem MOK.sub {B W F : Nat → Prop} {n0 : Nat} {σ : Sig} {w : World} (hm : MOK B W n0 σ M F w) (hs : ∀ r, Reg.sub (M r) (M' r)) : MOK B W n0 σ M' F w ∧ ∀ b, Zof B σ M w b → Zof B σ M' w b := by
  have hk : ∀ r R', M' r = some R' → ∃ R1, M r = some R1 ∧ Reg.sub (some R1) (some R') := by
    intro r R' h
    have := hs r
    rw [h] at this
    cases hq : M r with
    | none => rw [hq] at this; simp [Reg.sub] at this
    | some R1 => rw [hq] at this; exact ⟨R1, rfl, this⟩
  have hz : ∀ b, Zof B σ M w b → Zof B σ M' w b := fun b hb => ⟨hb.1, fun r R' L' h1 h2 h3 => by
    obtain ⟨R1, e1, _⟩ := hk r R' h1
    exact hb.2 r R1 L' e1 h2 h3⟩
  refine ⟨⟨hm.newB, hm.fresh, fun r R' h => ?_, fun r r' R1 R2 L1 L2 x h1 h2 h3 h4 h5 h6 => ?_, fun r R' L' x h1 h2 h3 => ?_⟩, hz⟩
  · obtain ⟨R1, e1, e2⟩ := hk r R' h
    obtain ⟨L', g1, g2⟩ := hm.reg r R1 e1
    exact ⟨L', g1, Reg.sub_ok e2 hz g2⟩
  · obtain ⟨R3, e1, _⟩ := hk r R1 h1
    obtain ⟨R4, e2, _⟩ := hk r' R2 h2
    exact hm.inj r r' R3 R4 L1 L2 x e1 e2 h3 h4 h5 h6
  · obtain ⟨R3, e1, _⟩ := hk r R' h1
    exact hm.own r R3 L' x e1 h2 h3

/-- The slots and the regions that a loop's head names, and less of them. -/
def slotsS (n : Nat) (E : Env) : List (Nat × SV) → Prop
  | [] => True
  | p :: l => ((E p.1).trim n).sub p.2 ∧ slotsS n E l
def regsS : Nat → Mem → List (Option Reg) → Prop
  | _, _, [] => True
  | i, M, R :: l => Reg.sub (M i) R ∧ regsS (i + 1) M l
theorem slotsS_all {n : Nat} {E : Env} : ∀ {l : List (Nat × SV)}, slotsS n E l → ∀ p ∈ l, (trimE n E p.1).sub p.2
  | [], _, p, hp => by simp at hp
  | q :: l, h, p, hp => by
    simp at hp
    rcases hp with rfl | hp
    · exact h.1
    · exact slotsS_all h.2 p hp
theorem updL_sub {σ : Sig} {Z : Nat → Prop} {w : World} {a : Act} : ∀ (l : List (Nat × SV)) (E : Env), (∀ p ∈ l, (E p.1).sub p.2) → EOK σ Z w E a → EOK σ Z w (updL E l) a
  | [], E, _, h => h
  | p :: l, E, hl, h => by
    intro t
    simp only [updL]
    by_cases ht : t = p.1
    · subst ht
      rw [upd_same]
      exact SV.sub_rel _ _ _ (hl p (by simp)) (h p.1)
    · rw [upd_ne _ _ ht]
      exact updL_sub l E (fun q hq => hl q (by simp [hq])) h t
theorem regsS_get : ∀ (l : List (Option Reg)) (i : Nat) (M : Mem), regsS i M l → ∀ r, r < l.length → Reg.sub (M (i + r)) ((l[r]?).getD none)
  | [], i, M, _, r, hr => by simp at hr
  | R :: l, i, M, h, r, hr => by
    cases r with
    | zero => simpa using h.1
    | succ r => simpa [Nat.add_assoc, Nat.add_comm 1 r] using regsS_get l (i + 1) M h.2 r (by simpa using hr)
theorem regsS_memL {n : Nat} {l : List (Option Reg)} (hl : l.length = n) (h : regsS 0 (trimM n M) l) (r : Nat) : Reg.sub (trimM n M r) (memL l r) := by
  by_cases hr : r < n
  · simpa [memL] using regsS_get l 0 _ h r (by omega)
  · simp [trimM, hr, memL, List.getElem?_eq_none (by omega : l.length ≤ r), Reg.sub]

/-- What a round of a loop must end with. -/
def LS (P : Program) (T : Tab) (N : Nat) {α : Type} (S : α → List (Nat × SV)) (Rs : α → List (Option Reg)) (n : Nat) (I : α → Prop) (μ : α → Nat) (x : α) (k : List It) (Q : GQ) : GQ :=
  gseq (fun E' M' nx' => ∃ x', I x' ∧ μ x' < μ x ∧ slotsS n E' (S x') ∧ regsS 0 (trimM n M') (Rs x')) (GK P T N k Q)
section
variable {α : Type} {S : α → List (Nat × SV)} {Rs : α → List (Option Reg)} {n : Nat} {I : α → Prop} {μ : α → Nat} {x : α}
@[go_sem] theorem LS_normal : LS P T N S Rs n I μ x k Q .normal E M nx = ∃ x', I x' ∧ μ x' < μ x ∧ slotsS n E (S x') ∧ regsS 0 (trimM n M) (Rs x') := (rfl)
@[go_sem] theorem LS_exit (i : Nat) : LS P T N S Rs n I μ x k Q (.exit i) E M nx = GK P T N k Q (.exit i) E M nx := (rfl)
@[go_sem] theorem LS_ret : LS P T N S Rs n I μ x k Q .ret E M nx = GK P T N k Q .ret E M nx := (rfl)
end
theorem GLoop_s (hT : TabOK P T) {α : Type} {c : Code} (S : α → List (Nat × SV)) (Rs : α → List (Option Reg)) (n : Nat) (I : α → Prop) (μ : α → Nat) (x0 : α)
    (hn : ∀ x, (Rs x).length = n) (h0 : I x0) (hE : slotsS n E (S x0)) (hM : regsS 0 (trimM n M) (Rs x0))
    (round : ∀ x J, I x → GC P T N c [] (LS P T N S Rs n I μ x k Q) (updL J (S x)) (memL (Rs x)) n) : GLoop P T N c k Q E M nx := by
  intro B W w0 σ a w hs
  have conv : ∀ {E M nx σ a w} (x : α), slotsS n E (S x) → regsS 0 (trimM n M) (Rs x) → St B W w0 N σ E M nx a w → ∃ σ' J, St B W w0 N σ' (updL J (S x)) (memL (Rs x)) n a w := by
    intro E M nx σ a w x h1 h2 h3
    have h4 := h3.trim n
    obtain ⟨m1, m2⟩ := h4.mem.sub (M' := memL (Rs x)) (regsS_memL (hn x) h2)
    refine ⟨_, trimE n E, updL_sub _ _ (slotsS_all h1) fun t => SV.rel_mono (fun _ _ h => h) (fun b hb => ⟨m2 b hb, rfl⟩) _ _ (h4.env t), m1, h4.fr, h4.defers, h4.size⟩
  refine wp_loop_ghost (fun k a w => ∃ x, μ x = k ∧ I x ∧ ∃ σ' J, St B W w0 N σ' (updL J (S x)) (memL (Rs x)) n a w) (μ x0) ⟨x0, rfl, h0, conv x0 hE hM hs⟩ fun k a w h => ?_
  obtain ⟨x, rfl, hi, σ', J, hst⟩ := h
  refine Code.wp_mono (fun e a' w' h' => ?_) (gexec_sound hT c _ _ _ _ (round x J hi) B W w0 σ' a w hst)
  obtain ⟨E', M', nx', σ'', q, hs'⟩ := h'
  cases e with
  | normal =>
    obtain ⟨x', i1, i2, i3, i4⟩ := q
    exact ⟨μ x', i2, x', rfl, i1, conv x' i3 i4 hs'⟩
  | _ => exact ⟨E', M', nx', σ'', q, hs'⟩
attribute [go_sem] slotsS regsS RV.sub SV.sub SV.subL Reg.sub SV.fz SV.fzL Reg.fz fzM
end

theorem GDraw_all {P : Program} {T : Tab} {N : Nat} {k : List It} {Q : GQ} {E : Env} {M : Mem} {nx : Nat} (hT : TabOK P T) (hm : P.follows .mixedOrders = true) {id : Nat} {ops : List Oper} (hok : drawOK ops.toArray ops.length = true) (h : GPh P T N ops.toArray ops [] k Q E M nx) : GDraw P T N id ops.toArray k Q E M nx :=
  GDraw_of hT hm ops.length hok (List.take_length) (List.drop_length) h
/-- Rows out of a list. -/
def rowsL {α : Type} (f : α → Nat → RV) (l : List α) : Nat → Nat → RV := fun i j => match l[i]? with | some a => f a j | none => .any
theorem rowsL_get {α : Type} {f : α → Nat → RV} {l : List α} {i : Nat} {a : α} (h : l[i]? = some a) (j : Nat) : rowsL f l i j = f a j := by simp [rowsL, h]
theorem joined_rowsL {α : Type} {f : α → Nat → RV} {l : List α} {a : α} {n : Nat} (hn : n = l.length) {h : Nat → Nat → RV} {i j k : Nat} (hj : j < k) (hh : ∀ j, j < k → h 0 j = f a j) (hi : i < n + 1) :
    joined n 1 (rowsL f l) h i j = rowsL f (l ++ [a]) i j := by
  subst hn
  unfold joined rowsL
  by_cases hlt : i < l.length
  · rw [if_pos hlt, List.getElem?_append_left hlt]
  · have : i = l.length := by omega
    subst this
    rw [if_neg hlt, if_pos hi]
    simp [hh j hj]
end Go.Gx
