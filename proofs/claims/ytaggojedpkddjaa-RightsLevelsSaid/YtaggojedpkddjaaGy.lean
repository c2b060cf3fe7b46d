/-
  Contracts whose result is said with less.
-/
import Derived.Test.YtaggojedpkddjaaGw
set_option linter.unusedVariables false
set_option linter.unusedSimpArgs false
namespace Go.Gx
open Go.RowKit

theorem Pure.ofSub {P : Program} {f : FuncId} {args : List SV} {v : SV} (h : Pure P f args fun s => s.sub v) : Pure P f args (· = v) := by
  intro Z w vs hz ha
  obtain ⟨h1, h2⟩ := h Z w vs hz ha
  refine ⟨h1, h2.mono fun e w' h => ?_⟩
  obtain ⟨y, s, a, b, c, d⟩ := h
  exact ⟨y, v, a, rfl, SV.sub_rel _ _ _ b c, d⟩
section
variable {P : Program} {T : Tab} {N : Nat} {k : List It} {Q : GQ} {E : Env} {M : Mem} {nx : Nat}
@[go_sem] theorem KC_up (all : Array Oper) (rest : List Oper) (d : Option Tmp) (s : SV) (M' : Mem) (nx' : Nat) (up : SV → SV) : KC P T N all rest k Q d E s M' nx' up = GO P T N all rest k Q (envPut (fun t => up (E t)) d s) M' nx' := (rfl)
theorem fzL_map (ref : Nat) (R : Reg) : ∀ l : List SV, SV.fzL ref R l = l.map (SV.fz ref R)
  | [] => rfl
  | s :: l => by simp [SV.fzL, fzL_map ref R l]
/-- A region that is made read-only ahead of a call. -/
theorem callK_freeze (ref : Nat) {R : Reg} {f : FuncId} {args : List SV} {K : SV → Mem → Nat → (SV → SV) → Prop} (hM : M ref = some R)
    (h : CallK P f (SV.fzL ref R args) (fzM ref R M) nx fun s M' nx' up => K s M' nx' fun t => up (t.fz ref R)) : CallK P f args M nx K := by
  intro B W n0 σ w vs hm hn ha
  obtain ⟨m1, m2⟩ := hm.freeze hM
  have hz : Keep (Zof B σ M w) (Zof B σ (fzM ref R M) w) w w := fun b hb => by
    refine ⟨⟨hb.1, fun r R' L' h1 h2 h3 => ?_⟩, rfl⟩
    unfold fzM at h1
    split at h1
    · cases h1
    · cases hq : M r with
      | none => rw [hq] at h1; cases h1
      | some R1 => exact hb.2 r R1 L' hq h2 h3
  have ha' : SV.relL σ (Zof B σ (fzM ref R M) w) w (SV.fzL ref R args) vs := by
    have : ∀ (l : List SV) (ys : List Value), SV.relL σ (Zof B σ M w) w l ys → SV.relL σ (Zof B σ (fzM ref R M) w) w (SV.fzL ref R l) ys := by
      intro l
      induction l with
      | nil => exact fun ys h => h
      | cons s l ih =>
        rintro ys ⟨v, vs', e, h1, h2⟩
        exact ⟨v, vs', e, m2 s v h1, ih vs' h2⟩
    exact this _ _ ha
  have conv : ∀ e w', CallPost B W n0 σ (fzM ref R M) w (fun s M' nx' up => K s M' nx' fun t => up (t.fz ref R)) e w' → CallPost B W n0 σ M w K e w' := by
    rintro e w' ⟨y, s, M', nx', σ', up, rfl, p1, p2, p3, p4, p5, p6⟩
    exact ⟨y, s, M', nx', σ', _, rfl, p1, p2, fun b hb => ⟨(p3 b (hz b hb).1).1, (p3 b (hz b hb).1).2⟩, p4, fun t z hz' => p5 _ _ (m2 t z hz'), p6⟩
  rcases h B W n0 σ w vs m1 hn ha' with ⟨c1, c2⟩ | ⟨y, w', c1, c2⟩
  · exact .inl ⟨c1, c2.mono fun e w' hp => conv e w' hp⟩
  · exact .inr ⟨y, w', c1, conv _ _ c2⟩
end

/-- A list of naturals as rows. -/
abbrev natRow : Nat → Nat → RV := fun n _ => .i (n : Int)
abbrev natS (l : List Nat) : SV := .r (.rs 1 l.length (rowsL natRow l))
end Go.Gx
