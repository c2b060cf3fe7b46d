/-
  Each operation does what 'gop' says: slices, fields, indices.
-/
import Derived.Test.YtaggojedpkddjaaGf
set_option linter.unusedVariables false
set_option linter.unusedSimpArgs false
namespace Go.Gx
open Go.RowKit

section
variable {P : Program} {T : Tab} {B W F : Nat → Prop} {n0 : Nat} {σ : Sig} {M : Mem} {nx : Nat} {w : World} {a : Act} {E : Env}

/-- A bound that is left out, or an int. -/
def Bd (o : Option Value) (d r : Nat) : Prop := (o = none ∧ r = d) ∨ ∃ k i, o = some (.int k i) ∧ 0 ≤ i ∧ r = i.toNat

theorem run_bound {k : IntKind} {i : Int} {y : Nat} (code : BoundsCode) (h0 : 0 ≤ i) (h : i.toNat ≤ y) : (Instr.sliceBound (.int k i) y code).run P w = .ok i.toNat w := by
  have h1 : i ≤ (y : Int) := by omega
  simp [Instr.sliceBound, asIntOf, h0, h1]

theorem run_bounds {len cap l h m : Nat} {lo hi mx : Option Value} (hl : Bd lo 0 l) (hh : Bd hi len h) (hm : Bd mx cap m) (h1 : l ≤ h) (h2 : h ≤ m) (h3 : m ≤ cap) (h4 : mx ≠ none → hi ≠ none) :
    (Instr.sliceBounds true len cap lo hi mx).run P w = .ok (l, h, m) w := by
  unfold Instr.sliceBounds
  rcases hm with ⟨rfl, rfl⟩ | ⟨km, im, rfl, hm0, rfl⟩
  · rcases hh with ⟨rfl, rfl⟩ | ⟨kh, ih, rfl, hh0, rfl⟩
    · rcases hl with ⟨rfl, rfl⟩ | ⟨kl, il, rfl, hl0, rfl⟩
      · simp
      · simp [run_bound _ hl0 h1]
    · rcases hl with ⟨rfl, rfl⟩ | ⟨kl, il, rfl, hl0, rfl⟩
      · simp [run_bound _ hh0 h2]
      · simp [run_bound _ hh0 h2, run_bound _ hl0 h1]
  · rcases hh with ⟨rfl, rfl⟩ | ⟨kh, ih, rfl, hh0, rfl⟩
    · exact absurd rfl (h4 (by simp))
    · rcases hl with ⟨rfl, rfl⟩ | ⟨kl, il, rfl, hl0, rfl⟩
      · simp [run_bound _ hm0 h3, run_bound _ hh0 h2]
      · simp [run_bound _ hm0 h3, run_bound _ hh0 h2, run_bound _ hl0 h1]

theorem run_sliceAt {t e : TypeId} {s len cap l h m : Nat} {A : Option Addr} {lo hi mx : Option Value} (hu : P.underlying t = some (.slice e)) (hs : (sizeOf e).run P w = .ok s w)
    (hl : Bd lo 0 l) (hh : Bd hi len h) (hm : Bd mx cap m) (h1 : l ≤ h) (h2 : h ≤ m) (h3 : m ≤ cap) (h4 : mx ≠ none → hi ≠ none) :
    (Instr.sliceAt t (.slice A len cap) lo hi mx).run P w = .ok (.slice (if m = l then A else A.map (·.add (l * s))) (h - l) (m - l)) w := by
  simp [Instr.sliceAt, Instr.slice, run_underlying hu, run_bounds hl hh hm h1 h2 h3 h4, hs]

/-- The value that a bound has. -/
theorem bd_of {lo : Option SV} {vlo : Option Value} {l : Int} {Z : Nat → Prop} (hlo : (lo = none ∧ vlo = none) ∨ ∃ s v, lo = some s ∧ vlo = some v ∧ s.rel σ Z w v)
    (h : loInt lo = some l) (h0 : 0 ≤ l) : Bd vlo 0 l.toNat := by
  rcases hlo with ⟨rfl, rfl⟩ | ⟨s, v, rfl, rfl, hr⟩
  · simp [loInt] at h; subst h; exact .inl ⟨rfl, rfl⟩
  · unfold loInt at h
    split at h
    · rename_i heq; cases heq
    · rename_i k i heq
      cases heq
      cases h
      cases hr
      exact .inr ⟨k, _, rfl, h0, rfl⟩
    · cases h

def ORel (σ : Sig) (Z : Nat → Prop) (w : World) (s : Option SV) (v : Option Value) : Prop := (s = none ∧ v = none) ∨ ∃ s' v', s = some s' ∧ v = some v' ∧ s'.rel σ Z w v'

/-- Rows: where one cell lies. -/
theorem row_inj {i i' j j' k : Nat} (hj : j < k) (hj' : j' < k) (h : i * k + j = i' * k + j') : i = i' ∧ j = j' := by
  have h1 : (i * k + j) / k = i := by rw [Nat.mul_comm, Nat.mul_add_div (by omega), Nat.div_eq_of_lt hj]; omega
  have h2 : (i' * k + j') / k = i' := by rw [Nat.mul_comm, Nat.mul_add_div (by omega), Nat.div_eq_of_lt hj']; omega
  have : i = i' := by rw [← h1, ← h2, h]
  subst this
  exact ⟨rfl, by omega⟩
theorem row_lt {i j k n : Nat} (hi : i < n) (hj : j < k) : i * k + j < n * k := by
  have : (i + 1) * k ≤ n * k := Nat.mul_le_mul_right k hi
  rw [Nat.add_mul] at this; omega

theorem row_div {i j lo cnt k : Nat} (hj : j < k) : (lo * k ≤ i * k + j ∧ i * k + j < lo * k + cnt * k) ↔ (lo ≤ i ∧ i < lo + cnt) := by
  constructor
  · rintro ⟨h1, h2⟩
    refine ⟨?_, ?_⟩
    · rcases Nat.lt_or_ge i lo with h | h
      · have : (i + 1) * k ≤ lo * k := Nat.mul_le_mul_right k h
        rw [Nat.add_mul] at this; omega
      · exact h
    · rcases Nat.lt_or_ge i (lo + cnt) with h | h
      · exact h
      · have : (lo + cnt) * k ≤ i * k := Nat.mul_le_mul_right k h
        rw [Nat.add_mul] at this; omega
  · rintro ⟨h1, h2⟩
    have e1 : lo * k ≤ i * k := Nat.mul_le_mul_right k h1
    have e2 : (i + 1) * k ≤ (lo + cnt) * k := Nat.mul_le_mul_right k h2
    rw [Nat.add_mul, Nat.add_mul] at e2
    omega

theorem set_same (hm : MOK B W n0 σ M F w) {ref : Nat} {R R' : Reg} (hM : M ref = some R) (hR : ∀ L Z w', σ ref = some L → RegOK σ Z w' L R → RegOK σ Z w' L R') :
    MOK B W n0 σ (upd M ref (some R')) F w ∧ Keep (Zof B σ M w) (Zof B σ (upd M ref (some R')) w) w w := by
  have hz : ∀ b, Zof B σ M w b → Zof B σ (upd M ref (some R')) w b := by
    intro b hb
    refine ⟨hb.1, fun r R1 L h1 h2 h3 => ?_⟩
    by_cases hr : r = ref
    · subst hr; exact hb.2 r R L hM h2 h3
    · rw [upd_ne _ _ hr] at h1; exact hb.2 r R1 L h1 h2 h3
  have hk : Keep (Zof B σ M w) (Zof B σ (upd M ref (some R')) w) w w := fun b hb => ⟨hz b hb, rfl⟩
  refine ⟨⟨hm.newB, hm.fresh, fun r R1 h => ?_, fun r r' R1 R2 L1 L2 x h1 h2 h3 h4 h5 h6 => ?_, fun r R1 L x h1 h2 h3 => ?_⟩, hk⟩
  · by_cases hr : r = ref
    · subst hr
      rw [upd_same] at h; cases h
      obtain ⟨L, e1, e2⟩ := hm.reg r R hM
      exact ⟨L, e1, hR _ _ _ e1 (e2.mono (fun _ _ h => h) hk (fun _ _ => rfl))⟩
    · rw [upd_ne _ _ hr] at h
      obtain ⟨L, e1, e2⟩ := hm.reg r R1 h
      exact ⟨L, e1, e2.mono (fun _ _ h => h) hk (fun _ _ => rfl)⟩
  · have ex : ∀ r R1, upd M ref (some R') r = some R1 → ∃ R2, M r = some R2 := by
      intro r R1 h
      by_cases hr : r = ref
      · exact ⟨R, by rw [hr]; exact hM⟩
      · rw [upd_ne _ _ hr] at h; exact ⟨_, h⟩
    obtain ⟨q1, a1⟩ := ex _ _ h1
    obtain ⟨q2, a2⟩ := ex _ _ h2
    exact hm.inj r r' q1 q2 L1 L2 x a1 a2 h3 h4 h5 h6
  · by_cases hr : r = ref
    · subst hr; exact hm.own r R L x hM h2 h3
    · rw [upd_ne _ _ hr] at h1; exact hm.own r R1 L x h1 h2 h3

theorem snd_slice (hT : TabOK P T) (hm : MOK B W n0 σ M F w) (t : TypeId) {s : SV} {x : Value} (hx : s.rel σ (Zof B σ M w) w x) {lo hi mx : Option SV} {vlo vhi vmx : Option Value}
    (hlo : ORel σ (Zof B σ M w) w lo vlo) (hhi : ORel σ (Zof B σ M w) w hi vhi) (hmx : ORel σ (Zof B σ M w) w mx vmx) :
    Snd P B W n0 σ M F nx w (vrun ((Instr.sliceAt t x vlo vhi vmx).run P w)) (gslice T M t s lo hi mx) := by
  unfold gslice
  split
  · rename_i sz by_ ze e hti
    have hc := hT.ti t _ hti
    have hu := und_slice hc rfl
    split
    · trivial
    rename_i ei hei
    have hs := run_size (hT.ti e ei hei) w
    split
    · trivial
    rename_i l hl
    have hi_none : hi = none → vhi = none := by rintro rfl; rcases hhi with ⟨_, h⟩ | ⟨_, _, h, _⟩; exact h; cases h
    have mx_none : mx = none → vmx = none := by rintro rfl; rcases hmx with ⟨_, h⟩ | ⟨_, _, h, _⟩; exact h; cases h
    have hi_int : ∀ {kh h}, hi = some (.r (.v (.int kh h))) → vhi = some (.int kh h) := by
      rintro kh h rfl
      rcases hhi with ⟨h, _⟩ | ⟨s', v', h, h', hr⟩
      · cases h
      · cases h; cases hr; exact h'
    have mx_int : ∀ {kh h}, mx = some (.r (.v (.int kh h))) → vmx = some (.int kh h) := by
      rintro kh h rfl
      rcases hmx with ⟨h, _⟩ | ⟨s', v', h, h', hr⟩
      · cases h
      · cases h; cases hr; exact h'
    split
    · rename_i k n get
      obtain ⟨A, c, rfl, hnc, hA⟩ := hx
      have fin0 : ∀ (h m : Nat), ei.size = k → 0 ≤ l → Bd vhi n h → Bd vmx c m → l.toNat ≤ h → h ≤ n → h ≤ m → m ≤ c → (vmx ≠ none → vhi ≠ none) →
          ∃ A', vrun ((Instr.sliceAt t (.slice A n c) vlo vhi vmx).run P w) = .ok (.value (.slice A' (h - l.toNat) (m - l.toNat))) w ∧ (0 < h - l.toNat → ∃ b o, A' = some ⟨b, o, none⟩ ∧ Zof B σ M w b ∧ ∀ i j, i < h - l.toNat → j < k →
      ∃ v, w.cell? ⟨b, o + (i * k + j), none⟩ = some v ∧ v.oneCell' = true ∧ (get (l.toNat + i) j).rel (Zof B σ M w) w v) := by
        intro h m hk h0 hh hmm h1 h2 h3 h4 h5
        refine ⟨_, by rw [run_sliceAt hu hs (bd_of hlo hl h0) hh hmm h1 h3 h4 h5]; rfl, fun hp => ?_⟩
        obtain ⟨b, o, rfl, hz, hcell⟩ := hA (by omega)
        refine ⟨b, o + l.toNat * k, ?_, hz, fun i j hi hj => ?_⟩
        · rw [if_neg (by omega), hk]; simp [add_none]
        · obtain ⟨v, g1, g2⟩ := hcell (l.toNat + i) j (by omega) hj
          refine ⟨v, ?_, g2⟩
          rw [← g1]; congr 2
          rw [Nat.add_mul]; omega
      have fin : ∀ (h m : Nat), ei.size = k → 0 ≤ l → Bd vhi n h → Bd vmx c m → l.toNat ≤ h → h ≤ n → h ≤ m → m ≤ c → (vmx ≠ none → vhi ≠ none) →
          POut B σ M w (vrun ((Instr.sliceAt t (.slice A n c) vlo vhi vmx).run P w)) (.r (.rs k (h - l.toNat) fun i j => get (l.toNat + i) j)) := by
        intro h m hk h0 hh hmm h1 h2 h3 h4 h5
        obtain ⟨A', e1, e2⟩ := fin0 h m hk h0 hh hmm h1 h2 h3 h4 h5
        exact ⟨_, .inl e1, A', _, rfl, by omega, e2⟩
      split
      · rintro ⟨hk, h0, h1⟩
        have e1 := hi_none rfl
        have e2 := mx_none rfl
        exact fin n c hk h0 (.inl ⟨e1, rfl⟩) (.inl ⟨e2, rfl⟩) (by omega) (Nat.le_refl _) hnc (Nat.le_refl _) (by simp [e2])
      · rename_i kh h
        rintro ⟨hk, h0, h1, h2⟩
        have e2 := mx_none rfl
        have e1 := hi_int rfl
        exact fin h.toNat c hk h0 (.inr ⟨kh, h, e1, by omega, rfl⟩) (.inl ⟨e2, rfl⟩) (by omega) (by omega) (by omega) (Nat.le_refl _) (by simp [e2])
      · rename_i kh h km m
        rintro ⟨hk, h0, h1, rfl, h2⟩
        have e2 := mx_int rfl
        have e1 := hi_int rfl
        obtain ⟨A', e1, e2⟩ := fin0 h.toNat h.toNat hk h0 (.inr ⟨kh, h, e1, by omega, rfl⟩) (.inr ⟨km, h, e2, by omega, rfl⟩) (by omega) (by omega) (by omega) (by omega) (by simp [e1])
        exact ⟨_, .inl e1, A', rfl, e2⟩
      · trivial
    · rename_i ref k l0 n
      obtain ⟨L, A, g1, rfl, g2, g3, g4, g5⟩ := hx
      have hN : rowsN M ref ≤ L.cap := by
        unfold rowsN
        split
        · rename_i hM
          obtain ⟨L', e1, e2⟩ := hm.reg ref _ hM
          rw [g1] at e1; cases e1
          exact e2.1
        · exact Nat.zero_le _
      simp only [Option.getD_none] at g2 g3 g4
      have fin : ∀ (h m : Nat) (c' : Option Nat), ei.size = k → 0 ≤ l → Bd vhi n h → Bd vmx (L.cap - l0) m → l.toNat ≤ h → h ≤ m → m ≤ L.cap - l0 → (vmx ≠ none → vhi ≠ none) →
          c'.getD (L.cap - (l0 + l.toNat)) = m - l.toNat →
          POut B σ M w (vrun ((Instr.sliceAt t (.slice A n ((none : Option Nat).getD (L.cap - l0))) vlo vhi vmx).run P w)) (.sl ref k (l0 + l.toNat) (h - l.toNat) c') := by
        intro h m c' hk h0 hh hmm h1 h3 h4 h5 h6
        refine POut.of (run_sliceAt hu hs (bd_of hlo hl h0) hh hmm h1 h3 h4 h5) ?_
        refine ⟨L, _, g1, by rw [h6], by omega, by omega, fun hp => ?_, fun hz => ?_⟩
        · obtain ⟨b, f1, rfl⟩ := g4 (by omega)
          refine ⟨b, f1, ?_⟩
          rw [if_neg (by omega), hk]; simp [add_none, Nat.add_mul]
        · have hl0 : l0 = 0 := by omega
          have hl1 : l.toNat = 0 := by omega
          refine (g5 hl0).imp id fun hA => ?_
          rw [← hA, hl1]
          cases A <;> simp [Addr.add]
      split
      · rintro ⟨hk, h0, h1⟩
        have e1 := hi_none rfl
        have e2 := mx_none rfl
        exact fin n _ none hk h0 (.inl ⟨e1, rfl⟩) (.inl ⟨e2, rfl⟩) (by omega) g2 (Nat.le_refl _) (by simp [e2]) (by simp; omega)
      · rename_i kh h
        rintro ⟨hk, h0, h1, h2⟩
        have e2 := mx_none rfl
        have e1 := hi_int rfl
        exact fin h.toNat _ none hk h0 (.inr ⟨kh, h, e1, by omega, rfl⟩) (.inl ⟨e2, rfl⟩) (by omega) (by omega) (Nat.le_refl _) (by simp [e2]) (by simp; omega)
      · rename_i kh h km m
        rintro ⟨hk, h0, h1, h2, h3⟩
        have e2 := mx_int rfl
        have e1 := hi_int rfl
        exact fin h.toNat m.toNat _ hk h0 (.inr ⟨kh, h, e1, by omega, rfl⟩) (.inr ⟨km, m, e2, by omega, rfl⟩) (by omega) (by omega) (by omega) (by simp [e1]) (by simp)
      · trivial
    · rename_i ref k l0 n c
      obtain ⟨L, A, g1, rfl, g2, g3, g4, g5⟩ := hx
      simp only [Option.getD_some] at g2 g3 g4
      have fin0 : ∀ (h m : Nat), ei.size = k → 0 ≤ l → Bd vhi n h → Bd vmx c m → l.toNat ≤ h → h ≤ m → m ≤ c → (vmx ≠ none → vhi ≠ none) →
          ∃ y, vrun ((Instr.sliceAt t (.slice A n ((some c).getD (L.cap - l0))) vlo vhi vmx).run P w) = .ok (.value y) w ∧ ∀ Z', (SV.sl ref k (l0 + l.toNat) (h - l.toNat) (some (m - l.toNat))).rel σ Z' w y := by
        intro h m hk h0 hh hmm h1 h3 h4 h5
        refine ⟨_, by rw [Option.getD_some, run_sliceAt hu hs (bd_of hlo hl h0) hh hmm h1 h3 h4 h5]; rfl, fun Z' => ?_⟩
        refine ⟨L, _, g1, by rfl, by simp; omega, by simp; omega, fun hp => ?_, fun hz => ?_⟩
        · simp at hp
          obtain ⟨b, f1, rfl⟩ := g4 (by omega)
          refine ⟨b, f1, ?_⟩
          rw [if_neg (by omega), hk]; simp [add_none, Nat.add_mul]
        · have hl0 : l0 = 0 := by omega
          have hl1 : l.toNat = 0 := by omega
          refine (g5 hl0).imp id fun hA => ?_
          rw [← hA, hl1]
          cases A <;> simp [Addr.add]
      split
      · rintro ⟨hk, h0, h1⟩
        have e1 := hi_none rfl
        have e2 := mx_none rfl
        obtain ⟨y, q1, q2⟩ := fin0 n c hk h0 (.inl ⟨e1, rfl⟩) (.inl ⟨e2, rfl⟩) (by omega) g2 (Nat.le_refl _) (by simp [e2])
        exact ⟨y, .inl q1, q2 _⟩
      · rename_i kh h
        have e2 := mx_none rfl
        have e1 := hi_int rfl
        split
        · rintro ⟨hk, h0, h1, h2⟩
          obtain ⟨y, q1, q2⟩ := fin0 h.toNat c hk h0 (.inr ⟨kh, h, e1, by omega, rfl⟩) (.inl ⟨e2, rfl⟩) (by omega) (by omega) (Nat.le_refl _) (by simp [e2])
          exact ⟨y, .inl q1, q2 _⟩
        · split
          · rename_i e' k' N g hM
            rintro ⟨hk, rfl, h0, h1, h2, h3⟩
            obtain ⟨y, q1, q2⟩ := fin0 h.toNat c hk h0 (.inr ⟨kh, h, e1, by omega, rfl⟩) (.inl ⟨e2, rfl⟩) (by omega) (by omega) (Nat.le_refl _) (by simp [e2])
            obtain ⟨m1, m2⟩ := set_same (R' := .vec e' k' (l0 + h.toNat) fun i j => if i < N then g i j else .any) hm hM (fun L' Z w' hL hr => by
              rw [g1] at hL; cases hL
              obtain ⟨q0, qm, q⟩ := hr
              refine ⟨by omega, qm, ?_⟩
              rcases q with ⟨q, qc⟩ | ⟨b, cs, q1, q2, q3, qo, q4⟩
              · exact .inl ⟨q, qc⟩
              · refine .inr ⟨b, cs, q1, q2, q3, qo, fun i j hi hj => ?_⟩
                dsimp only
                by_cases hiN : i < N
                · rw [if_pos hiN]; exact q4 i j hiN hj
                · rw [if_neg hiN]
                  have hlt : i * k' + j < cs.length := by rw [q3]; exact row_lt (by omega) hj
                  exact ⟨cs[i * k' + j], List.getElem?_eq_getElem hlt, qo _ (List.getElem_mem hlt), trivial⟩)
            exact ⟨y, w, .inl q1, m1, m2, q2 _, FrS.refl ..⟩
          · trivial
      · trivial
    · cases hx
      split
      · rintro h0
        have e1 := hi_none rfl
        have e2 := mx_none rfl
        refine POut.of (run_sliceAt hu hs (bd_of hlo hl (by omega)) (.inl ⟨e1, rfl⟩) (.inl ⟨e2, rfl⟩) (by omega) (Nat.le_refl _) (Nat.le_refl _) (by simp [e2])) ?_
        subst h0; rfl
      · rename_i kh h
        rintro ⟨h0, h1⟩
        have e2 := mx_none rfl
        have e1 := hi_int rfl
        subst h0; subst h1
        exact POut.of (run_sliceAt hu hs (bd_of hlo hl (by omega)) (.inr ⟨kh, 0, e1, by omega, rfl⟩) (.inl ⟨e2, rfl⟩) (by omega) (by simp) (Nat.le_refl _) (by simp [e2])) rfl
      · rename_i kh h km m
        rintro ⟨h0, h1, h2⟩
        have e2 := mx_int rfl
        have e1 := hi_int rfl
        subst h0; subst h1; subst h2
        exact POut.of (run_sliceAt hu hs (bd_of hlo hl (by omega)) (.inr ⟨kh, 0, e1, by omega, rfl⟩) (.inr ⟨km, 0, e2, by omega, rfl⟩) (by omega) (by simp) (by simp) (by simp [e1])) rfl
      · trivial
    · trivial
  · trivial

theorem snd_field (hT : TabOK P T) (t : TypeId) (f : Nat) {s : SV} {x : Value} (hx : s.rel σ (Zof B σ M w) w x) :
    Snd P B W n0 σ M F nx w (vrun ((Instr.fieldAt t x f).run P w)) (gfield T t s f) := by
  unfold gfield
  split
  · rename_i sz by_ ze fs hti
    obtain ⟨fa, hu, _, hg⟩ := und_struct (hT.ti t _ hti) rfl
    split
    · rename_i o sf g hf
      obtain ⟨fd, h1, h2, h3, _⟩ := hg f o sf g hf
      have hrun : sf ≠ 0 → ∀ ad, (Instr.fieldAt t (.pointer (some ad)) f).run P w = .ok (.pointer (some (ad.add o))) w := by
        intro hz ad
        simp [Instr.fieldAt, run_underlying hu, h1, Instr.sureAddr, fieldPlace, run_sizeIs h3, hz, h2]
      split
      · rename_i ref row k fld
        obtain ⟨L, b, g1, g2, rfl⟩ := hx
        intro hz
        refine POut.of (hrun hz _) ⟨L, b, g1, g2, ?_⟩
        rw [add_none]; congr 3; omega
      · rename_i k n get row fld
        obtain ⟨b, o', rfl, hz', hc⟩ := hx
        intro hz
        refine POut.of (hrun hz _) ⟨b, o', ?_, hz', hc⟩
        rw [add_none]; congr 3; omega
      · trivial
    · trivial
  · trivial

theorem snd_index (hT : TabOK P T) (t : TypeId) {s s' : SV} {x i : Value} (hx : s.rel σ (Zof B σ M w) w x) (hi : s'.rel σ (Zof B σ M w) w i) :
    Snd P B W n0 σ M F nx w (vrun ((Instr.indexAt t x i).run P w)) (gindex T t s s') := by
  unfold gindex
  split
  · rename_i ki ix
    cases hi
    split
    · rename_i sz by_ ze e hti
      have hu := und_slice (hT.ti t _ hti) rfl
      split
      · trivial
      rename_i ei hei
      have hs := run_size (hT.ti e ei hei) w
      split
      · rename_i k n get
        obtain ⟨A, c, rfl, hnc, hA⟩ := hx
        rintro ⟨hk, h0, h1⟩
        obtain ⟨b, o, rfl, hz, hc⟩ := hA (by omega)
        refine POut.of (y := .pointer (some ((⟨b, o, none⟩ : Addr).add (ix.toNat * ei.size)))) (by simp [Instr.indexAt, asIntOf, run_underlying hu, h0, h1, hs]) ⟨b, o, ?_, hz, hc⟩
        rw [add_none, hk]; simp
      · rename_i ref k lo n c
        obtain ⟨L, A, g1, rfl, g2, g3, g4, g5⟩ := hx
        rintro ⟨hk, h0, h1⟩
        obtain ⟨b, f1, rfl⟩ := g4 (by omega)
        refine POut.of (y := .pointer (some ((⟨b, lo * k, none⟩ : Addr).add (ix.toNat * ei.size)))) (by simp [Instr.indexAt, asIntOf, run_underlying hu, h0, h1, hs]) ⟨L, b, g1, f1, ?_⟩
        rw [add_none, hk]; simp [Nat.add_mul]
      · trivial
    · rename_i sz by_ ze n es g hti
      obtain ⟨e, hu, hes, _⟩ := und_array (hT.ti t _ hti) rfl
      have hs := run_sizeIs hes w
      have hrun : ∀ ad, 0 ≤ ix → ix < n → (Instr.indexAt t (.pointer (some ad)) (.int ki ix)).run P w = .ok (.pointer (some (ad.add (ix.toNat * es)))) w := by
        intro ad h0 h1
        simp [Instr.indexAt, asIntOf, run_underlying hu, Instr.sureAddr, h0, h1, hs]
      split
      · rename_i ref row k fld
        obtain ⟨L, b, g1, g2, rfl⟩ := hx
        rintro ⟨_, h0, h1⟩
        refine POut.of (hrun _ h0 h1) ⟨L, b, g1, g2, ?_⟩
        rw [add_none]; congr 3; omega
      · rename_i k m get row fld
        obtain ⟨b, o', rfl, hz', hc⟩ := hx
        rintro ⟨_, h0, h1⟩
        refine POut.of (hrun _ h0 h1) ⟨b, o', ?_, hz', hc⟩
        rw [add_none]; congr 3; omega
      · trivial
    · trivial
  · trivial
end
end Go.Gx
