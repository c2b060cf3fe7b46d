/-
  Each operation does what 'gop' says: slices, fields, indices.
-/
import Derived.Test.YtnajladibkpeaaaGreatK1
set_option linter.unusedVariables false
set_option linter.unusedSimpArgs false
namespace Go.Gx
open Go.RowKit

section
variable {P : Program} {T : Tab} {B W F : Nat → Prop} {n0 : Nat} {σ : Sig} {M : Mem} {nx : Nat} {w : World} {a : Act} {E : Env}

/-- A bound that is left out, or an int. -/
def Bd (o : Option Value) (d r : Nat) : Prop := (o = none ∧ r = d) ∨ ∃ k i, o = some (.int k i) ∧ 0 ≤ i ∧ r = i.toNat

theorem run_bound {k : IntKind} {i : Int} {y : Nat} (code : BoundsCode) (h0 : 0 ≤ i) (h : i.toNat ≤ y) : (Instr.sliceBound (.int k i) y code).run P w = .ok i.toNat w := by
  have h1 : i ≤ (y : Int) := by omega
  simp [Instr.sliceBound, asIntOf, h0, h1]

theorem run_bounds {len cap l h m : Nat} {lo hi mx : Option Value} (hl : Bd lo 0 l) (hh : Bd hi len h) (hm : Bd mx cap m) (h1 : l ≤ h) (h2 : h ≤ m) (h3 : m ≤ cap) (h4 : mx ≠ none → hi ≠ none) :
    (Instr.sliceBounds true len cap lo hi mx).run P w = .ok (l, h, m) w := by
  unfold Instr.sliceBounds
  rcases hm with ⟨rfl, rfl⟩ | ⟨km, im, rfl, hm0, rfl⟩
  · rcases hh with ⟨rfl, rfl⟩ | ⟨kh, ih, rfl, hh0, rfl⟩
    · rcases hl with ⟨rfl, rfl⟩ | ⟨kl, il, rfl, hl0, rfl⟩
      · simp
      · simp [run_bound _ hl0 h1]
    · rcases hl with ⟨rfl, rfl⟩ | ⟨kl, il, rfl, hl0, rfl⟩
      · simp [run_bound _ hh0 h2]
      · simp [run_bound _ hh0 h2, run_bound _ hl0 h1]
  · rcases hh with ⟨rfl, rfl⟩ | ⟨kh, ih, rfl, hh0, rfl⟩
    · exact absurd rfl (h4 (by simp))
    · rcases hl with ⟨rfl, rfl⟩ | ⟨kl, il, rfl, hl0, rfl⟩
      · simp [run_bound _ hm0 h3, run_bound _ hh0 h2]
      · simp [run_bound _ hm0 h3, run_bound _ hh0 h2, run_bound _ hl0 h1]

theorem run_sliceAt {t e : TypeId} {s len cap l h m : Nat} {A : Option Addr} {lo hi mx : Option Value} (hu : P.underlying t = some (.slice e)) (hs : (sizeOf e).run P w = .ok s w)
    (hl : Bd lo 0 l) (hh : Bd hi len h) (hm : Bd mx cap m) (h1 : l ≤ h) (h2 : h ≤ m) (h3 : m ≤ cap) (h4 : mx ≠ none → hi ≠ none) :
    (Instr.sliceAt t (.slice A len cap) lo hi mx).run P w = .ok (.slice (if m = l then A else A.map (·.add (l * s))) (h - l) (m - l)) w := by
  simp [Instr.sliceAt, Instr.slice, run_underlying hu, run_bounds hl hh hm h1 h2 h3 h4, hs]

/-- The value that a bound has. -/
theorem bd_of {lo : Option SV} {vlo : Option Value} {l : Int} {Z : Nat → Prop} (hlo : (lo = none ∧ vlo = none) ∨ ∃ s v, lo = some s ∧ vlo = some v ∧ s.rel σ Z w v)
    (h : loInt lo = some l) (h0 : 0 ≤ l) : Bd vlo 0 l.toNat := by
  rcases hlo with ⟨rfl, rfl⟩ | ⟨s, v, rfl, rfl, hr⟩
  · simp [loInt] at h; subst h; exact .inl ⟨rfl, rfl⟩
  · unfold loInt at h
    split at h
    · rename_i heq; cases heq
    · rename_i k i heq
      cases heq
      cases h
      cases hr
      exact .inr ⟨k, _, rfl, h0, rfl⟩
    · cases h

def ORel (σ : Sig) (Z : Nat → Prop) (w : World) (s : Option SV) (v : Option Value) : Prop := (s = none ∧ v = none) ∨ ∃ s' v', s = some s' ∧ v = some v' ∧ s'.rel σ Z w v'

/-- Rows: where one cell lies. -/
theorem row_inj {i i' j j' k : Nat} (hj : j < k) (hj' : j' < k) (h : i * k + j = i' * k + j') : i = i' ∧ j = j' := by
  have h1 : (i * k + j) / k = i := by rw [Nat.mul_comm, Nat.mul_add_div (by omega), Nat.div_eq_of_lt hj]; omega
  have h2 : (i' * k + j') / k = i' := by rw [Nat.mul_comm, Nat.mul_add_div (by omega), Nat.div_eq_of_lt hj']; omega
  have : i = i' := by rw [← h1, ← h2, h]
  subst this
  exact ⟨rfl, by omega⟩
theorem row_lt {i j k n : Nat} (hi : i < n) (hj : j < k) : i * k + j < n * k := by
  have : (i + 1) * k ≤ n * k := Nat.mul_le_mul_right k hi
  rw [Nat.add_mul] at this; omega

theorem row_div {i j lo cnt k : Nat} (hj : j < k) : (lo * k ≤ i * k + j ∧ i * k + j < lo * k + cnt * k) ↔ (lo ≤ i ∧ i < lo + cnt) := by
  constructor
  · rintro ⟨h1, h2⟩
    refine ⟨?_, ?_⟩
    · rcases Nat.lt_or_ge i lo with h | h
      · have : (i + 1) * k ≤ lo * k := Nat.mul_le_mul_right k h
        rw [Nat.add_mul] at this; omega
      · exact h
    · rcases Nat.lt_or_ge i (lo + cnt) with h | h
      · exact h
      · have : (lo + cnt) * k ≤ i * k := Nat.mul_le_mul_right k h
        rw [Nat.add_mul] at this; omega
  · rintro ⟨h1, h2⟩
    have e1 : lo * k ≤ i * k := Nat.mul_le_mul_right k h1
    have e2 : (i + 1) * k ≤ (lo + cnt) * k := Nat.mul_le_mul_right k h2
    rw [Nat.add_mul, Nat.add_mul] at e2
    omega

theorem set_same (hm : MOK B W n0 σ M F w) {ref : Nat} {R R' : Reg} (hM : M ref = some R) (hR : ∀ L Z w', σ ref = some L → RegOK σ Z w' L R → RegOK σ Z w' L R') :
    MOK B W n0 σ (upd M ref (some R')) F w ∧ Keep (Zof B σ M w) (Zof B σ (upd M ref (some R')) w) w w := by
  have hz : ∀ b, Zof B σ M w b → Zof B σ (upd M ref (some R')) w b := by
    intro b hb
    refine ⟨hb.1, fun r R1 L h1 h2 h3 => ?_⟩
    by_cases hr : r = ref
    · subst hr; exact hb.2 r R L hM h2 h3
    · rw [upd_ne _ _ hr] at h1; exact hb.2 r R1 L h1 h2 h3
  have hk : Keep (Zof B σ M w) (Zof B σ (upd M ref (some R')) w) w w := fun b hb => ⟨hz b hb, rfl⟩
  refine ⟨⟨hm.newB, hm.fresh, fun r R1 h => ?_, fun r r' R1 R2 L1 L2 x h1 h2 h3 h4 h5 h6 => ?_, fun r R1 L x h1 h2 h3 => ?_⟩, hk⟩
  · by_cases hr : r = ref
    · subst hr
      rw [upd_same] at h; cases h
      obtain ⟨L, e1, e2⟩ := hm.reg r R hM
      exact ⟨L, e1, hR _ _ _ e1 (e2.mono (fun _ _ h => h) hk (fun _ _ => rfl))⟩
    · rw [upd_ne _ _ hr] at h
      obtain ⟨L, e1, e2⟩ := hm.reg r R1 h
      exact ⟨L, e1, e2.mono (fun _ _ h => h) hk (fun _ _ => rfl)⟩
  · have ex : ∀ r R1, upd M ref (some R') r = some R1 → ∃ R2, M r = some R2 := by
      intro r R1 h
      by_cases hr : r = ref
      · exact ⟨R, by rw [hr]; exact hM⟩
      · rw [upd_ne _ _ hr] at h; exact ⟨_, h⟩
    obtain ⟨q1, a1⟩ := ex _ _ h1
    obtain ⟨q2, a2⟩ := ex _ _ h2
    exact hm.inj r r' q1 q2 L1 L2 x a1 a2 h3 h4 h5 h6
  · by_cases hr : r = ref
    · subst hr; exact hm.own r R L x hM h2 h3
    · rw [upd_ne _ _ hr] at h1; exact hm.own r R1 L x h1 h2 h3

theorem snd_slice (hT : TabOK P T) (hm : MOK B W n0 σ M F w) (t : TypeId) {s : SV} {x : Value} (hx : s.rel σ (Zof B σ M w) w x) {lo hi mx : Option SV} {vlo vhi vmx : Option Value}
    (hlo : ORel σ (Zof B σ M w) w lo vlo) (hhi : ORel σ (Zof B σ M w) w hi vhi) (hmx : ORel σ (Zof B σ M w) w mx vmx) :
    Snd P B W n0 σ M F nx w (vrun ((Instr.sliceAt t x vlo vhi vmx).run P w)) (gslice T M t s lo hi mx) := by
  unfold gslice
  split
  · rename_i sz by_ ze e hti
    have hc := hT.ti t _ hti
    have hu := und_slice hc rfl
    split
    · trivial
    rename_i ei hei
    have hs := run_size (hT.ti e ei hei) w
    split
    · trivial
    rename_i l hl
    have hi_none : hi = none → vhi = none := by rintro rfl; rcases hhi with ⟨_, h⟩ | ⟨_, _, h, _⟩; exact h; cases h
    have mx_none : mx = none → vmx = none := by rintro rfl; rcases hmx with ⟨_, h⟩ | ⟨_, _, h, _⟩; exact h; cases h
    have hi_int : ∀ {kh h}, hi = some (.r (.v (.int kh h))) → vhi = some (.int kh h) := by
      rintro kh h rfl
      rcases hhi with ⟨h, _⟩ | ⟨s', v', h, h', hr⟩
      · cases h
      · cases h; cases hr; exact h'
    have mx_int : ∀ {kh h}, mx = some (.r (.v (.int kh h))) → vmx = some (.int kh h) := by
      rintro kh h rfl
      rcases hmx with ⟨h, _⟩ | ⟨s', v', h, h', hr⟩
      · cases h
      · cases h; cases hr; exact h'
    split
    · rename_i k n get
      obtain ⟨A, c, rfl, hnc, hA⟩ := hx
      have fin0 : ∀ (h m : Nat), ei.size = k → 0 ≤ l → Bd vhi n h → Bd vmx c m → l.toNat ≤ h → h ≤ n → h ≤ m → m ≤ c → (vmx ≠ none → vhi ≠ none) →
          ∃ A', vrun ((Instr.sliceAt t (.slice A n c) vlo vhi vmx).run P w) = .ok (.value (.slice A' (h - l.toNat) (m - l.toNat))) w ∧ (0 < h - l.toNat → ∃ b o, A' = some ⟨b, o, none⟩ ∧ Zof B σ M w b ∧ ∀ i j, i < h - l.toNat → j < k →
      ∃ v, w.cell? ⟨b, o + (i * k + j), none⟩ = some v ∧ v.oneCell' = true ∧ (get (l.toNat + i) j).rel (Zof B σ M w) w v) := by
        intro h m hk h0 hh hmm h1 h2 h3 h4 h5
        refine ⟨_, by rw [run_sliceAt hu hs (bd_of hlo hl h0) hh hmm h1 h3 h4 h5]; rfl, fun hp => ?_⟩
        obtain ⟨b, o, rfl, hz, hcell⟩ := hA (by omega)
        refine ⟨b, o + l.toNat * k, ?_, hz, fun i j hi hj => ?_⟩
        · rw [if_neg (by omega), hk]; simp [add_none]
        · obtain ⟨v, g1, g2⟩ := hcell (l.toNat + i) j (by omega) hj
          refine ⟨v, ?_, g2⟩
          rw [← g1]; congr 2
          rw [Nat.add_mul]; omega
      have fin : ∀ (h m : Nat), ei.size = k → 0 ≤ l → Bd vhi n h → Bd vmx c m → l.toNat ≤ h → h ≤ n → h ≤ m → m ≤ c → (vmx ≠ none → vhi ≠ none) →
          POut B σ M w (vrun ((Instr.sliceAt t (.slice A n c) vlo vhi vmx).run P w)) (.r (.rs k (h - l.toNat) fun i j => get (l.toNat + i) j)) := by
        intro h m hk h0 hh hmm h1 h2 h3 h4 h5
        obtain ⟨A', e1, e2⟩ := fin0 h m hk h0 hh hmm h1 h2 h3 h4 h5
        exact ⟨_, .inl e1, A', _, rfl, by omega, e2⟩
      split
      · rintro ⟨hk, h0, h1⟩
        have e1 := hi_none rfl
        have e2 := mx_none rfl
        exact fin n c hk h0 (.inl ⟨e1, rfl⟩) (.inl ⟨e2, rfl⟩) (by omega) (Nat.le_refl _) hnc (Nat.le_refl _) (by simp [e2])
      · rename_i kh h
        rintro ⟨hk, h0, h1, h2⟩
        have e2 := mx_none rfl
        have e1 := hi_int rfl
        exact fin h.toNat c hk h0 (.inr ⟨kh, h, e1, by omega, rfl⟩) (.inl ⟨e2, rfl⟩) (by omega) (by omega) (by omega) (Nat.le_refl _) (by simp [e2])
      · rename_i kh h km m
        rintro ⟨hk, h0, h1, rfl, h2⟩
        have e2 := mx_int rfl
        have e1 := hi_int rfl
        obtain ⟨A', e1, e2⟩ := fin0 h.toNat h.toNat hk h0 (.inr ⟨kh, h, e1, by omega, rfl⟩) (.inr ⟨km, h, e2, by omega, rfl⟩) (by omega) (by omega) (by omega) (by omega) (by simp [e1])
        exact ⟨_, .inl e1, A', rfl, e2⟩
      · trivial
    · rename_i ref k l0 n
      obtain ⟨L, A, g1, rfl, g2, g3, g4, g5⟩ := hx
      have hN : rowsN M ref ≤ L.cap := by
        unfold rowsN
        split
        · rename_i hM
          obtain ⟨L', e1, e2⟩ := hm.reg ref _ hM
          rw [g1] at e1; cases e1
          exact e2.1
        · exact Nat.zero_le _
      simp only [Option.getD_none] at g2 g3 g4
      have fin : ∀ (h m : Nat) (c' : Option Nat), ei.size = k → 0 ≤ l → Bd vhi n h → Bd vmx (L.cap - l0) m → l.toNat ≤ h → h ≤ m → m ≤ L.cap - l0 → (vmx ≠ none → vhi ≠ none) →
          c'.getD (L.cap - (l0 + l.toNat)) = m - l.toNat →
          POut B σ M w (vrun ((Instr.sliceAt t (.slice A n ((none : Option Nat).getD (L.cap - l0))) vlo vhi vmx).run P w)) (.sl ref k (l0 + l.toNat) (h - l.toNat) c') := by
        intro h m c' hk h0 hh hmm h1 h3 h4 h5 h6
        refine POut.of (run_sliceAt hu hs (bd_of hlo hl h0) hh hmm h1 h3 h4 h5) ?_
        refine ⟨L, _, g1, by rw [h6], by omega, by omega, fun hp => ?_, fun hz => ?_⟩
        · obtain ⟨b, f1, rfl⟩ := g4 (by omega)
          refine ⟨b, f1, ?_⟩
          rw [if_neg (by omega), hk]; simp [add_none, Nat.add_mul]
        · have hl0 : l0 = 0 := by omega
          have hl1 : l.toNat = 0 := by omega
          refine (g5 hl0).imp id fun hA => ?_
          rw [← hA, hl1]
          cases A <;> simp [Addr.add]
      split
      · rintro ⟨hk, h0, h1⟩
        have e1 := hi_none rfl
        have e2 := mx_none rfl
        exact fin n _ none hk h0 (.inl ⟨e1, rfl⟩) (.inl ⟨e2, rfl⟩) (by omega) g2 (Nat.le_refl _) (by simp [e2]) (by simp; omega)
      · rename_i kh h
        rintro ⟨hk, h0, h1, h2⟩
        have e2 := mx_none rfl
        have e1 := hi_int rfl
        exact fin h.toNat _ none hk h0 (.inr ⟨kh, h, e1, by omega, rfl⟩) (.inl ⟨e2, rfl⟩) (by omega) (by omega) (Nat.le_refl _) (by simp [e2]) (by simp; omega)
      · rename_i kh h km m
        rintro ⟨hk, h0, h1, h2, h3⟩
        have e2 := mx_int rfl
        have e1 := hi_int rfl
        exact fin h.toNat m.toNat _ hk h0 (.inr ⟨kh, h, e1, by omega, rfl⟩) (.inr ⟨km, m, e2, by omega, rfl⟩) (by omega) (by omega) (by omega) (by simp [e1]) (by simp)
      · trivial
    · rename_i ref k l0 n c
      obtain ⟨L, A, g1, rfl, g2, g3, g4, g5⟩ := hx
      simp only [Option.getD_some] at g2 g3 g4
      have fin0 : ∀ (h m : Nat), ei.size = k → 0 ≤ l → Bd vhi n h → Bd vmx c m → l.toNat ≤ h → h ≤ m → m ≤ c → (vmx ≠ none → vhi ≠ none) →
          ∃ y, vrun ((Instr.sliceAt t (.slice A n ((some c).getD (L.cap - l0))) vlo vhi vmx).run P w) = .ok (.value y) w ∧ ∀ Z', (SV.sl ref k (l0 + l.toNat) (h - l.toNat) (some (m - l.toNat))).rel σ Z' w y := by
        intro h m hk h0 hh hmm h1 h3 h4 h5
        refine ⟨_, by rw [Option.getD_some, run_sliceAt hu hs (bd_of hlo hl h0) hh hmm h1 h3 h4 h5]; rfl, fun Z' => ?_⟩
        refine ⟨L, _, g1, by rfl, by simp; omega, by simp; omega, fun hp => ?_, fun hz => ?_⟩
        · simp at hp
          obtain ⟨b, f1, rfl⟩ := g4 (by omega)
          refine ⟨b, f1, ?_⟩
          rw [if_neg (by omega), hk]; simp [add_none, Nat.add_mul]
        · have hl0 : l0 = 0 := by omega
          have hl1 : l.toNat = 0 := by omega
          refine (g5 hl0).imp id fun hA => ?_
          rw [← hA, hl1]
          cases A <;> simp [Addr.add]
      split
      · rintro ⟨hk, h0, h1⟩
        have e1 := hi_none rfl
        have e2 := mx_none rfl
        obtain ⟨y, q1, q2⟩ := fin0 n c hk h0 (.inl ⟨e1, rfl⟩) (.inl ⟨e2, rfl⟩) (by omega) g2 (Nat.le_refl _) (by simp [e2])
        exact ⟨y, .inl q1, q2 _⟩
      · rename_i kh h
        have e2 := mx_none rfl
        have e1 := hi_int rfl
        split
        · rintro ⟨hk, h0, h1, h2⟩
          obtain ⟨y, q1, q2⟩ := fin0 h.toNat c hk h0 (.inr ⟨kh, h, e1, by omega, rfl⟩) (.inl ⟨e2, rfl⟩) (by omega) (by omega) (Nat.le_refl _) (by simp [e2])
          exact ⟨y, .inl q1, q2 _⟩
        · split
          · rename_i e' k' N g hM
            rintro ⟨hk, rfl, h0, h1, h2, h3⟩
            obtain ⟨y, q1, q2⟩ := fin0 h.toNat c hk h0 (.inr ⟨kh, h, e1, by omega, rfl⟩) (.inl ⟨e2, rfl⟩) (by omega) (by omega) (Nat.le_refl _) (by simp [e2])
            obtain ⟨m1, m2⟩ := set_same (R' := .vec e' k' (l0 + h.toNat) fun i j => if i < N then g i j else .r .any) hm hM (fun L' Z w' hL hr => by
              rw [g1] at hL; cases hL
              obtain ⟨q0, qm, q⟩ := hr
              refine ⟨by omega, qm, ?_⟩
              rcases q with ⟨q, qc⟩ | ⟨b, cs, q1, q2, q3, qo, q4⟩
              · exact .inl ⟨q, qc⟩
              · refine .inr ⟨b, cs, q1, q2, q3, qo, fun i j hi hj => ?_⟩
                dsimp only
                by_cases hiN : i < N
                · rw [if_pos hiN]; exact q4 i j hiN hj
                · rw [if_neg hiN]
                  have hlt : i * k' + j < cs.length := by rw [q3]; exact row_lt (by omega) hj
                  exact ⟨cs[i * k' + j], List.getElem?_eq_getElem hlt, qo _ (List.getElem_mem hlt), trivial⟩)
            exact ⟨y, w, .inl q1, m1, m2, q2 _, FrS.refl ..⟩
          · trivial
      · trivial
    · cases hx
      split
      · rintro h0
        have e1 := hi_none rfl
        have e2 := mx_none rfl
        refine POut.of (run_sliceAt hu hs (bd_of hlo hl (by omega)) (.inl ⟨e1, rfl⟩) (.inl ⟨e2, rfl⟩) (by omega) (Nat.le_refl _) (Nat.le_refl _) (by simp [e2])) ?_
        subst h0; rfl
      · rename_i kh h
        rintro ⟨h0, h1⟩
        have e2 := mx_none rfl
        have e1 := hi_int rfl
        subst h0; subst h1
        exact POut.of (run_sliceAt hu hs (bd_of hlo hl (by omega)) (.inr ⟨kh, 0, e1, by omega, rfl⟩) (.inl ⟨e2, rfl⟩) (by omega) (by simp) (Nat.le_refl _) (by simp [e2])) rfl
      · rename_i kh h km m
        rintro ⟨h0, h1, h2⟩
        have e2 := mx_int rfl
        have e1 := hi_int rfl
        subst h0; subst h1; subst h2
        exact POut.of (run_sliceAt hu hs (bd_of hlo hl (by omega)) (.inr ⟨kh, 0, e1, by omega, rfl⟩) (.inr ⟨km, 0, e2, by omega, rfl⟩) (by omega) (by simp) (by simp) (by simp [e1])) rfl
      · trivial
    · trivial
  · trivial

theorem snd_field (hT : TabOK P T) (t : TypeId) (f : Nat) {s : SV} {x : Value} (hx : s.rel σ (Zof B σ M w) w x) :
    Snd P B W n0 σ M F nx w (vrun ((Instr.fieldAt t x f).run P w)) (gfield T t s f) := by
  unfold gfield
  split
  · rename_i sz by_ ze fs hti
    obtain ⟨fa, hu, _, hg⟩ := und_struct (hT.ti t _ hti) rfl
    split
    · rename_i o sf g hf
      obtain ⟨fd, h1, h2, h3, _⟩ := hg f o sf g hf
      have hrun : sf ≠ 0 → ∀ ad, (Instr.fieldAt t (.pointer (some ad)) f).run P w = .ok (.pointer (some (ad.add o))) w := by
        intro hz ad
        simp [Instr.fieldAt, run_underlying hu, h1, Instr.sureAddr, fieldPlace, run_sizeIs h3, hz, h2]
      split
      · rename_i ref row k fld
        obtain ⟨L, b, g1, g2, rfl⟩ := hx
        intro hz
        refine POut.of (hrun hz _) ⟨L, b, g1, g2, ?_⟩
        rw [add_none]; congr 3; omega
      · rename_i k n get row fld
        obtain ⟨b, o', rfl, hz', hc⟩ := hx
        intro hz
        refine POut.of (hrun hz _) ⟨b, o', ?_, hz', hc⟩
        rw [add_none]; congr 3; omega
      · trivial
    · trivial
  · trivial

theorem snd_index (hT : TabOK P T) (t : TypeId) {s s' : SV} {x i : Value} (hx : s.rel σ (Zof B σ M w) w x) (hi : s'.rel σ (Zof B σ M w) w i) :
    Snd P B W n0 σ M F nx w (vrun ((Instr.indexAt t x i).run P w)) (gindex T t s s') := by
  unfold gindex
  split
  · rename_i ki ix
    cases hi
    split
    · rename_i sz by_ ze e hti
      have hu := und_slice (hT.ti t _ hti) rfl
      split
      · trivial
      rename_i ei hei
      have hs := run_size (hT.ti e ei hei) w
      split
      · rename_i k n get
        obtain ⟨A, c, rfl, hnc, hA⟩ := hx
        rintro ⟨hk, h0, h1⟩
        obtain ⟨b, o, rfl, hz, hc⟩ := hA (by omega)
        refine POut.of (y := .pointer (some ((⟨b, o, none⟩ : Addr).add (ix.toNat * ei.size)))) (by simp [Instr.indexAt, asIntOf, run_underlying hu, h0, h1, hs]) ⟨b, o, ?_, hz, hc⟩
        rw [add_none, hk]; simp
      · rename_i ref k lo n c
        obtain ⟨L, A, g1, rfl, g2, g3, g4, g5⟩ := hx
        rintro ⟨hk, h0, h1⟩
        obtain ⟨b, f1, rfl⟩ := g4 (by omega)
        refine POut.of (y := .pointer (some ((⟨b, lo * k, none⟩ : Addr).add (ix.toNat * ei.size)))) (by simp [Instr.indexAt, asIntOf, run_underlying hu, h0, h1, hs]) ⟨L, b, g1, f1, ?_⟩
        rw [add_none, hk]; simp [Nat.add_mul]
      · trivial
    · rename_i sz by_ ze n es g hti
      obtain ⟨e, hu, hes, _⟩ := und_array (hT.ti t _ hti) rfl
      have hs := run_sizeIs hes w
      have hrun : ∀ ad, 0 ≤ ix → ix < n → (Instr.indexAt t (.pointer (some ad)) (.int ki ix)).run P w = .ok (.pointer (some (ad.add (ix.toNat * es)))) w := by
        intro ad h0 h1
        simp [Instr.indexAt, asIntOf, run_underlying hu, Instr.sureAddr, h0, h1, hs]
      split
      · rename_i ref row k fld
        obtain ⟨L, b, g1, g2, rfl⟩ := hx
        rintro ⟨_, h0, h1⟩
        refine POut.of (hrun _ h0 h1) ⟨L, b, g1, g2, ?_⟩
        rw [add_none]; congr 3; omega
      · rename_i k m get row fld
        obtain ⟨b, o', rfl, hz', hc⟩ := hx
        rintro ⟨_, h0, h1⟩
        refine POut.of (hrun _ h0 h1) ⟨b, o', ?_, hz', hc⟩
        rw [add_none]; congr 3; omega
      · trivial
    · trivial
  · trivial
end
end Go.Gx
/-
  Each operation does what 'gop' says: new variables, stores, parts.
-/
set_option linter.unusedVariables false
set_option linter.unusedSimpArgs false
namespace Go.Gx
open Go.RowKit

section
variable {P : Program} {T : Tab} {B W F : Nat → Prop} {n0 : Nat} {σ : Sig} {M : Mem} {nx : Nat} {w : World} {a : Act} {E : Env}

theorem heap_new (w : World) (o : Obj) : (w.alloc o).heap[w.heap.size]? = some o := Go.heap_alloc_new w o
theorem heap_old (w : World) (o : Obj) (b : Nat) (h : b < w.heap.size) : (w.alloc o).heap[b]? = w.heap[b]? := by
  show (w.heap.push o)[b]? = w.heap[b]?
  rw [Array.getElem?_push, if_neg (Nat.ne_of_lt h)]

/-- A new block of cells as a box. -/
theorem new_box (hm : MOK B W n0 σ M F w) (hq : F nx) (hn0 : n0 ≤ w.heap.size) (ty : TypeId) (k : Nat) {l : List SV} {cs : List Value} (h1 : ∀ v ∈ cs, v.oneCell' = true) (h2 : SV.relL σ (Zof B σ M w) w l cs)
    {run : Result Next} (hr : run = .ok (.value (.pointer (some ⟨w.heap.size, 0, none⟩))) (w.alloc (.cells cs.toArray ty))) :
    ∃ y w' L, run = .ok (.value y) w' ∧ MOK B W n0 (upd σ nx (some L)) (upd M nx (some (.box l))) (fun r => F r ∧ r ≠ nx) w' ∧
      Keep (Zof B σ M w) (Zof B (upd σ nx (some L)) (upd M nx (some (.box l))) w') w w' ∧ (SV.ptr nx 0 k 0).rel (upd σ nx (some L)) (Zof B (upd σ nx (some L)) (upd M nx (some (.box l))) w') w' y ∧ FrS W n0 w w' := by
  obtain ⟨e1, e2, e3⟩ := mem_new (w' := w.alloc (.cells cs.toArray ty)) (L := ⟨some w.heap.size, 1⟩) (R := .box l) hm hq hn0 (by simp) (fun b hb => heap_old w _ b hb) (fun b hb => by cases hb; exact Nat.le_refl _)
    (fun σ' Z' hs hk => ⟨w.heap.size, cs, ty, rfl, heap_new w _, h1, SV.relL_mono hs hk _ _ h2⟩)
  exact ⟨_, _, ⟨some w.heap.size, 1⟩, hr, e1, e2, ⟨⟨some w.heap.size, 1⟩, w.heap.size, upd_same .., rfl, by simp⟩, ⟨rfl, rfl, rfl, by simp, Nat.le_refl _, fun b hb _ => heap_old w _ b (by omega)⟩⟩

theorem snd_box (hT : TabOK P T) (hm : MOK B W n0 σ M F w) (hq : F nx) (hn0 : n0 ≤ w.heap.size) (t : TypeId) {i : TI} (hi : T.ti t = some i) {s : SV} {x : Value} (hx : s.rel σ (Zof B σ M w) w x) :
    Snd P B W n0 σ M F nx w (vrun ((Instr.box t x).run P w)) (.new (allOne s.cells = true ∧ s.cells.length = i.size) (.box s.cells) (.ptr nx 0 i.size 0)) := by
  rintro ⟨h1, h2⟩
  obtain ⟨e1, e2⟩ := cells_rel hx h1
  refine new_box hm hq hn0 t i.size e2 e1 ?_
  simp [vrun, Instr.box, newVar, newRow]

theorem relL_consts {Z : Nat → Prop} : ∀ (l : List ZK), SV.relL σ Z w (l.map fun z => .r (.v z.val)) (l.map ZK.val)
  | [] => rfl
  | z :: l => ⟨z.val, _, rfl, rfl, relL_consts l⟩

theorem snd_alloc (hT : TabOK P T) (hm : MOK B W n0 σ M F w) (hq : F nx) (hn0 : n0 ≤ w.heap.size) (t : TypeId) {i : TI} (hi : T.ti t = some i) :
    Snd P B W n0 σ M F nx w (vrun ((Instr.alloc t true (.tuple #[])).run P w)) (.new True (.box (i.zero.map fun z => .r (.v z.val))) (.ptr nx 0 i.size 0)) := by
  intro _
  have hc := hT.ti t i hi
  refine new_box (cs := i.zero.map ZK.val) hm hq hn0 t i.size (fun v hv => ?_) (relL_consts _) ?_
  · obtain ⟨z, _, rfl⟩ := List.mem_map.1 hv
    exact ZK.val_one z
  · have : i.zeroV.cells = (i.zero.map ZK.val).toArray := by rw [← zeroV_cells hc]
    simp [vrun, Instr.alloc, run_zero hc, newVar, newRow, this]

/-! ### parts -/
theorem relL_append {Z : Nat → Prop} : ∀ {l l' : List SV} {xs ys : List Value}, SV.relL σ Z w l xs → SV.relL σ Z w l' ys → SV.relL σ Z w (l ++ l') (xs ++ ys)
  | [], l', xs, ys, h, h' => by cases h; exact h'
  | s :: l, l', xs, ys, h, h' => by
    obtain ⟨v, vs, rfl, h1, h2⟩ := h
    exact ⟨v, vs ++ ys, rfl, h1, relL_append h2 h'⟩
theorem relL_take {Z : Nat → Prop} : ∀ (n : Nat) {l : List SV} {xs : List Value}, SV.relL σ Z w l xs → SV.relL σ Z w (l.take n) (xs.take n)
  | 0, l, xs, h => by simp [SV.relL]
  | n + 1, [], xs, h => by cases h; rfl
  | n + 1, s :: l, xs, h => by
    obtain ⟨v, vs, rfl, h1, h2⟩ := h
    exact ⟨v, _, rfl, h1, relL_take n h2⟩
theorem relL_drop {Z : Nat → Prop} : ∀ (n : Nat) {l : List SV} {xs : List Value}, SV.relL σ Z w l xs → SV.relL σ Z w (l.drop n) (xs.drop n)
  | 0, l, xs, h => by simpa using h
  | n + 1, [], xs, h => by cases h; rfl
  | n + 1, s :: l, xs, h => by
    obtain ⟨v, vs, rfl, h1, h2⟩ := h
    exact relL_drop n h2

def putV (cs : List Value) (o : Nat) (vs : List Value) : List Value := cs.take o ++ vs ++ cs.drop (o + vs.length)
theorem relL_put {Z : Nat → Prop} {l x : List SV} {cs vs : List Value} (o : Nat) (h : SV.relL σ Z w l cs) (h' : SV.relL σ Z w x vs) : SV.relL σ Z w (put l o x) (putV cs o vs) := by
  unfold put putV
  rw [← SV.relL_length h']
  exact relL_append (relL_append (relL_take o h) h') (relL_drop _ h)
theorem putV_length {cs vs : List Value} {o : Nat} (h : o + vs.length ≤ cs.length) : (putV cs o vs).length = cs.length := by
  simp [putV]; omega
theorem putV_one {cs vs : List Value} {o : Nat} (h : ∀ v ∈ cs, v.oneCell' = true) (h' : ∀ v ∈ vs, v.oneCell' = true) : ∀ v ∈ putV cs o vs, v.oneCell' = true := by
  intro v hv
  simp only [putV, List.mem_append] at hv
  rcases hv with (hv | hv) | hv
  · exact h v (List.mem_of_mem_take hv)
  · exact h' v hv
  · exact h v (List.mem_of_mem_drop hv)

theorem foldl_set (off : Nat) : ∀ (vs : List Value) (k : Nat) (cs : Array Value), off + k + vs.length ≤ cs.size →
    ((vs.zipIdx k).foldl (fun cs (x : Value × Nat) => cs.setIfInBounds (off + x.2) x.1) cs).toList = cs.toList.take (off + k) ++ vs ++ cs.toList.drop (off + k + vs.length)
  | [], k, cs, h => by simp
  | v :: vs, k, cs, h => by
    simp only [List.zipIdx_cons, List.foldl_cons]
    rw [foldl_set off vs (k + 1) (cs.setIfInBounds (off + k) v) (by simp at h ⊢; omega)]
    have e := list_seg_step cs.toList (off + k) v vs (by simp at h ⊢; omega)
    simpa [Array.toList_setIfInBounds, Nat.add_assoc] using e

theorem fill_step (place : Nat → Option (Nat × Nat)) (cells : Array Value) (i : Nat) (v : Value) (rest : List (Nat × Value)) {o s : Nat} (h : place i = some (o, s)) (hs : v.cells.size = s) (hb : o + s ≤ cells.size) :
    Instr.fill place cells ((i, v) :: rest) = Instr.fill place (putV cells.toList o v.cells.toList).toArray rest := by
  subst hs
  conv => lhs; unfold Instr.fill
  simp only [h]
  rw [if_neg (by simp; omega)]
  refine congrArg (fun c => Instr.fill place c rest) ?_
  apply Array.ext'
  have e := foldl_set o v.cells.toList 0 cells (by simpa using hb)
  have e2 : (v.cells.zipIdx.foldl (fun cs x => cs.setIfInBounds (o + x.2) x.1) cells) = ((v.cells.toList.zipIdx 0).foldl (fun cs (x : Value × Nat) => cs.setIfInBounds (o + x.2) x.1) cells) := by
    rw [← Array.foldl_toList]; simp
  simp only [Nat.add_zero] at e
  rw [show (v.cells.zipIdx.foldl (fun cs (x : Value × Nat) => match x with | (c, j) => cs.setIfInBounds (o + j) c) cells) = (v.cells.zipIdx.foldl (fun cs x => cs.setIfInBounds (o + x.2) x.1) cells) from rfl, e2, e]
  rfl

def PartsOK (σ : Sig) (Z : Nat → Prop) (w : World) : List (Nat × SV) → List (Nat × Value) → Prop
  | [], vs => vs = []
  | p :: ps, vs => ∃ v vs', vs = v :: vs' ∧ (p.1 = v.1 ∧ p.2.rel σ Z w v.2) ∧ PartsOK σ Z w ps vs'

theorem place_fill {Z : Nat → Prop} (pl : Nat → Option (Nat × Nat)) : ∀ (ps : List (Nat × SV)) (vs : List (Nat × Value)) (l : List SV) (cs : List Value) (out : List SV), SV.relL σ Z w l cs → (∀ v ∈ cs, v.oneCell' = true) →
    PartsOK σ Z w ps vs → place pl l ps = some out → ∃ cs', Instr.fill pl cs.toArray vs = some cs'.toArray ∧ SV.relL σ Z w out cs' ∧ (∀ v ∈ cs', v.oneCell' = true)
  | [], vs, l, cs, out, h, h1, hp, he => by
    cases hp
    simp [place] at he; subst he
    exact ⟨cs, rfl, h, h1⟩
  | (i, x) :: ps, vs, l, cs, out, h, h1, hp, he => by
    · obtain ⟨⟨j, v⟩, vs, rfl, ⟨hp0, hp1⟩, hp2⟩ := hp
      simp only at hp0 hp1
      subst hp0
      simp only [place] at he
      split at he
      · cases he
      rename_i o s hpl
      split at he
      · rename_i hc
        obtain ⟨c1, c2, c3⟩ := hc
        obtain ⟨e1, e2⟩ := cells_rel hp1 c3
        have hsz : v.cells.size = s := by have := SV.relL_length e1; simp at this; omega
        have hlen := SV.relL_length h
        have := place_fill pl ps vs _ _ out (relL_put o h e1) (putV_one h1 e2) hp2 he
        obtain ⟨cs', g1, g2, g3⟩ := this
        refine ⟨cs', ?_, g2, g3⟩
        rw [fill_step pl _ i v vs hpl hsz (by simp; omega)]
        simpa using g1
      · cases he

theorem run_mapM_list {α β : Type} (f : α → Sem β) (g : α → β) (w : World) : ∀ l : List α, (∀ x ∈ l, (f x).run P w = .ok (g x) w) → (l.mapM f).run P w = .ok (l.map g) w
  | [], _ => by simp
  | x :: l, h => by
    simp only [List.mapM_cons, Sem.run_bind, h x (by simp), Result.andThen_ok, run_mapM_list f g w l (fun y hy => h y (by simp [hy]))]
    rfl
theorem run_mapM_arr {α β : Type} (f : α → Sem β) (g : α → β) (w : World) (l : Array α) (h : ∀ x ∈ l.toList, (f x).run P w = .ok (g x) w) : (l.mapM f).run P w = .ok (l.map g) w := by
  rw [Array.mapM_eq_mapM_toList, Sem.run_map, run_mapM_list f g w l.toList h]
  simp only [Result.andThen_ok]
  congr 1
  apply Array.ext'
  simp

theorem forall2_parts {Z : Nat → Prop} (he : EOK σ Z w E a) : ∀ (ps : List (Nat × Operand)),
    PartsOK σ Z w (ps.map fun p => (p.1, ev E p.2)) (ps.map fun p => (p.1, a.eval p.2))
  | [] => rfl
  | p :: ps => ⟨_, _, rfl, ⟨rfl, ev_rel he p.2⟩, forall2_parts he ps⟩

theorem snd_build (hT : TabOK P T) (t : TypeId) (ps : Array (Nat × Operand)) (he : EOK σ (Zof B σ M w) w E a) :
    Snd P B W n0 σ M F nx w (vrun ((Instr.build t (ps.map fun p => (p.1, a.eval p.2))).run P w)) (gbuild T t (ps.toList.map fun p => (p.1, ev E p.2))) := by
  have hp := forall2_parts he ps.toList
  unfold gbuild
  split
  · rename_i sz by_ ze fs hti
    have hc := hT.ti t _ hti
    obtain ⟨fa, hu, hsz, hg⟩ := und_struct hc rfl
    split
    · rename_i cs hcs
      intro _
      have hz := run_zero hc w
      have hzc := zeroV_cells hc
      obtain ⟨cs', g1, g2, g3⟩ := place_fill _ _ _ _ _ cs (relL_consts (σ := σ) (w := w) (Z := Zof B σ M w) ze) (fun v hv => by obtain ⟨z, _, rfl⟩ := List.mem_map.1 hv; exact ZK.val_one z) hp hcs
      have hmap : (fa.mapM fun f => do pure (f.offset, ← sizeOf f.type) : Sem (Array (Nat × Nat))).run P w = .ok (fs.map fun x => (x.1, x.2.1)).toArray w := by
        rw [run_mapM_arr _ (fun f => (f.offset, ((P.info? f.type).map (·.size)).getD 0)) w fa (fun f hf => ?_)]
        · congr 1
          apply Array.ext'
          simp only [Array.toList_map]
          apply List.ext_getElem?
          intro j
          simp only [List.getElem?_map]
          cases hj : fs[j]? with
          | none =>
            have : fa.toList[j]? = none := by
              rw [List.getElem?_eq_none_iff] at hj ⊢
              simp; omega
            simp [this]
          | some x =>
            obtain ⟨o, s, g⟩ := x
            obtain ⟨f, f1, f2, f3, _⟩ := hg j o s g hj
            have f1' : fa.toList[j]? = some f := by simpa using f1
            unfold sizeIs at f3
            split at f3
            · rename_i ti hti'
              simp at f3
              simp [f1', f2, hti', f3]
            · simp at f3
        · obtain ⟨j, hj, hj2⟩ := List.getElem_of_mem hf
          have hj' : j < fs.length := by simp at hj; omega
          rcases hfs : fs[j] with ⟨o, s, g⟩
          obtain ⟨f', f1, f2, f3, _⟩ := hg j o s g (by rw [List.getElem?_eq_getElem hj', hfs])
          have : f' = f := by
            have e : fa.toList[j]? = some f' := by simpa using f1
            rw [List.getElem?_eq_getElem hj, hj2] at e
            cases e; rfl
          subst this
          rw [Sem.run_bind, run_sizeIs f3]
          unfold sizeIs at f3
          split at f3
          · rename_i ti hti'
            simp at f3
            simp [hti', f3]
          · simp at f3
      refine POut.of (y := .agg cs'.toArray) ?_ ⟨cs', rfl, g3, g2⟩
      have hz2 : TI.zeroV ⟨sz, by_, ze, .struct fs⟩ = .agg (ze.map ZK.val).toArray := rfl
      rw [hz2] at hz
      have hpl : (fun i => (fs.map fun x => (x.1, x.2.1)).toArray[i]?) = fun (i : Nat) => (fs[i]?).map fun (x : Nat × Nat × Bool) => match x with | (o, s, _) => (o, s) := by
        funext i
        simp
      unfold Instr.build
      rw [Sem.run_bind, hz, Result.andThen_ok, Sem.run_bind, run_underlying hu, Result.andThen_ok]
      simp only [Value.cells]
      rw [Sem.run_bind, hmap, Result.andThen_ok]
      rw [hpl]
      rw [Array.toList_map, g1]
      rfl
    · trivial
  · rename_i sz by_ ze n es g hti
    have hc := hT.ti t _ hti
    obtain ⟨e, hu, hes, _⟩ := und_array hc rfl
    split
    · rename_i cs hcs
      intro _
      have hz := run_zero hc w
      obtain ⟨cs', g1, g2, g3⟩ := place_fill _ _ _ _ _ cs (relL_consts (σ := σ) (w := w) (Z := Zof B σ M w) ze) (fun v hv => by obtain ⟨z, _, rfl⟩ := List.mem_map.1 hv; exact ZK.val_one z) hp hcs
      refine POut.of (y := .agg cs'.toArray) ?_ ⟨cs', rfl, g3, g2⟩
      have hz2 : TI.zeroV ⟨sz, by_, ze, .array n es g⟩ = .agg (ze.map ZK.val).toArray := rfl
      rw [hz2] at hz
      unfold Instr.build
      rw [Sem.run_bind, hz, Result.andThen_ok, Sem.run_bind, run_underlying hu, Result.andThen_ok]
      simp only [Value.cells]
      rw [Sem.run_bind, run_sizeIs hes, Result.andThen_ok]
      rw [Array.toList_map, g1]
      rfl
    · trivial
  · trivial
end
end Go.Gx
/-
  Each operation does what 'gop' says: stores, slice literals, append, copy, clear.
-/
set_option linter.unusedVariables false
set_option linter.unusedSimpArgs false
namespace Go.Gx
open Go.RowKit

section
variable {P : Program} {T : Tab} {B W F : Nat → Prop} {n0 : Nat} {σ : Sig} {M : Mem} {nx : Nat} {w : World} {a : Act} {E : Env}

theorem relL_get' {Z : Nat → Prop} : ∀ {l : List SV} {ys : List Value}, SV.relL σ Z w l ys → ∀ (i : Nat) (y : Value), ys[i]? = some y → ∃ s, l[i]? = some s ∧ s.rel σ Z w y
  | [], ys, h, i, y, hy => by cases h; simp at hy
  | s :: l, ys, h, i, y, hy => by
    obtain ⟨v, vs', rfl, h1, h2⟩ := h
    cases i with
    | zero => simp at hy; subst hy; exact ⟨s, by simp, h1⟩
    | succ i => simpa using relL_get' h2 i y (by simpa using hy)

theorem toRV_rel {Z : Nat → Prop} {s : SV} {y : Value} (h : s.rel σ Z w y) : (s.toRV).rel Z w y := by
  unfold SV.toRV
  split
  · exact h
  all_goals first
    | trivial
    | (obtain ⟨vs, ws, rfl, h1, h2⟩ := h
       refine ⟨vs, ws, rfl, by simpa using SV.relL_length h1, by simpa using SV.relL_length h2, fun i v hv => ?_, fun i v hv => ?_⟩
       · obtain ⟨s, e1, e2⟩ := relL_get' h1 i v hv
         rcases i with _ | i
         · simp at e1 <;> (try subst e1) <;> first | exact e2 | trivial
         · simp at e1
       · obtain ⟨s, e1, e2⟩ := relL_get' h2 i v hv
         rcases i with _ | _ | _ | i <;> simp at e1 <;> (try subst e1) <;> first | exact e2 | trivial)

theorem run_storeAt {t : TypeId} {i : TI} (h : tyChk P t i = true) {b o : Nat} {cs vs : List Value} {ty : TypeId} {y : Value} (hb : w.heap[b]? = some (.cells cs.toArray ty (0, 0))) (hy : y.cells.toList = vs) (hl : vs.length = i.size)
    (ho : o + i.size ≤ cs.length) (h1 : ∀ v ∈ vs, v.oneCell' = true) :
    (Instr.storeAt t (.pointer (some ⟨b, o, none⟩)) y).run P w = .ok () (w.setRow b (putV cs o vs).toArray) := by
  have hst := run_storeCells_at P b o ty vs 0 cs.toArray w hb (by simp; omega) h1
  have hsz : y.cells.size = i.size := by rw [← Array.length_toList, hy, hl]
  simp only [Instr.storeAt, Instr.sureAddr, Sem.run_bind, Sem.run_pure, Result.andThen_ok, storeVar, run_size h w]
  simp only [hsz, hy]
  simp only [ne_eq, not_true_eq_false, if_false, Sem.run_bind, Sem.run_pure, Result.andThen_ok]
  rw [hst]
  simp [putV, Nat.add_assoc]

theorem setRow_size (b : Nat) (c : Array Value) : (w.setRow b c).heap.size = w.heap.size := by simp [World.setRow]
theorem setRow_other {b x : Nat} (c : Array Value) (h : x ≠ b) : (w.setRow b c).heap[x]? = w.heap[x]? := by
  simp only [World.setRow, Array.getElem?_modify]
  rw [if_neg (by omega)]
theorem setRow_here {b : Nat} {cur c : Array Value} {ty : TypeId} (h : w.heap[b]? = some (.cells cur ty (0, 0))) : (w.setRow b c).heap[b]? = some (.cells c ty (0, 0)) := setRow_heap w b cur c ty _ h

theorem FrS.setRow (hm : MOK B W n0 σ M F w) {ref : Nat} {R : Reg} {L : Loc} {b : Nat} (h1 : M ref = some R) (h2 : σ ref = some L) (h3 : L.at_ = some b) (c : Array Value) : FrS W n0 w (w.setRow b c) :=
  ⟨rfl, rfl, rfl, by rw [setRow_size]; exact Nat.le_refl _, Nat.le_refl _, fun x hx hw => setRow_other c fun e => by
    subst e
    rcases hm.own ref R L x h1 h2 h3 with h | h
    · exact hw h
    · omega⟩

theorem putV_get {cs vs : List Value} {o : Nat} (h : o + vs.length ≤ cs.length) (j : Nat) : (putV cs o vs)[j]? = if o ≤ j ∧ j < o + vs.length then vs[j - o]? else cs[j]? := by
  unfold putV
  have hl : (cs.take o).length = o := by simp; omega
  by_cases h1 : j < o
  · rw [if_neg (by omega), List.append_assoc, List.getElem?_append_left (by omega), List.getElem?_take, if_pos h1]
  · rw [List.append_assoc, List.getElem?_append_right (by omega), hl]
    by_cases h2 : j < o + vs.length
    · rw [if_pos (by omega), List.getElem?_append_left (by omega)]
    · rw [if_neg (by omega), List.getElem?_append_right (by omega), List.getElem?_drop]
      congr 1; omega

theorem snd_store (hT : TabOK P T) (hm : MOK B W n0 σ M F w) (t : TypeId) {s s' : SV} {x y : Value} (hx : s.rel σ (Zof B σ M w) w x) (hy : s'.rel σ (Zof B σ M w) w y) :
    Snd P B W n0 σ M F nx w (((Instr.storeAt t x y).run P w).andThen fun _ w' => .ok .skip w') (gstore T t M s s') := by
  unfold gstore
  split
  · trivial
  rename_i i hti
  have hc := hT.ti t i hti
  split
  · rename_i ref row k fld
    obtain ⟨L, b, h1, h2, rfl⟩ := hx
    split
    · rename_i l hM
      obtain ⟨L', e1, e2⟩ := hm.reg ref _ hM
      rw [h1] at e1; cases e1
      obtain ⟨b', cs, ty, f1, f2, f3, f4⟩ := e2
      rw [h2] at f1; cases f1
      rintro ⟨o1, o2, o3⟩
      obtain ⟨c1, c2⟩ := cells_rel hy o1
      have hl : y.cells.toList.length = i.size := by rw [SV.relL_length c1, o2]
      have hlen := SV.relL_length f4
      have hrun := run_storeAt hc (o := row * k + fld) f2 rfl hl (by omega) c2
      obtain ⟨g1, g2⟩ := mem_set (w' := w.setRow b (putV cs (row * k + fld) y.cells.toList).toArray) (R := .box (put l (row * k + fld) s'.cells)) hm hM h1 h2 (setRow_size ..) (fun x hx => setRow_other _ hx)
        (fun Z' hk => ⟨b, _, ty, h2, setRow_here f2, putV_one f3 c2, SV.relL_mono (fun _ _ h => h) hk _ _ (relL_put _ f4 c1)⟩)
      exact ⟨undef, _, .inr ⟨by rw [hrun]; rfl, rfl⟩, g1, g2, trivial, FrS.setRow hm hM h1 h2 _⟩
    · rename_i e k' n get hM
      obtain ⟨L', e1, e2⟩ := hm.reg ref _ hM
      rw [h1] at e1; cases e1
      obtain ⟨f0, fm, f | ⟨b', cs, f1, f2, f3, fo, f5⟩⟩ := e2
      · rw [h2] at f; cases f.1
      rw [h2] at f1; cases f1
      rintro ⟨o1, o2, rfl, o4, o5⟩
      obtain ⟨c1, c2⟩ := cells_rel hy o1
      have hl : y.cells.toList.length = i.size := by rw [SV.relL_length c1, o2]
      have hrow : row * k' + k' ≤ cs.length := by rw [f3]; have : (row + 1) * k' ≤ L.cap * k' := Nat.mul_le_mul_right k' (by omega); rw [Nat.add_mul] at this; omega
      have hrun := run_storeAt hc (o := row * k' + fld) f2 rfl hl (by omega) c2
      obtain ⟨g1, g2⟩ := mem_set (w' := w.setRow b (putV cs (row * k' + fld) y.cells.toList).toArray)
        (R := .vec e k' n fun i' j' => if i' = row ∧ fld ≤ j' ∧ j' < fld + i.size then s'.cells.getD (j' - fld) (.r .any) else get i' j') hm hM h1 h2 (setRow_size ..) (fun x hx => setRow_other _ hx)
        (fun Z' hk => ⟨f0, fm, .inr ⟨b, _, h2, setRow_here f2, by rw [putV_length (by omega)]; exact f3, putV_one fo c2, fun i' j' hi hj => by
          rw [putV_get (by omega)]
          by_cases hin : i' = row ∧ fld ≤ j' ∧ j' < fld + i.size
          · obtain ⟨rfl, q1, q2⟩ := hin
            rw [if_pos (by omega)]
            dsimp only
            rw [if_pos ⟨rfl, q1, q2⟩]
            have hlt : j' - fld < s'.cells.length := by omega
            obtain ⟨v, v1, v2⟩ := SV.relL_get c1 (j' - fld) s'.cells[j' - fld] (List.getElem?_eq_getElem hlt)
            refine ⟨v, ?_, c2 v (List.mem_of_getElem? v1), ?_⟩
            · rw [← v1]; congr 1; omega
            · rw [List.getD, List.getElem?_eq_getElem hlt]
              exact SV.rel_mono (σ := σ) (σ' := σ) (fun _ _ h => h) hk _ _ v2
          · dsimp only
            rw [if_neg hin]
            obtain ⟨v, v1, v0, v2⟩ := f5 i' j' hi hj
            refine ⟨v, ?_, v0, SV.rel_mono (fun _ _ h => h) hk _ _ v2⟩
            rw [if_neg fun hq => hin ?_]
            · exact v1
            · have hq' : i' * k' + j' = row * k' + (i' * k' + j' - row * k') := by omega
              obtain ⟨q1, q2⟩ := row_inj (k := k') hj (by omega) hq'
              exact ⟨q1, by omega, by omega⟩⟩⟩)
      exact ⟨undef, _, .inr ⟨by rw [hrun]; rfl, rfl⟩, g1, g2, trivial, FrS.setRow hm hM h1 h2 _⟩
    · trivial
  · trivial
end
end Go.Gx
/-
  Each operation does what 'gop' says: slice literals, append, copy, clear.
-/
set_option linter.unusedVariables false
set_option linter.unusedSimpArgs false
namespace Go.Gx
open Go.RowKit

section
variable {P : Program} {T : Tab} {B W F : Nat → Prop} {n0 : Nat} {σ : Sig} {M : Mem} {nx : Nat} {w : World} {a : Act} {E : Env}

theorem place_len (pl : Nat → Option (Nat × Nat)) : ∀ (ps : List (Nat × SV)) (l out : List SV), place pl l ps = some out → out.length = l.length
  | [], l, out, h => by simp [place] at h; rw [h]
  | (i, x) :: ps, l, out, h => by
    simp only [place] at h
    split at h
    · cases h
    · split at h
      · rename_i hc
        rw [place_len pl ps _ _ h]
        simp [put]; omega
      · cases h

theorem rep_length (l : List SV) : ∀ n, (rep l n).length = n * l.length
  | 0 => by simp [rep]
  | n + 1 => by simp [rep, rep_length l n, Nat.add_mul]; omega
def repV (l : List Value) : Nat → List Value
  | 0 => []
  | n + 1 => l ++ repV l n
theorem repV_get (l : List Value) : ∀ n j, j < n * l.length → (repV l n)[j]? = l[j % l.length]?
  | 0, j, h => by simp at h
  | n + 1, j, h => by
    simp only [repV]
    by_cases hj : j < l.length
    · rw [List.getElem?_append_left hj, Nat.mod_eq_of_lt hj]
    · rw [List.getElem?_append_right (by omega), repV_get l n _ (by rw [Nat.add_mul] at h; omega)]
      rw [← Nat.mod_eq_sub_mod (by omega)]
theorem repV_length (l : List Value) : ∀ n, (repV l n).length = n * l.length
  | 0 => by simp [repV]
  | n + 1 => by simp [repV, repV_length l n, Nat.add_mul]; omega
theorem relL_rep {Z : Nat → Prop} {l : List SV} {vs : List Value} (h : SV.relL σ Z w l vs) : ∀ n, SV.relL σ Z w (rep l n) (repV vs n)
  | 0 => rfl
  | n + 1 => relL_append h (relL_rep h n)

theorem zeros_eq {ze : List ZK} (n : Nat) (hz : 0 < ze.length) (z : Array Value) (hze : z.toList = ze.map ZK.val) :
    (Array.range (n * ze.length)).map (fun i => z[i % z.size]!) = (repV (ze.map ZK.val) n).toArray := by
  have hsz : z.size = ze.length := by rw [← Array.length_toList, hze]; simp
  apply Array.ext'
  apply List.ext_getElem?
  intro j
  simp only [Array.toList_map, Array.toList_range, List.getElem?_map, hsz]
  by_cases hj : j < n * ze.length
  · rw [List.getElem?_range hj, repV_get _ _ _ (by simpa using hj)]
    have hm : j % ze.length < ze.length := Nat.mod_lt _ hz
    have : z.toList[j % ze.length]? = (ze.map ZK.val)[j % ze.length]? := by rw [hze]
    simp only [List.length_map]
    rw [← this]
    have hm2 : j % ze.length < z.size := by omega
    simp [getElem!_pos, hm2]
  · have h1 : (List.range (n * ze.length))[j]? = none := by rw [List.getElem?_eq_none_iff]; simp; omega
    rw [h1, List.getElem?_eq_none]
    · rfl
    · rw [repV_length]; simp; omega

/-- A new row as a region. -/
theorem new_row (hm : MOK B W n0 σ M F w) (hq : F nx) (hn0 : n0 ≤ w.heap.size) (e : TypeId) (k n cap : Nat) (get : Nat → Nat → SV) {cs : List Value} (hn : n ≤ cap) (hcm : cap ≤ maxLen) (hl : cs.length = cap * k) (h1 : ∀ v ∈ cs, v.oneCell' = true)
    (h2 : ∀ i j, i < n → j < k → ∃ v, cs[i * k + j]? = some v ∧ (get i j).rel σ (Zof B σ M w) w v) {w' : World} (hf : FrS (fun _ => False) w.heap.size w w') (hb : w'.heap[w.heap.size]? = some (.cells cs.toArray e (0, 0)))
    {run : Result Next} (hr : run = .ok (.value (.slice (some ⟨w.heap.size, 0, none⟩) n cap)) w') :
    ∃ y w' L, run = .ok (.value y) w' ∧ MOK B W n0 (upd σ nx (some L)) (upd M nx (some (.vec e k n get))) (fun r => F r ∧ r ≠ nx) w' ∧
      Keep (Zof B σ M w) (Zof B (upd σ nx (some L)) (upd M nx (some (.vec e k n get))) w') w w' ∧ (SV.sl nx k 0 n none).rel (upd σ nx (some L)) (Zof B (upd σ nx (some L)) (upd M nx (some (.vec e k n get))) w') w' y ∧ FrS W n0 w w' := by
  have hold : ∀ b, b < w.heap.size → w'.heap[b]? = w.heap[b]? := fun b h => hf.block b h fun h => h
  obtain ⟨e1, e2, e3⟩ := mem_new (w' := w') (L := ⟨some w.heap.size, cap⟩) (R := .vec e k n get) hm hq hn0 hf.size hold (fun b hb => by cases hb; exact Nat.le_refl _)
    (fun σ' Z' hs hk => ⟨hn, hcm, .inr ⟨w.heap.size, cs, rfl, hb, hl, h1, fun i j hi hj => by
      obtain ⟨v, g1, g2⟩ := h2 i j hi hj
      exact ⟨v, g1, h1 v (List.mem_of_getElem? g1), SV.rel_mono hs hk _ _ g2⟩⟩⟩)
  exact ⟨_, _, ⟨some w.heap.size, cap⟩, hr, e1, e2, ⟨⟨some w.heap.size, cap⟩, _, upd_same .., rfl, by simpa using hn, by simp, fun _ => ⟨w.heap.size, rfl, by simp⟩, fun _ => .inr rfl⟩, ⟨hf.os, hf.tape, hf.output, hf.size, hf.drawn, fun b hb _ => hold b (by omega)⟩⟩
theorem FrS.alloc (w : World) (o : Obj) : FrS (fun _ => False) w.heap.size w (w.alloc o) := ⟨rfl, rfl, rfl, by simp, Nat.le_refl _, fun b hb _ => heap_old w _ b hb⟩
theorem FrS.dalloc (w : World) (o : Obj) : FrS (fun _ => False) w.heap.size w (w.drew.alloc o) := ⟨rfl, rfl, rfl, by simp, Nat.le_succ _, fun b hb _ => heap_old w.drew _ b hb⟩
theorem new_vec (hm : MOK B W n0 σ M F w) (hq : F nx) (hn0 : n0 ≤ w.heap.size) (e : TypeId) (k n : Nat) (get : Nat → Nat → SV) {cs : List Value} (hn : n ≤ maxLen) (hl : cs.length = n * k) (h1 : ∀ v ∈ cs, v.oneCell' = true)
    (h2 : ∀ i j, i < n → j < k → ∃ v, cs[i * k + j]? = some v ∧ (get i j).rel σ (Zof B σ M w) w v)
    {run : Result Next} (hr : run = .ok (.value (.slice (some ⟨w.heap.size, 0, none⟩) n n)) (w.alloc (.cells cs.toArray e))) :
    ∃ y w' L, run = .ok (.value y) w' ∧ MOK B W n0 (upd σ nx (some L)) (upd M nx (some (.vec e k n get))) (fun r => F r ∧ r ≠ nx) w' ∧
      Keep (Zof B σ M w) (Zof B (upd σ nx (some L)) (upd M nx (some (.vec e k n get))) w') w w' ∧ (SV.sl nx k 0 n none).rel (upd σ nx (some L)) (Zof B (upd σ nx (some L)) (upd M nx (some (.vec e k n get))) w') w' y ∧ FrS W n0 w w' :=
  new_row hm hq hn0 e k n n get (Nat.le_refl _) hn hl h1 h2 (FrS.alloc w _) (heap_new w _) hr

theorem snd_buildSlice (hT : TabOK P T) (hm : MOK B W n0 σ M F w) (hq : F nx) (hn0 : n0 ≤ w.heap.size) (t : TypeId) (len : Nat) (ps : Array (Nat × Operand)) (he : EOK σ (Zof B σ M w) w E a) :
    Snd P B W n0 σ M F nx w (vrun ((Instr.buildSlice t len (ps.map fun p => (p.1, a.eval p.2))).run P w)) (gbuildSlice T t len nx (ps.toList.map fun p => (p.1, ev E p.2))) := by
  have hp := forall2_parts he ps.toList
  unfold gbuildSlice
  split
  · rename_i sz by_ ze e hti
    have hu := und_slice (hT.ti t _ hti) rfl
    split
    · trivial
    rename_i ei hei
    have hc := hT.ti e ei hei
    have hlen := ti_len hc
    split
    · rename_i cs hcs
      rintro ⟨o1, o2⟩
      have hz := run_zero hc w
      have hzc := zeroV_cells hc
      obtain ⟨cs', g1, g2, g3⟩ := place_fill _ _ _ _ _ cs (relL_rep (relL_consts (σ := σ) (w := w) (Z := Zof B σ M w) ei.zero) len) (fun v hv => by
        have : ∀ n, ∀ v ∈ repV (ei.zero.map ZK.val) n, v.oneCell' = true := by
          intro n
          induction n with
          | zero => simp [repV]
          | succ n ih =>
            intro v hv
            simp only [repV, List.mem_append] at hv
            rcases hv with hv | hv
            · obtain ⟨z, _, rfl⟩ := List.mem_map.1 hv; exact ZK.val_one z
            · exact ih v hv
        exact this len v hv) hp hcs
      have hl' : cs'.length = len * ei.size := by
        rw [SV.relL_length g2, place_len _ _ _ _ hcs, rep_length]; simp [hlen]
      refine new_vec hm hq hn0 e ei.size len _ (by unfold maxLen; have : len ≤ len * ei.size := Nat.le_mul_of_pos_right _ o1; omega) hl' g3 (fun i j hi hj => ?_) ?_
      · have hlt : i * ei.size + j < cs.length := by rw [← SV.relL_length g2, hl']; exact row_lt hi hj
        obtain ⟨v, v1, v2⟩ := SV.relL_get g2 _ _ (List.getElem?_eq_getElem hlt)
        refine ⟨v, v1, ?_⟩
        rw [List.getD, List.getElem?_eq_getElem hlt]
        exact v2
      · unfold Instr.buildSlice
        rw [Sem.run_bind, run_underlying hu, Result.andThen_ok]
        dsimp only
        rw [Sem.run_bind, run_size hc, Result.andThen_ok]
        rw [if_neg (by simp; omega)]
        by_cases h0 : len * ei.size = 0
        · have hl0 : len = 0 := by
            rcases Nat.mul_eq_zero.1 h0 with h | h <;> omega
          subst hl0
          have hr0 : (Array.range (0 * ei.size)).map (fun i => (#[] : Array Value)[i % (#[] : Array Value).size]!) = (repV (ei.zero.map ZK.val) 0).toArray := by simp [repV]
          simp only [Nat.zero_mul, if_true] at *
          simp only [Sem.run_bind, Sem.run_pure, Result.andThen_ok]
          have hr1 : (Array.range 0).map (fun i => (#[] : Array Value)[i % (#[] : Array Value).size]!) = (repV (ei.zero.map ZK.val) 0).toArray := by simp [repV]
          rw [hr1, Array.toList_map, g1]
          simp [newRow, vrun]
        · rw [if_neg h0]
          rw [Sem.run_bind, hz, Result.andThen_ok]
          rw [pure_bind]
          have hzz := zeros_eq len (by omega) ei.zeroV.cells hzc
          rw [hlen] at hzz
          rw [hzz, Array.toList_map, g1]
          simp [newRow, vrun]
    · trivial
  · trivial
end
end Go.Gx
/-
  Each operation does what 'gop' says: append, copy, clear, len.
-/
set_option linter.unusedVariables false
set_option linter.unusedSimpArgs false
namespace Go.Gx
open Go.RowKit

section
variable {P : Program} {T : Tab} {B W F : Nat → Prop} {n0 : Nat} {σ : Sig} {M : Mem} {nx : Nat} {w : World} {a : Act} {E : Env}

/-- What a slice reads as, in memory: its cells as a list. -/
theorem rows_mem (hm : MOK B W n0 σ M F w) {k : Nat} {s : SV} {x : Value} (hx : s.rel σ (Zof B σ M w) w x) {ob : Prop} {m : Nat} {get : Nat → Nat → SV} (h : rowsOf M k s = some (ob, m, get)) (hob : ob) :
    ∃ (A : Option Addr) (c : Nat) (cs : List Value), x = .slice A m c ∧ cs.length = m * k ∧ (∀ v ∈ cs, v.oneCell' = true) ∧ (0 < m * k → ∃ b o, A = some ⟨b, o, none⟩ ∧ ∀ j v, cs[j]? = some v → w.cell? ⟨b, o + j, none⟩ = some v) ∧
      (∀ i j, i < m → j < k → ∃ v, cs[i * k + j]? = some v ∧ (get i j).rel σ (Zof B σ M w) w v) := by
  have key : ∀ (b o : Nat), (∀ i j, i < m → j < k → ∃ v, w.cell? ⟨b, o + (i * k + j), none⟩ = some v ∧ v.oneCell' = true ∧ (get i j).rel σ (Zof B σ M w) w v) →
      ∃ cs : List Value, cs.length = m * k ∧ (∀ v ∈ cs, v.oneCell' = true) ∧ (∀ j v, cs[j]? = some v → w.cell? ⟨b, o + j, none⟩ = some v) ∧ (∀ i j, i < m → j < k → ∃ v, cs[i * k + j]? = some v ∧ (get i j).rel σ (Zof B σ M w) w v) := by
    intro b o hc
    have hcell : ∀ q, q < m * k → ∃ v, w.cell? ⟨b, o + q, none⟩ = some v ∧ v.oneCell' = true := by
      intro q hq
      have hk : 0 < k := by rcases Nat.eq_zero_or_pos k with h | h; · subst h; omega
                            · exact h
      obtain ⟨v, h1, h2, _⟩ := hc (q / k) (q % k) (Nat.div_lt_of_lt_mul (by rw [Nat.mul_comm]; exact hq)) (Nat.mod_lt _ hk)
      refine ⟨v, ?_, h2⟩
      rw [← h1]; congr 2
      rw [Nat.mul_comm, Nat.div_add_mod]
    refine ⟨(List.range (m * k)).map fun q => (w.cell? ⟨b, o + q, none⟩).getD undef, by simp, fun v hv => ?_, fun j v hv => ?_, fun i j hi hj => ?_⟩
    · obtain ⟨q, hq, rfl⟩ := List.mem_map.1 hv
      obtain ⟨u, h1, h2⟩ := hcell q (by simpa using hq)
      rw [h1]; exact h2
    · simp only [List.getElem?_map] at hv
      by_cases hj : j < m * k
      · obtain ⟨u, h1, h2⟩ := hcell j hj
        rw [List.getElem?_range hj] at hv
        simp [h1] at hv; subst hv; exact h1
      · rw [List.getElem?_eq_none (by simp; omega)] at hv; cases hv
    · obtain ⟨v, h1, h2, h3⟩ := hc i j hi hj
      refine ⟨v, ?_, h3⟩
      rw [List.getElem?_map, List.getElem?_range (row_lt hi hj)]
      simp [h1]
  unfold rowsOf at h
  split at h
  · cases h
    cases hx
    exact ⟨none, 0, [], rfl, by simp, by simp, by simp, by omega⟩
  · rename_i k' m' get'
    cases h
    obtain ⟨A, c, rfl, hn, hA⟩ := hx
    subst hob
    by_cases h0 : 0 < m
    · obtain ⟨b, o, rfl, hz, hc⟩ := hA h0
      obtain ⟨cs, h1, h2, h3, h4⟩ := key b o hc
      exact ⟨_, c, cs, rfl, h1, h2, fun _ => ⟨b, o, rfl, h3⟩, h4⟩
    · have : m = 0 := by omega
      subst this
      exact ⟨A, c, [], rfl, by simp, by simp, by simp, by omega⟩
  · rename_i k' m' get'
    cases h
    obtain ⟨A, rfl, hA⟩ := hx
    subst hob
    by_cases h0 : 0 < m
    · obtain ⟨b, o, rfl, hz, hc⟩ := hA h0
      obtain ⟨cs, h1, h2, h3, h4⟩ := key b o hc
      exact ⟨_, m, cs, rfl, h1, h2, fun _ => ⟨b, o, rfl, h3⟩, h4⟩
    · have : m = 0 := by omega
      subst this
      exact ⟨A, 0, [], rfl, by simp, by simp, by simp, by omega⟩
  · rename_i ref k' lo m' c'
    split at h
    · rename_i e k'' n get' hM
      cases h
      obtain ⟨rfl, rfl, hle⟩ := hob
      obtain ⟨L, A, g1, rfl, g2, g3, g4, g5⟩ := hx
      obtain ⟨L', e1, e2⟩ := hm.reg ref _ hM
      rw [g1] at e1; cases e1
      obtain ⟨f0, fm, f | ⟨b', cs', f1, f2, f3, fo, f5⟩⟩ := e2
      · have hn0 : n = 0 := by omega
        have : m = 0 := by omega
        subst this
        exact ⟨A, _, [], rfl, by simp, by simp, by simp, by omega⟩
      · by_cases h0 : 0 < m
        · obtain ⟨b, q1, rfl⟩ := g4 (by omega)
          rw [f1] at q1; cases q1
          obtain ⟨cs, h1, h2, h3, h4⟩ := key b' (lo * k'') (fun i j hi hj => by
            obtain ⟨v, v1, v0, v2⟩ := f5 (lo + i) j (by omega) hj
            refine ⟨v, ?_, v0, v2⟩
            simp only [World.cell?, f2]
            rw [← v1, Nat.add_mul, Nat.add_assoc]
            simp)
          exact ⟨_, _, cs, rfl, h1, h2, fun _ => ⟨b', _, rfl, h3⟩, h4⟩
        · have : m = 0 := by omega
          subst this
          exact ⟨A, _, [], rfl, by simp, by simp, by simp, by omega⟩
    · cases h
  · cases h

theorem run_append_zero (t ty : TypeId) {e : TypeId} {ei : TI} (hu : P.underlying t = some (.slice e)) (hc : tyChk P e ei = true) (A B : Option Addr) (n c c' : Nat) (hn : n ≤ c) :
    (Builtin.append_ #[t, t] ty #[.slice A n c, .slice B 0 c']).run P w = .ok (.slice A n c) w := by
  simp only [Builtin.append_]
  simp [run_underlying hu, run_size hc, Builtin.lenOf, hn]
  cases B <;> cases A <;> simp [Builtin.firstCells, loadCells, loadCellsFrom, storeCells]

/-- What a source of an append gives. -/
def Src (P : Program) (w : World) (e : TypeId) (ei : TI) (t : TypeId) (ts : Array TypeId) (x : Value) (m : Nat) (news : List Value) : Prop :=
  news.length = m * ei.size ∧ (∀ v ∈ news, v.oneCell' = true) ∧
  (∀ (ty : TypeId) (A : Option Addr) (n c : Nat) (olds : List Value), n ≤ c → olds.length = n * ei.size → (0 < n * ei.size → ∃ b o, A = some ⟨b, o, none⟩ ∧ ∀ j v, olds[j]? = some v → w.cell? ⟨b, o + j, none⟩ = some v) → c < n + m → n + m ≤ maxLen → (n + m) * ei.bytes ≤ 140737488355328 →
    ∃ cap, n + m ≤ cap ∧ cap ≤ maxLen ∧ (Builtin.append_ ts ty #[.slice A n c, x]).run P w = .ok (.slice (some ⟨w.heap.size, 0, none⟩) (n + m) cap) (w.drew.alloc (.cells (olds ++ news ++ (Builtin.zeroCells ei.zeroV.cells (cap - (n + m))).toList).toArray e)))

theorem run_firstCells_any {size n : Nat} {A : Option Addr} {c len : Nat} {cs : List Value} (hl : cs.length = n * size) (hA : 0 < n * size → ∃ b o, A = some ⟨b, o, none⟩ ∧ ∀ j u, cs[j]? = some u → w.cell? ⟨b, o + j, none⟩ = some u) :
    (Builtin.firstCells size n (.slice A len c)).run P w = .ok cs.toArray w := by
  by_cases h0 : n * size = 0
  · have : cs = [] := List.eq_nil_of_length_eq_zero (by omega)
    subst this
    cases A <;> simp [Builtin.firstCells, h0, loadCells, loadCellsFrom]
  · obtain ⟨b, o, rfl, hc⟩ := hA (by omega)
    exact run_firstCells_some w size n _ len c cs hl (fun j v hv => by rw [add_none]; exact hc j v hv)

theorem zero_size {t : TypeId} {i : TI} (h : tyChk P t i = true) : i.zeroV.cells.size = i.size := by rw [← Array.length_toList, zeroV_cells h, List.length_map, ti_len h]

theorem zeroCells_rep {t : TypeId} {i : TI} (h : tyChk P t i = true) (n : Nat) : (Builtin.zeroCells i.zeroV.cells n).toList = repV (i.zero.map ZK.val) n := by
  have hzc := zeroV_cells h
  unfold Builtin.zeroCells
  rcases Nat.eq_zero_or_pos i.zero.length with h | h
  · have h1 : i.zeroV.cells.size = 0 := by rw [← Array.length_toList, hzc]; simp [h]
    have h2 : i.zero = [] := List.eq_nil_of_length_eq_zero h
    rw [h1, h2]
    have : ∀ n, repV ([] : List Value) n = [] := by intro n; induction n with
      | zero => rfl
      | succ n ih => simp [repV, ih]
    simp [this]
  · have := zeros_eq n h i.zeroV.cells hzc
    have h3 : i.zeroV.cells.size = i.zero.length := by rw [← Array.length_toList, hzc]; simp
    rw [h3, show (Array.range (n * i.zero.length)).map (fun j => i.zeroV.cells[j % i.zero.length]!) = (Array.range (n * i.zero.length)).map (fun j => i.zeroV.cells[j % i.zeroV.cells.size]!) from by rw [h3], this]
theorem rep_one (z : List ZK) (n : Nat) : ∀ v ∈ repV (z.map ZK.val) n, v.oneCell' = true := by
  intro v hv
  obtain ⟨j, hj, rfl⟩ := List.getElem_of_mem hv
  have h1 := repV_get (z.map ZK.val) n j (by rw [repV_length] at hj; exact hj)
  rw [List.getElem?_eq_getElem hj] at h1
  have := List.mem_of_getElem? h1.symm
  obtain ⟨z, _, hz⟩ := List.mem_map.1 this
  rw [← hz]; exact ZK.val_one z
theorem rep_rows {t : TypeId} {i : TI} (h : tyChk P t i = true) {n a b : Nat} (ha : a < n) (hb : b < i.size) (Z : Nat → Prop) : ∃ v, (repV (i.zero.map ZK.val) n)[a * i.size + b]? = some v ∧ v.oneCell' = true ∧ (match i.zero[b]? with | some z => SV.r (.v z.val) | none => .r .any).rel σ Z w v := by
  have hlz := ti_len h
  rw [repV_get _ _ _ (by rw [List.length_map, hlz]; exact row_lt ha hb)]
  have : (a * i.size + b) % i.size = b := by rw [Nat.mul_comm, Nat.mul_add_mod]; exact Nat.mod_eq_of_lt hb
  rw [List.length_map, hlz, this, List.getElem?_map]
  have hj' : b < i.zero.length := by omega
  rw [List.getElem?_eq_getElem hj']
  exact ⟨_, rfl, ZK.val_one _, rfl⟩

theorem src_slice {t e : TypeId} {ei : TI} (hu : P.underlying t = some (.slice e)) (hc : tyChk P e ei = true) {A' : Option Addr} {m c' : Nat} {news : List Value} (hl : news.length = m * ei.size) (h1 : ∀ v ∈ news, v.oneCell' = true)
    (hA' : 0 < m * ei.size → ∃ b o, A' = some ⟨b, o, none⟩ ∧ ∀ j v, news[j]? = some v → w.cell? ⟨b, o + j, none⟩ = some v) : Src P w e ei t #[t, t] (.slice A' m c') m news := by
  refine ⟨hl, h1, fun ty A n c olds hnc hol hA hg h63 hby => ?_⟩
  obtain ⟨i, hi, hi2, hi3, hz⟩ := ti_info hc
  have hsz := hi2
  refine ⟨grownCap w (n + m) c e, grownCap_ge w (n + m) c e, grownCap_le_maxLen w (n + m) c e h63, ?_⟩
  have hn : ¬ (n + m ≤ c) := by omega
  have h63' : ¬ (9223372036854775807 < ((n : Int) + (m : Int))) := by unfold maxLen at h63; omega
  have h48 := growslice_fits hg hby
  have h48' : ¬ (281474976710656 < Builtin.nextslicecap (n + m) c * i.bytes) := by rw [hi3]; omega
  have hf := run_firstCells_any (P := P) (w := w.drew) (len := m) (c := c') hl hA'
  have hfo := run_firstCells_any (P := P) (w := w.drew) (len := n) (c := c) hol hA
  rw [← hi2] at hf hfo
  simp [Builtin.append_, run_underlying hu, sizeOf, typeInfo, zeroValue, hi, hz, Builtin.lenOf, hn, h63', h48', Question.forced, hf, hfo, newRow, grownCap]
  congr 2
  apply Array.ext'
  simp [List.append_assoc]

theorem src_zeros {t tz e : TypeId} {ei : TI} {k : IntKind} (hu : P.underlying t = some (.slice e)) (huz : P.underlying tz = some (.int k)) (hc : tyChk P e ei = true) (hsz : 0 < ei.size) {m : Nat} (hm : 0 < m) (hmb : m * ei.bytes ≤ 140737488355328) (hm63 : m ≤ 9223372036854775807) :
    Src P w e ei t #[t, tz] (.int .i64 m) m (repV (ei.zero.map ZK.val) m) := by
  refine ⟨by rw [repV_length, List.length_map, ti_len hc], rep_one _ _, fun ty A n c olds hnc hol hA hg h63 hby => ?_⟩
  obtain ⟨i, hi, hi2, hi3, hz⟩ := ti_info hc
  refine ⟨grownCap w (n + m) c e, grownCap_ge w (n + m) c e, grownCap_le_maxLen w (n + m) c e h63, ?_⟩
  have hn : ¬ (n + m ≤ c) := by omega
  have h63' : ¬ (9223372036854775807 < ((n : Int) + (m : Int))) := by unfold maxLen at h63; omega
  have h48 := growslice_fits hg hby
  have h48' : ¬ (281474976710656 < Builtin.nextslicecap (n + m) c * i.bytes) := by rw [hi3]; omega
  have hfo := run_firstCells_any (P := P) (w := w.drew) (len := n) (c := c) hol hA
  rw [← hi2] at hfo
  have hw : IntKind.i64.wrap (m : Int) = m := wrap_inr (by simp only [inr]; omega)
  have hb' : ¬ (281474976710656 < (m : Int) * (i.bytes : Int)) := by
    rw [hi3]
    have h1 : (m : Int) * (ei.bytes : Int) = ((m * ei.bytes : Nat) : Int) := by simp
    rw [h1]; omega
  have hne : ¬ (m * ei.size = 0) := by
    have := Nat.mul_pos hm hsz
    omega
  have hzr := zeroCells_rep hc m
  have hneg : ¬ ((m : Int) < 0) := by omega
  have hne' : ¬ (m * i.size = 0) := by rw [hi2]; exact hne
  clear hne
  simp [Builtin.append_, run_underlying hu, run_underlying huz, sizeOf, typeInfo, zeroValue, hi, hz, hw, hneg, hb', hn, h63', h48', Question.forced, hfo, newRow, grownCap, asInt, asIntOf]
  rw [if_neg hne']
  congr 3
  apply Array.ext'
  simp [List.append_assoc, hzr]

/-- The rows of an append that has grown. -/
theorem joined_cells {Z : Nat → Prop} {k n m : Nat} {xs news rest : List Value} {g get : Nat → Nat → SV} (hx : xs.length = n * k) (h1 : ∀ i j, i < n → j < k → ∃ v, xs[i * k + j]? = some v ∧ (g i j).rel σ Z w v)
    (hn : news.length = m * k) (h2 : ∀ i j, i < m → j < k → ∃ v, news[i * k + j]? = some v ∧ (get i j).rel σ Z w v) :
    ∀ i j, i < n + m → j < k → ∃ v, (xs ++ news ++ rest)[i * k + j]? = some v ∧ (joined n m g get i j).rel σ Z w v := by
  intro i j hi hj
  unfold joined
  by_cases h : i < n
  · rw [if_pos h, List.append_assoc, List.getElem?_append_left (by rw [hx]; exact row_lt h hj)]
    exact h1 i j h hj
  · rw [if_neg h, if_pos hi]
    obtain ⟨v, v1, v2⟩ := h2 (i - n) j (by omega) hj
    refine ⟨v, ?_, v2⟩
    have hle : n * k ≤ i * k := Nat.mul_le_mul_right k (by omega)
    rw [List.append_assoc, List.getElem?_append_right (by omega), List.getElem?_append_left, ← v1, hx, Nat.sub_mul]
    · congr 1; omega
    · have := row_lt (k := k) (show i - n < m by omega) hj
      rw [Nat.sub_mul] at this
      omega

/-- An append that grows gives a new region. -/
theorem app_new (hm : MOK B W n0 σ M F w) (hq : F nx) (hn0 : n0 ≤ w.heap.size) {t ty : TypeId} {ts : Array TypeId} {e : TypeId} {ei : TI} (hc : tyChk P e ei = true) {x : Value} {m : Nat} {news : List Value} (hs : Src P w e ei t ts x m news)
    {A : Option Addr} {n c : Nat} {olds : List Value} (hnc : n ≤ c) (hol : olds.length = n * ei.size) (ho1 : ∀ v ∈ olds, v.oneCell' = true) (hA : 0 < n * ei.size → ∃ b o, A = some ⟨b, o, none⟩ ∧ ∀ j v, olds[j]? = some v → w.cell? ⟨b, o + j, none⟩ = some v)
    (hg : c < n + m) (h63 : n + m ≤ 9223372036854775807) (hby : (n + m) * ei.bytes ≤ 140737488355328) {g get : Nat → Nat → SV} (h1 : ∀ i j, i < n → j < ei.size → ∃ v, olds[i * ei.size + j]? = some v ∧ (g i j).rel σ (Zof B σ M w) w v)
    (h2 : ∀ i j, i < m → j < ei.size → ∃ v, news[i * ei.size + j]? = some v ∧ (get i j).rel σ (Zof B σ M w) w v) :
    ∃ y w' L, vrun ((Builtin.append_ ts ty #[.slice A n c, x]).run P w) = .ok (.value y) w' ∧ MOK B W n0 (upd σ nx (some L)) (upd M nx (some (.vec e ei.size (n + m) (joined n m g get)))) (fun r => F r ∧ r ≠ nx) w' ∧
      Keep (Zof B σ M w) (Zof B (upd σ nx (some L)) (upd M nx (some (.vec e ei.size (n + m) (joined n m g get)))) w') w w' ∧ (SV.sl nx ei.size 0 (n + m) none).rel (upd σ nx (some L)) (Zof B (upd σ nx (some L)) (upd M nx (some (.vec e ei.size (n + m) (joined n m g get)))) w') w' y ∧ FrS W n0 w w' := by
  obtain ⟨s1, s2, s3⟩ := hs
  obtain ⟨cap, c1, c2, hrun⟩ := s3 ty A n c olds hnc hol hA hg (by unfold maxLen; omega) hby
  refine new_row hm hq hn0 e ei.size (n + m) cap _ c1 c2 ?_ ?_ (joined_cells hol h1 s1 h2) (FrS.dalloc w _) (heap_new w.drew _) (by rw [hrun]; rfl)
  · rw [List.length_append, List.length_append, hol, s1, zeroCells_rep hc, repV_length, List.length_map, ti_len hc, ← Nat.add_mul, ← Nat.add_mul]
    congr 1; omega
  · intro v hv
    simp only [List.mem_append] at hv
    rcases hv with (hv | hv) | hv
    · exact ho1 v hv
    · exact s2 v hv
    · rw [zeroCells_rep hc] at hv; exact rep_one _ _ v hv

/-- append of m rows. -/
theorem snd_gapp (hT : TabOK P T) (hm : MOK B W n0 σ M F w) (hq : F nx) (hn0 : n0 ≤ w.heap.size) (t ty e : TypeId) {ei : TI} (hu : P.underlying t = some (.slice e)) (hc : tyChk P e ei = true) {ts : Array TypeId} {s : SV} {x y : Value} {ob : Prop} {m : Nat} {get : Nat → Nat → SV} (hx : s.rel σ (Zof B σ M w) w x)
    (hsrc : ob → 0 < ei.size → ∃ news, Src P w e ei t ts y m news ∧ (∀ i j, i < m → j < ei.size → ∃ v, news[i * ei.size + j]? = some v ∧ (get i j).rel σ (Zof B σ M w) w v))
    (hsame : (∃ r k lo n c, s = .sl r k lo n (some c)) ∧ (ob → 0 < m) ∨ ts = #[t, t] ∧ ∃ A' c', y = .slice A' m c' ∧ (ob → ∃ news : List Value, (news.length = m * ei.size ∧ (∀ v ∈ news, v.oneCell' = true) ∧ (0 < m * ei.size → ∃ b o, A' = some ⟨b, o, none⟩ ∧ ∀ j v, news[j]? = some v → w.cell? ⟨b, o + j, none⟩ = some v)) ∧ ∀ i j, i < m → j < ei.size → ∃ v, news[i * ei.size + j]? = some v ∧ (get i j).rel σ (Zof B σ M w) w v)) :
    Snd P B W n0 σ M F nx w (vrun ((Builtin.append_ ts ty #[x, y]).run P w)) (gapp e ei M nx s ob m get) := by
  have hzero : ∀ {A : Option Addr} {n c : Nat}, n ≤ c → m = 0 → ts = #[t, t] → (∃ A' c', y = .slice A' m c') → (Builtin.append_ ts ty #[.slice A n c, y]).run P w = .ok (.slice A n c) w := by
    rintro A n c hnc rfl rfl ⟨A', c', rfl⟩
    exact run_append_zero t ty hu hc A A' n c c' hnc
  have hem : ∀ (Z : Nat → Prop) (g : Nat → Nat → SV) i j, i < 0 → j < ei.size → ∃ v, ([] : List Value)[i * ei.size + j]? = some v ∧ (g i j).rel σ Z w v := fun Z g i j hi => by omega
  -- nothing is appended to nothing: a region of its own without cells
  have nothing : ∀ (A : Option Addr) (R : Reg), (∃ get', R = .vec e ei.size 0 get') → vrun ((Builtin.append_ ts ty #[x, y]).run P w) = .ok (.value (.slice A 0 0)) w → ∃ y' w' L, vrun ((Builtin.append_ ts ty #[x, y]).run P w) = .ok (.value y') w' ∧ MOK B W n0 (upd σ nx (some L)) (upd M nx (some R)) (fun r => F r ∧ r ≠ nx) w' ∧
      Keep (Zof B σ M w) (Zof B (upd σ nx (some L)) (upd M nx (some R)) w') w w' ∧ (SV.sl nx ei.size 0 0 none).rel (upd σ nx (some L)) (Zof B (upd σ nx (some L)) (upd M nx (some R)) w') w' y' ∧ FrS W n0 w w' := by
    rintro A R ⟨get', rfl⟩ hrun
    obtain ⟨e1, e2, e3⟩ := mem_new (w' := w) (L := ⟨none, 0⟩) (R := .vec e ei.size 0 get') hm hq hn0 (Nat.le_refl _) (fun _ _ => rfl) (fun b hb => by cases hb) (fun σ' Z' _ _ => ⟨Nat.le_refl _, by simp [maxLen], .inl ⟨rfl, rfl⟩⟩)
    exact ⟨_, w, ⟨none, 0⟩, hrun, e1, e2, ⟨⟨none, 0⟩, A, upd_same .., rfl, by simp, by simp, by simp, fun _ => .inl rfl⟩, FrS.refl ..⟩
  unfold gapp
  split
  · cases hx
    rintro ⟨o0, o1, o2, o3⟩
    rcases hsame with ⟨⟨_, _, _, _, _, h⟩, _⟩ | ⟨ht, A', c', rfl, _⟩
    · cases h
    by_cases h0 : m = 0
    · subst h0
      exact nothing none _ ⟨get, rfl⟩ (by rw [hzero (Nat.le_refl _) rfl ht ⟨_, _, rfl⟩]; rfl)
    · obtain ⟨news, hs, h2⟩ := hsrc o0 o1
      have := app_new (ty := ty) (A := none) (n := 0) (c := 0) (olds := []) (g := get) hm hq hn0 hc hs (Nat.le_refl _) (by simp) (by simp) (by omega) (by omega) (by omega) (by simp; omega) (hem _ get) h2
      have ej : joined 0 m get get = fun i j => if i < m then get i j else get i j := by
        funext i j; simp [joined]
      simp only [Nat.zero_add, ej, ite_self] at this
      exact this
  · rename_i k n g
    obtain ⟨A, rfl, hA⟩ := hx
    rintro ⟨o0, o1, rfl, o2, o3, o4⟩
    rcases hsame with ⟨⟨_, _, _, _, _, h⟩, _⟩ | ⟨ht, A', c', rfl, _⟩
    · cases h
    by_cases h0 : m = 0
    · subst h0
      have hn : n = 0 := by omega
      subst hn
      exact nothing A _ ⟨_, rfl⟩ (by rw [hzero (Nat.le_refl _) rfl ht ⟨_, _, rfl⟩]; rfl)
    · obtain ⟨news, hs, h2⟩ := hsrc o0 o1
      have hro : rowsOf M ei.size (.r (.rf ei.size n g)) = some (ei.size = ei.size, n, fun i j => .r (g i j)) := rfl
      obtain ⟨A2, c2, olds, e1, e2, e3, e4, e5⟩ := rows_mem (x := .slice A n n) hm (s := .r (.rf ei.size n g)) ⟨A, rfl, hA⟩ hro rfl
      cases e1
      exact app_new hm hq hn0 hc hs (Nat.le_refl _) e2 e3 e4 (by omega) o4 o3 e5 h2
  · rename_i ref k n
    split
    · rename_i e' k' N g hM
      rintro ⟨o0, o1, rfl, rfl, rfl, o2, o3, o4⟩
      obtain ⟨L, A, g1, rfl, g2, g3, g4, g5⟩ := hx
      rcases hsame with ⟨⟨_, _, _, _, _, h⟩, _⟩ | ⟨ht, A', c', rfl, hsl⟩
      · cases h
      obtain ⟨news, ⟨s1, s2, s3⟩, h2⟩ := hsl o0
      obtain ⟨L', e1, e2⟩ := hm.reg ref _ hM
      rw [g1] at e1; cases e1
      obtain ⟨f0, fm, hf⟩ := e2
      simp only [Option.getD_none, Nat.sub_zero] at g2 g3 g4 ⊢
      have hkZ : ∀ w' : World, (∀ x, x < w.heap.size → L.at_ ≠ some x → w'.heap[x]? = w.heap[x]?) → Keep (Zof B σ M w) (Zof B σ M w) w w' := fun w' h b hb => ⟨hb, h b hb.1.1 fun h => hm.notZ hM g1 h hb⟩
      by_cases h0 : m = 0
      · -- as it was
        subst h0
        have hN : N + (n + 0 - N) = N := by omega
        rw [hN]
        obtain ⟨m1, m2, m3⟩ := mem_app (w' := w) (L := L) (R := .vec e' ei.size N fun i j => (joined n 0 g get i j).kill ref) hm hn0 hM g1 (Nat.le_refl _) (fun _ _ _ => rfl) (fun b hb => .inl hb) (fun σ' Z' hs hk => ⟨f0, fm, hf.imp id fun ⟨b, cs, r1, r2, r3, ro, r4⟩ => ⟨b, cs, r1, r2, r3, ro, fun i j hi hj => by
          obtain ⟨v, v1, v0, v2⟩ := r4 i j hi hj
          refine ⟨v, v1, v0, ?_⟩
          have : joined n 0 g get i j = g i j := by unfold joined; split; rfl; rw [if_neg (by omega)]
          dsimp only
          rw [this]; exact SV.rel_kill hs hk _ _ v2⟩⟩)
        exact ⟨_, w, L, by rw [hzero g2 rfl ht ⟨_, _, rfl⟩]; rfl, m1, m2, ⟨L, A, upd_same .., by simp, by simpa using g2, by simp, by simpa using g4, g5⟩, FrS.refl .., m3⟩
      · by_cases hfit : n + m ≤ L.cap
        · -- in place
          obtain ⟨b, b1, rfl⟩ := g4 (by omega)
          rcases hf with ⟨f1, _⟩ | ⟨b', cs, f1, f2, f3, fo, f5⟩
          · rw [f1] at b1; cases b1
          rw [b1] at f1; cases f1
          have hlen : n * ei.size + news.length ≤ cs.length := by rw [s1, f3, ← Nat.add_mul]; exact Nat.mul_le_mul_right _ hfit
          have hmp : 0 < m * ei.size := Nat.mul_pos (by omega) o1
          obtain ⟨b2, o2', rfl, hcell⟩ := s3 hmp
          obtain ⟨i, hi, hi2, hi3, hz⟩ := ti_info hc
          have hrun := run_append_room (P := P) w t ty e' i hu hi b n L.cap cs.toArray f2 ⟨b2, o2', none⟩ m c' news (by rw [hi2]; exact s1) (fun j u hu => by rw [add_none]; exact hcell j u hu) s2 hfit (by rw [hi2]; simpa using hlen)
          rw [hi2] at hrun
          have hpv : (cs.toArray.toList.take (n * ei.size) ++ news ++ cs.toArray.toList.drop (n * ei.size + news.length)).toArray = (putV cs (n * ei.size) news).toArray := rfl
          rw [hpv] at hrun
          have hsm : ∀ x, x < w.heap.size → L.at_ ≠ some x → (w.setRow b (putV cs (n * ei.size) news).toArray).heap[x]? = w.heap[x]? := fun x _ hx => setRow_other _ fun e => hx (by rw [e]; exact b1)
          obtain ⟨m1, m2, m3⟩ := mem_app (w' := w.setRow b (putV cs (n * ei.size) news).toArray) (L := L) (R := .vec e' ei.size (N + (n + m - N)) fun i j => (joined n m g get i j).kill ref) hm hn0 hM g1 (by rw [setRow_size]; exact Nat.le_refl _) hsm (fun b hb => .inl hb)
            (fun σ' Z' hs hk => ⟨by omega, fm, .inr ⟨b, _, b1, setRow_here f2, by rw [putV_length hlen]; exact f3, putV_one fo s2, fun i j hi hj => by
              rw [putV_get hlen, s1]
              dsimp only
              unfold joined
              by_cases hin : n ≤ i ∧ i < n + m
              · rw [if_pos ((row_div hj).2 hin), if_neg (by omega), if_pos hin.2]
                obtain ⟨v, v1, v2⟩ := h2 (i - n) j (by omega) hj
                refine ⟨v, ?_, s2 v (List.mem_of_getElem? v1), SV.rel_kill hs hk _ _ v2⟩
                rw [← v1, Nat.sub_mul]
                have : n * ei.size ≤ i * ei.size := Nat.mul_le_mul_right _ hin.1
                congr 1; omega
              · rw [if_neg fun h => hin ((row_div hj).1 h)]
                obtain ⟨v, v1, v0, v2⟩ := f5 i j (by omega) hj
                refine ⟨v, v1, v0, ?_⟩
                by_cases hlt : i < n
                · rw [if_pos hlt]; exact SV.rel_kill hs hk _ _ v2
                · rw [if_neg hlt, if_neg (by omega)]; exact SV.rel_kill hs hk _ _ v2⟩⟩)
          refine ⟨.slice (some ⟨b, 0, none⟩) (n + m) L.cap, _, L, by rw [ht]; simp only [Nat.zero_mul]; rw [hrun]; rfl, m1, m2, ⟨L, some ⟨b, 0, none⟩, upd_same .., by simp, by simpa using hfit, by simp, fun _ => ⟨b, b1, by simp⟩, fun _ => .inr (by rw [b1]; rfl)⟩, ⟨rfl, rfl, rfl, by rw [setRow_size]; exact Nat.le_refl _, Nat.le_refl _, fun x hx hw => setRow_other _ fun e => ?_⟩, m3⟩
          subst e
          rcases hm.own ref _ L x hM g1 b1 with h' | h'
          · exact hw h'
          · omega
        · -- it grows
          clear hf
          have hnN : n = N := by omega
          subst hnN
          have hN : n + (n + m - n) = n + m := by omega
          rw [hN]
          have hro : rowsOf M ei.size (.sl ref ei.size 0 n none) = some (ei.size = ei.size ∧ ei.size = ei.size ∧ 0 + n ≤ n, n, fun i j => g (0 + i) j) := by simp only [rowsOf, hM]
          obtain ⟨A2, c2, olds, q1, q2, q3, q4, q5⟩ := rows_mem (x := .slice A n L.cap) hm (s := .sl ref ei.size 0 n none) ⟨L, A, g1, by simp, by simpa using g2, by simp, by simpa using g4, g5⟩ hro ⟨rfl, rfl, by omega⟩
          cases q1
          obtain ⟨cap, c1, c2, hrun⟩ := (src_slice (P := P) (c' := c') hu hc s1 s2 s3).2.2 ty A n L.cap olds g2 q2 q4 (by omega) (by unfold maxLen; omega) o3
          have hsm : ∀ o x, x < w.heap.size → L.at_ ≠ some x → (w.drew.alloc o).heap[x]? = w.heap[x]? := fun o x hx _ => heap_old w.drew o x hx
          have hjc := fun rest => joined_cells (Z := Zof B σ M w) (w := w) (rest := rest) q2 q5 s1 h2
          obtain ⟨m1, m2, m3⟩ := mem_app (w' := w.drew.alloc (.cells (olds ++ news ++ (Builtin.zeroCells ei.zeroV.cells (cap - (n + m))).toList).toArray e')) (L := ⟨some w.heap.size, cap⟩) (R := .vec e' ei.size (n + m) fun i j => (joined n m g get i j).kill ref) hm hn0 hM g1 (by simp) (hsm _) (fun b hb => .inr (by cases hb; exact Nat.le_refl _))
            (fun σ' Z' hs hk => ⟨c1, c2, .inr ⟨w.heap.size, _, rfl, heap_new w.drew _, by
              show _ = cap * ei.size
              rw [List.length_append, List.length_append, q2, s1, zeroCells_rep hc, repV_length, List.length_map, ti_len hc, ← Nat.add_mul, ← Nat.add_mul]
              congr 1; omega, by
              intro v hv
              simp only [List.mem_append] at hv
              rcases hv with (hv | hv) | hv
              · exact q3 v hv
              · exact s2 v hv
              · rw [zeroCells_rep hc] at hv; exact rep_one _ _ v hv, fun i j hi hj => by
              obtain ⟨v, v1, v2⟩ := hjc (Builtin.zeroCells ei.zeroV.cells (cap - (n + m))).toList i j hi hj
              refine ⟨v, v1, ?_, ?_⟩
              · have hv := List.mem_of_getElem? v1
                simp only [List.mem_append] at hv
                rcases hv with (hv | hv) | hv
                · exact q3 v hv
                · exact s2 v hv
                · rw [zeroCells_rep hc] at hv; exact rep_one _ _ v hv
              · have e : joined n m g get i j = joined n m (fun i j => g (0 + i) j) get i j := by simp only [Nat.zero_add]
                dsimp only
                rw [e]; exact SV.rel_kill hs hk _ _ v2⟩⟩)
          refine ⟨_, _, ⟨some w.heap.size, cap⟩, by rw [ht, hrun]; rfl, m1, m2, ⟨⟨some w.heap.size, cap⟩, _, upd_same .., by simp, by simpa using c1, by simp, fun _ => ⟨w.heap.size, rfl, by simp⟩, fun _ => .inr rfl⟩, ⟨rfl, rfl, rfl, by simp, Nat.le_succ _, fun x hx _ => heap_old w.drew _ x (show x < w.heap.size by omega)⟩, m3⟩
    · trivial
  · rename_i ref k lo n c
    split
    · rename_i e' k' N g hM
      rintro ⟨o0, o1, rfl, rfl, o2, o3, o4, o5⟩
      obtain ⟨L, A, g1, rfl, g2, g3, g4, g5⟩ := hx
      simp only [Option.getD_some] at g2 g3 g4 ⊢
      by_cases h0 : m = 0
      · subst h0
        have hn : n = 0 := by omega
        have hcz : c = 0 := by omega
        subst hn; subst hcz
        rcases hsame with ⟨_, h⟩ | ⟨ht, A', c', rfl, _⟩
        · exact absurd (h o0) (Nat.lt_irrefl 0)
        simp only [Option.getD_some] at nothing
        exact nothing A _ ⟨_, rfl⟩ (by rw [hzero (Nat.le_refl _) rfl ht ⟨_, _, rfl⟩]; rfl)
      · obtain ⟨news, hs, h2⟩ := hsrc o0 o1
        have hro : rowsOf M ei.size (.sl ref ei.size lo n (some c)) = some (ei.size = ei.size ∧ ei.size = ei.size ∧ lo + n ≤ N, n, fun i j => g (lo + i) j) := by simp only [rowsOf, hM]
        obtain ⟨A2, c2, olds, q1, q2, q3, q4, q5⟩ := rows_mem (x := .slice A n c) hm (s := .sl ref ei.size lo n (some c)) ⟨L, A, g1, by simp, by simpa using g2, by simpa using g3, by simpa using g4, g5⟩ hro ⟨rfl, rfl, o2⟩
        cases q1
        exact app_new hm hq hn0 hc hs g2 q2 q3 q4 (by omega) o5 o4 q5 h2
    · trivial
  · trivial

theorem snd_append (hT : TabOK P T) (hm : MOK B W n0 σ M F w) (hq : F nx) (hn0 : n0 ≤ w.heap.size) (t ty : TypeId) {s s' : SV} {x y : Value} (hx : s.rel σ (Zof B σ M w) w x) (hy : s'.rel σ (Zof B σ M w) w y) :
    Snd P B W n0 σ M F nx w (vrun ((Builtin.append_ #[t, t] ty #[x, y]).run P w)) (gappend T t M nx s s') := by
  unfold gappend
  split
  · rename_i sz by_ ze e hti
    have hu := und_slice (hT.ti t _ hti) rfl
    split
    · trivial
    rename_i ei hei
    have hc := hT.ti e ei hei
    split
    · trivial
    rename_i ob m get hrows
    by_cases hob : ob
    · obtain ⟨A, c, news, rfl, n1, n2, n3, n4⟩ := rows_mem hm hy hrows hob
      exact snd_gapp hT hm hq hn0 t ty e hu hc hx (fun _ _ => ⟨news, src_slice hu hc n1 n2 n3, n4⟩) (.inr ⟨rfl, A, c, rfl, fun _ => ⟨news, ⟨n1, n2, n3⟩, n4⟩⟩)
    · unfold gapp
      repeat' split
      all_goals first | trivial | exact fun h => absurd h.1 hob
  · trivial

theorem snd_appendZ (hT : TabOK P T) (hm : MOK B W n0 σ M F w) (hq : F nx) (hn0 : n0 ≤ w.heap.size) (t t' ty : TypeId) {s s' : SV} {x y : Value} (hx : s.rel σ (Zof B σ M w) w x) (hy : s'.rel σ (Zof B σ M w) w y) :
    Snd P B W n0 σ M F nx w (vrun ((Builtin.append_ #[t, t'] ty #[x, y]).run P w)) (gappendZ T t t' M nx s s') := by
  unfold gappendZ
  split
  · rename_i sz by_ ze e k m hti hti'
    have hu := und_slice (hT.ti t _ hti) rfl
    cases hy
    have hz : ∃ i', T.ti t' = some i' ∧ i'.kind = .int k := by
      cases hq : T.ti t' with
      | none => rw [hq] at hti'; cases hti'
      | some i' => rw [hq] at hti'; simp at hti'; exact ⟨i', rfl, hti'⟩
    obtain ⟨i', hi', hk'⟩ := hz
    have huz := und_int (hT.ti t' i' hi') hk'
    split
    · trivial
    rename_i ei hei
    have hc := hT.ti e ei hei
    split
    · rename_i ref k0 lo n c
      refine snd_gapp hT hm hq hn0 t ty e hu hc hx (fun hob hsz => ?_) (.inl ⟨⟨_, _, _, _, _, rfl⟩, fun hob => by omega⟩)
      obtain ⟨h1, h2, h3⟩ := hob
      obtain ⟨q, rfl⟩ : ∃ q : Nat, m = q := ⟨m.toNat, by omega⟩
      simp only [Int.toNat_natCast]
      refine ⟨repV (ei.zero.map ZK.val) q, src_zeros hu huz hc hsz (by omega) (by rw [← Int.natCast_mul] at h2; omega) (by omega), fun i j hi hj => ?_⟩
      obtain ⟨v, v1, _, v2⟩ := rep_rows (w := w) hc hi hj (Zof B σ M w)
      exact ⟨v, v1, v2⟩
    · trivial
  · trivial
end
end Go.Gx
/-
  Each operation does what 'gop' says: copy, clear, len, min, max; all operations.
-/
set_option linter.unusedVariables false
set_option linter.unusedSimpArgs false
namespace Go.Gx
open Go.RowKit

section
variable {P : Program} {T : Tab} {B W F : Nat → Prop} {n0 : Nat} {σ : Sig} {M : Mem} {nx : Nat} {w : World} {a : Act} {E : Env}

/-- Rows written into a region. -/
theorem set_rows (hm : MOK B W n0 σ M F w) {ref : Nat} {e k N : Nat} {g : Nat → Nat → SV} (hM : M ref = some (.vec e k N g)) {L : Loc} {b : Nat} (hσ : σ ref = some L) (hb : L.at_ = some b) {cs : List Value} (hh : w.heap[b]? = some (.cells cs.toArray e (0, 0)))
    (hcs : cs.length = L.cap * k) {lo cnt : Nat} {vs : List Value} (hv : vs.length = cnt * k) (hle : lo + cnt ≤ N) (h1 : ∀ v ∈ vs, v.oneCell' = true) {h : Nat → Nat → SV}
    (hnew : ∀ i j, i < cnt → j < k → ∃ v, vs[i * k + j]? = some v ∧ v.oneCell' = true ∧ (h i j).rel σ (Zof B σ M w) w v) :
    MOK B W n0 σ (upd M ref (some (.vec e k N fun i j => if lo ≤ i ∧ i < lo + cnt then h (i - lo) j else g i j))) F (w.setRow b (putV cs (lo * k) vs).toArray) ∧
      Keep (Zof B σ M w) (Zof B σ (upd M ref (some (.vec e k N fun i j => if lo ≤ i ∧ i < lo + cnt then h (i - lo) j else g i j))) (w.setRow b (putV cs (lo * k) vs).toArray)) w (w.setRow b (putV cs (lo * k) vs).toArray) := by
  obtain ⟨L', e1, e2⟩ := hm.reg ref _ hM
  rw [hσ] at e1; cases e1
  obtain ⟨f0, fm, f | ⟨b', cs', f1, f2, f3, fo, f5⟩⟩ := e2
  · rw [hb] at f; cases f.1
  rw [hb] at f1; cases f1
  rw [hh] at f2; cases f2
  have hfit : lo * k + vs.length ≤ cs.length := by rw [hv, hcs, ← Nat.add_mul]; exact Nat.mul_le_mul_right k (by omega)
  refine mem_set hm hM hσ hb (setRow_size ..) (fun x hx => setRow_other _ hx) fun Z' hk => ⟨f0, fm, .inr ⟨b, _, hb, setRow_here hh, by rw [putV_length hfit]; exact hcs, putV_one fo h1, fun i j hi hj => ?_⟩⟩
  rw [putV_get hfit, hv]
  by_cases hin : lo ≤ i ∧ i < lo + cnt
  · rw [if_pos ((row_div hj).2 hin)]
    dsimp only
    rw [if_pos hin]
    obtain ⟨v, v1, v0, v2⟩ := hnew (i - lo) j (by omega) hj
    refine ⟨v, ?_, v0, SV.rel_mono (fun _ _ h => h) hk _ _ v2⟩
    rw [← v1, Nat.sub_mul]
    have : lo * k ≤ i * k := Nat.mul_le_mul_right k hin.1
    congr 1; omega
  · rw [if_neg fun h => hin ((row_div hj).1 h)]
    dsimp only
    rw [if_neg hin]
    obtain ⟨v, v1, v0, v2⟩ := f5 i j hi hj
    exact ⟨v, v1, v0, SV.rel_mono (fun _ _ h => h) hk _ _ v2⟩

theorem run_storeRow {b o : Nat} {cs vs : List Value} {ty : TypeId} (hb : w.heap[b]? = some (.cells cs.toArray ty (0, 0))) (ho : o + vs.length ≤ cs.length) (h1 : ∀ v ∈ vs, v.oneCell' = true) :
    (storeCells ⟨b, o, none⟩ vs).run P w = .ok () (w.setRow b (putV cs o vs).toArray) := by
  have := run_storeCells_at P b o ty vs 0 cs.toArray w hb (by simpa using ho) h1
  simpa [putV] using this

theorem snd_copy (hT : TabOK P T) (hm : MOK B W n0 σ M F w) (t t' ty : TypeId) {s s' : SV} {x y : Value} (hx : s.rel σ (Zof B σ M w) w x) (hy : s'.rel σ (Zof B σ M w) w y) :
    Snd P B W n0 σ M F nx w (vrun ((Builtin.copy_ #[t, t'] ty #[x, y]).run P w)) (gcopy T t M s s') := by
  unfold gcopy
  split
  · rename_i sz by_ ze e hti
    have hu := und_slice (hT.ti t _ hti) rfl
    split
    · trivial
    rename_i ei hei
    have hc := hT.ti e ei hei
    split
    · rename_i ob m get ref k lo n c hrows
      split
      · rename_i e' k' N g hM
        rintro ⟨o0, rfl, rfl, o3⟩
        obtain ⟨A, c2, news, rfl, n1, n2, n3, n4⟩ := rows_mem hm hy hrows o0
        obtain ⟨L, A', g1, rfl, g2, g3, g4, g5⟩ := hx
        obtain ⟨L', e1, e2⟩ := hm.reg ref _ hM
        rw [g1] at e1; cases e1
        have hcnt : min m n ≤ m ∧ min m n ≤ n := ⟨Nat.min_le_left .., Nat.min_le_right ..⟩
        by_cases h0 : min m n * ei.size = 0
        · -- nothing is copied
          have hrun : (Builtin.copy_ #[t, t'] ty #[.slice A' n (c.getD (L.cap - lo)), .slice A m c2]).run P w = .ok (goInt (min m n : Nat)) w := by
            simp only [Builtin.copy_]
            simp [run_underlying hu, Builtin.lenOf, run_size hc, h0]
            cases A <;> cases A' <;> simp [Builtin.firstCells, h0, loadCells, loadCellsFrom, storeCells]
          obtain ⟨m1, m2⟩ := set_same (R' := .vec e' ei.size N fun i j => if lo ≤ i ∧ i < lo + min m n then get (i - lo) j else g i j) hm hM (fun L Z w' _ h => by
            obtain ⟨q0, qm, q⟩ := h
            refine ⟨q0, qm, q.imp id fun ⟨b, cs, q1, q2, q3, qo, q4⟩ => ⟨b, cs, q1, q2, q3, qo, fun i j hi hj => ?_⟩⟩
            have hz : min m n = 0 := by
              rcases Nat.mul_eq_zero.1 h0 with h | h
              · exact h
              · omega
            dsimp only
            rw [hz, if_neg (by omega)]
            exact q4 i j hi hj)
          exact ⟨_, w, .inl (by rw [hrun]; rfl), m1, m2, rfl, FrS.refl ..⟩
        · have hpos : 0 < min m n := by
            rcases Nat.eq_zero_or_pos (min m n) with h | h
            · rw [h] at h0; simp at h0
            · exact h
          have hsz : 0 < ei.size := by
            rcases Nat.eq_zero_or_pos ei.size with h | h
            · rw [h] at h0; simp at h0
            · exact h
          obtain ⟨b, q1, rfl⟩ := g4 (by omega)
          obtain ⟨b2, o2, rfl, hcell⟩ := n3 (Nat.mul_pos (by omega) hsz)
          obtain ⟨f0, fm, f | ⟨b', cs, f1, f2, f3, fo, f5⟩⟩ := e2
          · rw [q1] at f; cases f.1
          rw [q1] at f1; cases f1
          have hlen : (news.take (min m n * ei.size)).length = min m n * ei.size := by
            rw [List.length_take, n1]; exact Nat.min_eq_left (Nat.mul_le_mul_right _ hcnt.1)
          have hload := run_loadCells_list (P := P) w ⟨b2, o2, none⟩ (news.take (min m n * ei.size)) (fun j v hv => by
            rw [List.getElem?_take] at hv
            split at hv
            · rw [add_none]; exact hcell j v hv
            · cases hv)
          rw [hlen] at hload
          have hfit : lo * ei.size + (news.take (min m n * ei.size)).length ≤ cs.length := by rw [hlen, f3, ← Nat.add_mul]; exact Nat.mul_le_mul_right _ (by omega)
          have hst := run_storeRow (P := P) f2 hfit (fun v hv => n2 v (List.mem_of_mem_take hv))
          have hrun : (Builtin.copy_ #[t, t'] ty #[.slice (some ⟨b, lo * ei.size, none⟩) n (c.getD (L.cap - lo)), .slice (some ⟨b2, o2, none⟩) m c2]).run P w = .ok (goInt (min m n : Nat)) (w.setRow b (putV cs (lo * ei.size) (news.take (min m n * ei.size))).toArray) := by
            simp only [Builtin.copy_]
            simp only [List.getElem?_toArray, List.getElem?_cons_zero, List.getElem?_cons_succ, Sem.run_bind, run_underlying hu, Result.andThen_ok, Builtin.lenOf, Sem.run_pure, run_size hc, Builtin.firstCells]
            rw [show Nat.min m n = min m n from rfl, hload]
            simp only [Result.andThen_ok]
            rw [hst]
            rfl
          obtain ⟨m1, m2⟩ := set_rows (lo := lo) (cnt := min m n) (h := get) hm hM g1 q1 f2 f3 hlen (by omega) (fun v hv => n2 v (List.mem_of_mem_take hv)) (fun i j hi hj => by
            obtain ⟨v, v1, v2⟩ := n4 i j (by omega) hj
            refine ⟨v, ?_, n2 v (List.mem_of_getElem? v1), v2⟩
            rw [List.getElem?_take, if_pos (row_lt hi hj)]; exact v1)
          exact ⟨_, _, .inl (by rw [hrun]; rfl), m1, m2, rfl, FrS.setRow hm hM g1 q1 _⟩
      · trivial
    · trivial
  · trivial

theorem snd_clear (hT : TabOK P T) (hm : MOK B W n0 σ M F w) (t ty : TypeId) {s : SV} {x : Value} (hx : s.rel σ (Zof B σ M w) w x) :
    Snd P B W n0 σ M F nx w (vrun ((Builtin.clear_ #[t] ty #[x]).run P w)) (gclear T t M s) := by
  unfold gclear
  split
  · rename_i sz by_ ze e hti
    have hu := und_slice (hT.ti t _ hti) rfl
    split
    · trivial
    rename_i ei hei
    have hc := hT.ti e ei hei
    split
    · rename_i ref k lo n c
      split
      · rename_i e' k' N g hM
        rintro ⟨rfl, rfl, o3⟩
        obtain ⟨L, A', g1, rfl, g2, g3, g4, g5⟩ := hx
        obtain ⟨L', e1, e2⟩ := hm.reg ref _ hM
        rw [g1] at e1; cases e1
        by_cases h0 : n = 0
        · subst h0
          have hrun : (Builtin.clear_ #[t] ty #[.slice A' 0 (c.getD (L.cap - lo))]).run P w = .ok (.tuple #[]) w := by
            simp only [Builtin.clear_]
            cases A' <;> simp [run_underlying hu]
          obtain ⟨m1, m2⟩ := set_same (R' := .vec e' ei.size N fun i j => if lo ≤ i ∧ i < lo + 0 then (match ei.zero[j]? with | some z => .r (.v z.val) | none => .r .any) else g i j) hm hM (fun L Z w' _ h => by
            obtain ⟨q0, qm, q⟩ := h
            refine ⟨q0, qm, q.imp id fun ⟨b, cs, q1, q2, q3, qo, q4⟩ => ⟨b, cs, q1, q2, q3, qo, fun i j hi hj => ?_⟩⟩
            dsimp only
            rw [if_neg (by omega)]
            exact q4 i j hi hj)
          exact ⟨_, w, .inl (by rw [hrun]; rfl), m1, m2, ⟨[], rfl, rfl⟩, FrS.refl ..⟩
        · obtain ⟨b, q1, rfl⟩ := g4 (by omega)
          obtain ⟨f0, fm, f | ⟨b', cs, f1, f2, f3, fo, f5⟩⟩ := e2
          · rw [q1] at f; cases f.1
          rw [q1] at f1; cases f1
          have hzc := zeroV_cells hc
          have hlz := ti_len hc
          have hze : (Builtin.zeroCells ei.zeroV.cells n).toList = repV (ei.zero.map ZK.val) n := by
            unfold Builtin.zeroCells
            rcases Nat.eq_zero_or_pos ei.zero.length with h | h
            · have : ei.zeroV.cells.size = 0 := by rw [← Array.length_toList, hzc]; simp [h]
              have h2 : ei.zero = [] := List.eq_nil_of_length_eq_zero h
              rw [this, h2]
              have : ∀ n, repV ([] : List Value) n = [] := by intro n; induction n with
                | zero => rfl
                | succ n ih => simp [repV, ih]
              simp [this]
            · have := zeros_eq n h ei.zeroV.cells hzc
              have h3 : ei.zeroV.cells.size = ei.zero.length := by rw [← Array.length_toList, hzc]; simp
              rw [h3, show (Array.range (n * ei.zero.length)).map (fun i => ei.zeroV.cells[i % ei.zero.length]!) = (Array.range (n * ei.zero.length)).map (fun i => ei.zeroV.cells[i % ei.zeroV.cells.size]!) from by rw [h3], this]
          have hlen : (repV (ei.zero.map ZK.val) n).length = n * ei.size := by rw [repV_length, List.length_map, hlz]
          have hfit : lo * ei.size + (repV (ei.zero.map ZK.val) n).length ≤ cs.length := by rw [hlen, f3, ← Nat.add_mul]; exact Nat.mul_le_mul_right _ (by omega)
          have hone : ∀ v ∈ repV (ei.zero.map ZK.val) n, v.oneCell' = true := by
            intro v hv
            obtain ⟨j, hj, rfl⟩ := List.getElem_of_mem hv
            have h1 := repV_get (ei.zero.map ZK.val) n j (by rw [repV_length] at hj; exact hj)
            rw [List.getElem?_eq_getElem hj] at h1
            have := List.mem_of_getElem? h1.symm
            obtain ⟨z, _, hz⟩ := List.mem_map.1 this
            rw [← hz]; exact ZK.val_one z
          have hst := run_storeRow (P := P) f2 hfit hone
          have hrun : (Builtin.clear_ #[t] ty #[.slice (some ⟨b, lo * ei.size, none⟩) n (c.getD (L.cap - lo))]).run P w = .ok (.tuple #[]) (w.setRow b (putV cs (lo * ei.size) (repV (ei.zero.map ZK.val) n)).toArray) := by
            simp only [Builtin.clear_]
            simp only [List.getElem?_toArray, List.getElem?_cons_zero, Sem.run_bind, run_underlying hu, Result.andThen_ok]
            cases n with
            | zero => omega
            | succ n =>
              rw [run_zero hc, Result.andThen_ok]
              rw [hze, hst]
              rfl
          obtain ⟨m1, m2⟩ := set_rows (lo := lo) (cnt := n) (h := fun i j => (match ei.zero[j]? with | some z => SV.r (.v z.val) | none => .r .any)) hm hM g1 q1 f2 f3 hlen (by omega) hone (fun i j hi hj => by
            rw [repV_get _ _ _ (by rw [List.length_map, hlz]; exact row_lt hi hj)]
            have : (i * ei.size + j) % ei.size = j := by rw [Nat.mul_comm, Nat.mul_add_mod]; exact Nat.mod_eq_of_lt hj
            rw [List.length_map, hlz, this, List.getElem?_map]
            have hj' : j < ei.zero.length := by omega
            rw [List.getElem?_eq_getElem hj']
            exact ⟨_, rfl, ZK.val_one _, rfl⟩)
          exact ⟨_, _, .inl (by rw [hrun]; rfl), m1, m2, ⟨[], rfl, rfl⟩, FrS.setRow hm hM g1 q1 _⟩
      · trivial
    · cases hx
      intro _
      exact POut.of (y := .tuple #[]) (by simp [Builtin.clear_, run_underlying hu]) ⟨[], rfl, rfl⟩
    · trivial
  · trivial

theorem snd_len (hT : TabOK P T) (t ty : TypeId) {s : SV} {x : Value} (hx : s.rel σ (Zof B σ M w) w x) :
    Snd P B W n0 σ M F nx w (vrun ((Builtin.len_ #[t] ty #[x]).run P w)) (glen T t s) := by
  unfold glen
  split
  · rename_i sz by_ ze e hti
    have hu := und_slice (hT.ti t _ hti) rfl
    split
    · obtain ⟨A, c, rfl, _⟩ := hx
      intro _
      exact POut.of (by simp [Builtin.len_, run_underlying hu]; rfl) rfl
    · obtain ⟨A, rfl, _⟩ := hx
      intro _
      exact POut.of (by simp [Builtin.len_, run_underlying hu]; rfl) rfl
    · obtain ⟨L, A, _, rfl, _⟩ := hx
      intro _
      exact POut.of (by simp [Builtin.len_, run_underlying hu]; rfl) rfl
    · cases hx
      intro _
      exact POut.of (by simp [Builtin.len_, run_underlying hu]; rfl) rfl
    · trivial
  · rename_i sz by_ ze n es g hti
    obtain ⟨e, hu, _, _⟩ := und_array (hT.ti t _ hti) rfl
    intro _
    exact POut.of (by simp [Builtin.len_, run_underlying hu]; rfl) rfl
  · trivial

theorem snd_max (ts : Array TypeId) (ty : TypeId) {l : List SV} {vs : List Value} (hx : SV.relL σ (Zof B σ M w) w l vs) :
    Snd P B W n0 σ M F nx w (vrun ((Builtin.max_ ts ty vs.toArray).run P w)) (gminmax true l) := by
  unfold gminmax
  split
  · rename_i x y
    obtain ⟨_, _, rfl, e1, _, _, rfl, e2, e3⟩ := hx
    cases e1; cases e2; cases e3
    intro _
    refine POut.of (y := .int .i64 (max x y)) ?_ rfl
    simp [Builtin.max_, Builtin.max2]
    split <;> omega
  · rename_i x y z
    obtain ⟨_, _, rfl, e1, _, _, rfl, e2, _, _, rfl, e3, e4⟩ := hx
    cases e1; cases e2; cases e3; cases e4
    intro _
    refine POut.of (y := .int .i64 (max (max x y) z)) ?_ rfl
    simp [Builtin.max_, Builtin.max2]
    split <;> split <;> omega
  · trivial
theorem snd_min (ts : Array TypeId) (ty : TypeId) {l : List SV} {vs : List Value} (hx : SV.relL σ (Zof B σ M w) w l vs) :
    Snd P B W n0 σ M F nx w (vrun ((Builtin.min_ ts ty vs.toArray).run P w)) (gminmax false l) := by
  unfold gminmax
  split
  · rename_i x y
    obtain ⟨_, _, rfl, e1, _, _, rfl, e2, e3⟩ := hx
    cases e1; cases e2; cases e3
    intro _
    refine POut.of (y := .int .i64 (min x y)) ?_ rfl
    simp [Builtin.min_, Builtin.min2]
    split <;> omega
  · rename_i x y z
    obtain ⟨_, _, rfl, e1, _, _, rfl, e2, _, _, rfl, e3, e4⟩ := hx
    cases e1; cases e2; cases e3; cases e4
    intro _
    refine POut.of (y := .int .i64 (min (min x y) z)) ?_ rfl
    simp [Builtin.min_, Builtin.min2]
    split <;> split <;> omega
  · trivial
end
end Go.Gx
/-
  Each operation does what 'gop' says: maps by integers, new slices, fields and elements of values.
-/
set_option linter.unusedVariables false
set_option linter.unusedSimpArgs false
namespace Go.Gx
open Go.RowKit Go.MapKept Go.ChangeMaps

section
variable {P : Program} {T : Tab} {B W F : Nat → Prop} {n0 : Nat} {σ : Sig} {M : Mem} {nx : Nat} {w : World} {a : Act} {E : Env}

theorem mapE_spec (hT : TabOK P T) {t e : TypeId} (h : mapE T t = some e) : ∃ k, P.underlying t = some (.map k e) ∧ P.underlying k = some (.int .i64) := by
  unfold mapE at h
  split at h
  · rename_i sz by_ ze k e' hti
    split at h
    · rename_i s1 b1 z1 hk
      cases h
      exact ⟨k, und_map (hT.ti t _ hti) rfl, und_int (hT.ti k _ hk) rfl⟩
    · cases h
  · cases h

theorem int_isKey (a : Int) : MapKept.IsKey (.int .i64) (.int .i64 a) := rfl
theorem keyOK_int {k : TypeId} (hk : P.underlying k = some (.int .i64)) : KeyOK P k .i where
  check w em a := MapKept.run_checkKey (d := .int .i64) hk (int_isKey a) _ 9999
  find w a es hes := by
    have hkeys : ∀ x ∈ es, MapKept.IsKey (.int .i64) x.key := fun x hx => by
      obtain ⟨b, h1⟩ := hes x hx
      rw [h1]; rfl
    show ((Instr.findKey k (.int .i64 a) es).run P w = _ ∧ _) ∨ _
    rcases MapKept.findNow_spec (d := .int .i64) (k := .int .i64 a) rfl es 0 hkeys with ⟨h1, h2⟩ | ⟨j, e, h1, h2, h3⟩
    · exact .inl ⟨MapKept.run_findKey hk h1, h2⟩
    · exact .inr ⟨j, e, by rw [show KK.i.val a = .int .i64 a from rfl, MapKept.run_findKey hk h1]; simp, h2, h3⟩
  stays w a := MapKept.run_keyThatStays (P := P) (w := w) (d := .int .i64) (k := .int .i64 a) rfl
theorem mapK_spec (hT : TabOK P T) {t e : TypeId} {kd : KK} (h : mapK T t = some (kd, e)) : ∃ k, P.underlying t = some (.map k e) ∧ KeyOK P k kd := by
  unfold mapK at h
  split at h
  · rename_i e' he
    cases h
    obtain ⟨k, h1, h2⟩ := mapE_spec hT he
    exact ⟨k, h1, keyOK_int h2⟩
  · split at h
    · rename_i sz by_ ze k e' hti
      split at h
      · rename_i kd' hk
        cases h
        exact ⟨k, und_map (hT.ti t _ hti) rfl, hT.key _ _ hk⟩
      · cases h
    · cases h

/-- What is handed in as a key. -/
theorem KK.code_rel {kd : KK} {s : SV} {g : Prop} {a : Int} {y : Value} {Z : Nat → Prop} (h : kd.code s = some (g, a)) (hg : g) (hy : s.rel σ Z w y) : y = kd.val a := by
  unfold KK.code at h
  split at h
  · cases h; cases hy; rfl
  · rename_i a b
    cases h
    obtain ⟨vs, rfl, _, v1, l1, rfl, h1, v2, l2, rfl, h2, rfl⟩ := hy
    cases h1; cases h2
    obtain ⟨g1, g2⟩ := hg
    show Value.agg #[.int .i64 a, .int .i64 b] = Value.agg #[.int .i64 ((a * 4294967296 + b) / 4294967296), .int .i64 ((a * 4294967296 + b) % 4294967296)]
    rw [show (a * 4294967296 + b) / 4294967296 = a by omega, show (a * 4294967296 + b) % 4294967296 = b by omega]
  · rename_i a b
    cases h
    obtain ⟨vs, rfl, _, v1, l1, rfl, h1, v2, l2, rfl, h2, rfl⟩ := hy
    cases h1; cases h2
    show Value.agg #[.int .i64 a, .bool b] = Value.agg #[.int .i64 ((a * 2 + (if b = true then 1 else 0)) / 2), .bool (decide ((a * 2 + (if b = true then 1 else 0)) % 2 = 1))]
    cases b
    · rw [show (a * 2 + (if false = true then 1 else 0)) / 2 = a by (simp <;> omega), show decide ((a * 2 + (if false = true then 1 else 0)) % 2 = 1) = false by (simp <;> omega)]
    · rw [show (a * 2 + (if true = true then 1 else 0)) / 2 = a by (simp <;> omega), show decide ((a * 2 + (if true = true then 1 else 0)) % 2 = 1) = true by (simp <;> omega)]
  · cases h
theorem KK.sv_rel (kd : KK) (a : Int) (Z : Nat → Prop) : (kd.sv a).rel σ Z w (kd.val a) := by
  cases kd
  · rfl
  · exact ⟨_, rfl, by simp [Value.oneCell'], _, _, rfl, rfl, _, _, rfl, rfl, rfl⟩
  · exact ⟨_, rfl, by simp [Value.oneCell'], _, _, rfl, rfl, _, _, rfl, rfl, rfl⟩

/-- What a look-up finds. -/
theorem MapOf.find {kd : KK} {has : Int → Bool} {R : Int → Value → Prop} {es : List MapEntry} {ck : Nat} (h : MapOf kd has R es ck) {kt : TypeId} (hk : KeyOK P kt kd) (a : Int) :
    (has a = false ∧ (Instr.findKey kt (kd.val a) es).run P w = .ok none w ∧ ∀ e ∈ es, e.key ≠ kd.val a) ∨
    (has a = true ∧ ∃ j e, (Instr.findKey kt (kd.val a) es).run P w = .ok (some (j, e.val)) w ∧ es[j]? = some e ∧ e.key = kd.val a ∧ e.val.oneCell' = true ∧ R a e.val) := by
  rcases hk.find w a es (fun x hx => let ⟨b, h1, _⟩ := h.1 x hx; ⟨b, h1⟩) with ⟨h1, h2⟩ | ⟨j, e, h1, h2, h3⟩
  · refine .inl ⟨?_, h1, h2⟩
    cases hh : has a with
    | false => rfl
    | true => obtain ⟨e, he, hk'⟩ := h.2.1 a hh; exact absurd hk' (h2 e he)
  · obtain ⟨a', e1, e2, e3, e4⟩ := h.1 e (List.mem_of_getElem? h2)
    have := KK.val_inj (h3.symm.trans e1)
    subst this
    exact .inr ⟨e2, j, e, h1, h2, h3, e3, e4⟩

theorem okPair_rel {Z : Nat → Prop} {s : SV} {v : Value} (ok b : Bool) (h : s.rel σ Z w v) : (okPair ok s b).rel σ Z w (if ok then .tuple #[v, .bool b] else v) := by
  cases ok
  · exact h
  · exact ⟨[v, .bool b], rfl, v, _, rfl, h, _, _, rfl, rfl, rfl⟩

theorem snd_lookup (hT : TabOK P T) (hm : MOK B W n0 σ M F w) (t : TypeId) (ok : Bool) {s s' : SV} {x y : Value} (hx : s.rel σ (Zof B σ M w) w x) (hy : s'.rel σ (Zof B σ M w) w y) :
    Snd P B W n0 σ M F nx w (vrun ((Instr.lookup t x y ok).run P w)) (glookup T M t s s' ok) := by
  unfold glookup
  split
  · trivial
  rename_i kd e he
  obtain ⟨k, hu, hk⟩ := mapK_spec hT he
  split
  · trivial
  rename_i ei hei
  have hz := run_zero (hT.ti e ei hei) w
  split
  · trivial
  split
  · rename_i g a hcode
    -- from what is in memory
    have key : ∀ (b : Nat) (es : Array MapEntry) (ck : Nat) (has : Int → Bool) (val : Int → SV), x = .map (some b) → w.heap[b]? = some (.map es ck) → MapOf kd has (fun a v => (val a).rel σ (Zof B σ M w) w v) es.toList ck →
        Snd P B W n0 σ M F nx w (vrun ((Instr.lookup t x y ok).run P w)) (gget g ok (has a) (val a) (.r (.v ei.zeroV))) := by
      intro b es ck has val ex hb hmo
      subst ex
      unfold gget
      rcases hmo.find (P := P) (w := w) hk a with ⟨h1, h2, h3⟩ | ⟨h1, j, en, h2, h3, h4, h5, h6⟩
      · rw [if_neg (by rw [h1]; simp)]
        intro hg
        rw [KK.code_rel hcode hg hy]
        refine POut.of (y := if ok then .tuple #[ei.zeroV, .bool false] else ei.zeroV) ?_ (okPair_rel ok false rfl)
        simp [Instr.lookup, run_underlying hu, MapKept.run_getObj_map hb, hk.check, h2, hz, Result.andThen]
      · rw [if_pos h1]
        intro hg
        rw [KK.code_rel hcode hg hy]
        refine POut.of (y := if ok then .tuple #[en.val, .bool true] else en.val) ?_ (okPair_rel ok true h6)
        simp [Instr.lookup, run_underlying hu, MapKept.run_getObj_map hb, hk.check, h2, Result.andThen]
    split
    · rename_i ref
      obtain ⟨L, b, g1, g2, g3⟩ := hx
      split
      · rename_i kd' has val st hM
        split
        · rename_i hkd
          subst hkd
          obtain ⟨L', e1, b', es, ck, f1, f2, f3, f4⟩ := hm.reg ref _ hM
          rw [g1] at e1; cases e1
          rw [g2] at f1; cases f1
          exact key b es ck has val g3 f2 f3
        · trivial
      · trivial
    · rename_i kd' has val
      split
      · rename_i hkd
        subst hkd
        obtain ⟨b, es, ck, g1, g2, g3, g4⟩ := hx
        exact key b es ck has (fun a => .r (val a)) g1 g3 g4
      · trivial
    · cases hx
      intro hg
      rw [KK.code_rel hcode hg hy]
      refine POut.of (y := if ok then .tuple #[ei.zeroV, .bool false] else ei.zeroV) ?_ (okPair_rel ok false rfl)
      have hf : (Instr.findKey k (kd.val a) []).run P w = .ok none w := by
        rcases hk.find w a [] (by simp) with ⟨h1, _⟩ | ⟨j, e, _, h2, _⟩
        · exact h1
        · simp at h2
      simp [Instr.lookup, run_underlying hu, hk.check, hf, hz, Result.andThen]
    · trivial
  · trivial

/-- A map whose entry at one key is another one. -/
theorem MapOf.put {kd : KK} {has : Int → Bool} {R R' : Int → Value → Prop} {es : List MapEntry} {ck : Nat} (h : MapOf kd has R es ck) {a : Int} {y : Value} {j : Nat} {e : MapEntry} (hj : es[j]? = some e) (hk : e.key = kd.val a) (h1 : y.oneCell' = true) (hy : R' a y)
    (hr : ∀ b v, b ≠ a → R b v → R' b v) : MapOf kd (fun k => if k = a then true else has k) R' (es.set j { e with key := kd.val a, val := y }) ck := by
  obtain ⟨q1, q2, q3, q4⟩ := h
  have hlt : j < es.length := (List.getElem?_eq_some_iff.1 hj).1
  have hej : es[j] = e := (List.getElem?_eq_some_iff.1 hj).2
  refine ⟨fun e' he' => ?_, fun b hb => ?_, ?_, fun e' he' => ?_⟩
  · obtain ⟨i, hi, rfl⟩ := List.getElem_of_mem he'
    rw [List.getElem_set]
    by_cases hij : j = i
    · rw [if_pos hij]; exact ⟨a, rfl, by simp, h1, hy⟩
    · rw [if_neg hij]
      have hi' : i < es.length := by simpa using hi
      obtain ⟨b, e1, e2, e3, e4⟩ := q1 es[i] (List.getElem_mem hi')
      have hne : b ≠ a := by
        rintro rfl
        have hp := List.pairwise_iff_getElem.1 q3
        rcases Nat.lt_or_ge i j with hlt' | hge
        · exact (hp i j hi' hlt hlt').1 (by rw [e1, hej, hk])
        · exact (hp j i hlt hi' (by omega)).1 (by rw [e1, hej, hk])
      exact ⟨b, e1, by dsimp only; rw [if_neg hne]; exact e2, e3, hr b _ hne e4⟩
  · dsimp only at hb
    by_cases hba : b = a
    · subst hba
      exact ⟨{ e with key := kd.val b, val := y }, List.mem_of_getElem? (i := j) (by rw [List.getElem?_set, if_pos rfl, if_pos hlt]), rfl⟩
    · rw [if_neg hba] at hb
      obtain ⟨e', m1, m2⟩ := q2 b hb
      obtain ⟨i, hi, rfl⟩ := List.getElem_of_mem m1
      have hij : j ≠ i := by
        rintro rfl
        rw [hej, hk] at m2
        exact hba (KK.val_inj m2.symm)
      exact ⟨es[i], List.mem_of_getElem? (i := i) (by rw [List.getElem?_set, if_neg hij]; exact List.getElem?_eq_getElem hi), m2⟩
  · rw [List.pairwise_iff_getElem] at q3 ⊢
    intro i i' hi hi' hlt'
    rw [List.length_set] at hi hi'
    have base := q3 i i' hi hi' hlt'
    rw [List.getElem_set, List.getElem_set]
    by_cases c1 : j = i
    · subst c1
      rw [if_pos rfl, if_neg (by omega)]
      rw [hej] at base
      exact ⟨fun h => base.1 (by rw [hk]; exact h), base.2⟩
    · rw [if_neg c1]
      by_cases c2 : j = i'
      · subst c2
        rw [if_pos rfl]
        rw [hej] at base
        exact ⟨fun h => base.1 (by rw [hk]; exact h), base.2⟩
      · rw [if_neg c2]; exact base
  · obtain ⟨i, hi, rfl⟩ := List.getElem_of_mem he'
    rw [List.getElem_set]
    split
    · exact q4 e (List.mem_of_getElem? hj)
    · exact q4 _ (List.getElem_mem _)
theorem MapOf.add {kd : KK} {has : Int → Bool} {R R' : Int → Value → Prop} {es : List MapEntry} {ck : Nat} (h : MapOf kd has R es ck) {a : Int} {y : Value} (hn : ∀ e ∈ es, e.key ≠ kd.val a) (h1 : y.oneCell' = true) (hy : R' a y)
    (hr : ∀ b v, b ≠ a → R b v → R' b v) : MapOf kd (fun k => if k = a then true else has k) R' (es ++ [{ key := kd.val a, val := y, born := ck }]) (ck + 1) := by
  obtain ⟨q1, q2, q3, q4⟩ := h
  refine ⟨fun e' he' => ?_, fun b hb => ?_, ?_, fun e' he' => ?_⟩
  · rcases List.mem_append.1 he' with h | h
    · obtain ⟨b, e1, e2, e3, e4⟩ := q1 e' h
      have hne : b ≠ a := by rintro rfl; exact hn e' h e1
      exact ⟨b, e1, by dsimp only; rw [if_neg hne]; exact e2, e3, hr b _ hne e4⟩
    · simp at h; subst h; exact ⟨a, rfl, by simp, h1, hy⟩
  · dsimp only at hb
    by_cases hba : b = a
    · subst hba; exact ⟨_, List.mem_append.2 (.inr (List.mem_singleton.2 rfl)), rfl⟩
    · rw [if_neg hba] at hb
      obtain ⟨e', m1, m2⟩ := q2 b hb
      exact ⟨e', List.mem_append.2 (.inl m1), m2⟩
  · refine List.pairwise_append.2 ⟨q3, List.pairwise_singleton .., fun x hx y' hy' => ?_⟩
    simp at hy'; subst hy'
    exact ⟨hn x hx, Nat.ne_of_lt (q4 x hx)⟩
  · rcases List.mem_append.1 he' with h | h
    · exact Nat.lt_succ_of_lt (q4 e' h)
    · simp at h; subst h; exact Nat.lt_succ_self _
/-- A map less one key. -/
theorem MapOf.del {kd : KK} {has : Int → Bool} {R R' : Int → Value → Prop} {es : List MapEntry} {ck : Nat} (h : MapOf kd has R es ck) {a : Int} {j : Nat} {e : MapEntry} (hj : es[j]? = some e) (hk : e.key = kd.val a)
    (hr : ∀ b v, R b v → R' b v) : MapOf kd (fun k => if k = a then false else has k) R' (es.eraseIdx j) ck := by
  obtain ⟨q1, q2, q3, q4⟩ := h
  have hsub := List.eraseIdx_sublist es j
  have hlt : j < es.length := (List.getElem?_eq_some_iff.1 hj).1
  have hej : es[j] = e := (List.getElem?_eq_some_iff.1 hj).2
  refine ⟨fun e' he' => ?_, fun b hb => ?_, q3.sublist hsub, fun e' he' => q4 e' (hsub.subset he')⟩
  · obtain ⟨i, hi, hne, rfl⟩ : ∃ i, ∃ (hi : i < es.length), i ≠ j ∧ e' = es[i] := by
      obtain ⟨i, h1, h2⟩ := List.mem_eraseIdx_iff_getElem.1 he'
      exact ⟨i, h1, h2.1, h2.2.symm⟩
    obtain ⟨b, e1, e2, e3, e4⟩ := q1 es[i] (List.getElem_mem hi)
    have hba : b ≠ a := by
      rintro rfl
      have hp := List.pairwise_iff_getElem.1 q3
      rcases Nat.lt_or_ge i j with hlt' | hge
      · exact (hp i j hi hlt hlt').1 (by rw [e1, hej, hk])
      · exact (hp j i hlt hi (by omega)).1 (by rw [e1, hej, hk])
    exact ⟨b, e1, by simp only [if_neg hba]; exact e2, e3, hr b _ e4⟩
  · have hba : b ≠ a := by rintro rfl; simp at hb
    simp only [if_neg hba] at hb
    obtain ⟨e', m1, m2⟩ := q2 b hb
    obtain ⟨i, hi, rfl⟩ := List.getElem_of_mem m1
    refine ⟨es[i], List.mem_eraseIdx_iff_getElem.2 ⟨i, hi, ?_, rfl⟩, m2⟩
    rintro rfl
    rw [hej, hk] at m2
    exact hba (KK.val_inj m2.symm)
theorem MapOf.del_no {kd : KK} {has : Int → Bool} {R R' : Int → Value → Prop} {es : List MapEntry} {ck : Nat} (h : MapOf kd has R es ck) {a : Int} (ha : has a = false)
    (hr : ∀ b v, R b v → R' b v) : MapOf kd (fun k => if k = a then false else has k) R' es ck := by
  have : (fun k => if k = a then false else has k) = has := by
    funext k
    by_cases hk : k = a
    · rw [if_pos hk, hk, ha]
    · rw [if_neg hk]
  rw [this]
  exact h.mono fun b v _ hv => hr b v hv

theorem heap_setB {b : Nat} {o o' : Obj} (hb : w.heap[b]? = some o) : (setBlock w b o').heap[b]? = some o' ∧ (∀ x, x ≠ b → (setBlock w b o').heap[x]? = w.heap[x]?) ∧ (setBlock w b o').heap.size = w.heap.size := by
  obtain ⟨h1, h2⟩ := MapKept.heap_set (o' := o') hb
  exact ⟨h1, h2, by simp [setBlock]⟩
theorem FrS.setB (hm : MOK B W n0 σ M F w) {ref : Nat} {R : Reg} {L : Loc} {b : Nat} (h1 : M ref = some R) (h2 : σ ref = some L) (h3 : L.at_ = some b) {o : Obj} (hb : w.heap[b]? = some o) (o' : Obj) : FrS W n0 w (setBlock w b o') := by
  obtain ⟨_, k2, k3⟩ := heap_setB (o' := o') hb
  refine ⟨rfl, rfl, rfl, by rw [k3]; exact Nat.le_refl _, Nat.le_refl _, fun x hx hw => k2 x fun e => ?_⟩
  subst e
  rcases hm.own ref R L x h1 h2 h3 with h' | h'
  · exact hw h'
  · omega

theorem snd_mapUpdate (hT : TabOK P T) (hm : MOK B W n0 σ M F w) (t : TypeId) {s s' s'' : SV} {x y z : Value} (hx : s.rel σ (Zof B σ M w) w x) (hy : s'.rel σ (Zof B σ M w) w y) (hz : s''.rel σ (Zof B σ M w) w z) :
    Snd P B W n0 σ M F nx w (((Instr.mapUpdate t x y z).run P w).andThen fun _ w' => .ok .skip w') (gmapUpdate T M t s s' s'') := by
  unfold gmapUpdate
  split
  · trivial
  rename_i kd e he
  obtain ⟨k, hu, hk⟩ := mapK_spec hT he
  split
  · rename_i g a hcode
    split
    · rename_i ref
      obtain ⟨L, b, g1, g2, rfl⟩ := hx
      split
      · rename_i kd' has val st hM
        split
        rotate_left
        · trivial
        rename_i hkd
        subst hkd
        rintro ⟨hg, hone⟩
        rw [KK.code_rel hcode hg hy]
        have hz1 := SV.one_rel hone hz
        obtain ⟨L', e1, b', es, ck, f1, f2, f3, f4⟩ := hm.reg ref _ hM
        rw [g1] at e1; cases e1
        rw [g2] at f1; cases f1
        rcases f3.find (P := P) (w := w) hk a with ⟨h1, h2, h3⟩ | ⟨h1, j, en, h2, h3, h4, h5, h6⟩
        · have hrun : (Instr.mapUpdate t (.map (some b)) (kd'.val a) z).run P w = .ok () (setBlock w b (.map (es.push { key := kd'.val a, val := z, born := ck }) (ck + 1))) := by
            simp [Instr.mapUpdate, run_underlying hu, MapKept.run_getObj_map f2, hk.check, h2, MapKept.run_setObj_map _ f2, Result.andThen, setBlock]
          obtain ⟨k1, k2, k3⟩ := heap_setB (o' := .map (es.push { key := kd'.val a, val := z, born := ck }) (ck + 1)) f2
          obtain ⟨m1, m2⟩ := mem_set (w' := setBlock w b (.map (es.push { key := kd'.val a, val := z, born := ck }) (ck + 1))) (R := .kmap kd' (fun k => if k = a then true else has k) (fun k => if k = a then s'' else val k) (if has a = true then st else none)) hm hM g1 g2 k3 k2
            (fun Z' hkp => ⟨b, _, _, g2, k1, by
              rw [Array.toList_push]
              refine f3.add h3 hz1 (by simpa using SV.rel_mono (fun _ _ h => h) hkp _ _ hz) fun b v hb hv => ?_
              simp only [if_neg hb]
              exact SV.rel_mono (fun _ _ h => h) hkp _ _ hv, fun f c hc => by rw [h1] at hc; simp at hc⟩)
          exact ⟨undef, _, .inr ⟨by rw [hrun]; rfl, rfl⟩, m1, m2, trivial, FrS.setB hm hM g1 g2 f2 _⟩
        · have hstay := hk.stays w a
          have h3' : es[j]? = some en := by simpa using h3
          have hmod : (es.modify j fun e => { e with key := kd'.val a, val := z }).toList = es.toList.set j { en with key := kd'.val a, val := z } := by
            rw [Array.toList_modify, modify_eq_set _ _ _ _ h3]
          have hrun : (Instr.mapUpdate t (.map (some b)) (kd'.val a) z).run P w = .ok () (setBlock w b (.map (es.modify j fun e => { e with key := kd'.val a, val := z }) ck)) := by
            simp [Instr.mapUpdate, run_underlying hu, MapKept.run_getObj_map f2, hk.check, h2, h3', h4, hstay, MapKept.run_setObj_map _ f2, Result.andThen, setBlock]
          obtain ⟨k1, k2, k3⟩ := heap_setB (o' := .map (es.modify j fun e => { e with key := kd'.val a, val := z }) ck) f2
          obtain ⟨m1, m2⟩ := mem_set (w' := setBlock w b (.map (es.modify j fun e => { e with key := kd'.val a, val := z }) ck)) (R := .kmap kd' (fun k => if k = a then true else has k) (fun k => if k = a then s'' else val k) (if has a = true then st else none)) hm hM g1 g2 k3 k2
            (fun Z' hkp => ⟨b, _, _, g2, k1, by
              rw [hmod]
              refine f3.put h3 h4 hz1 (by simpa using SV.rel_mono (fun _ _ h => h) hkp _ _ hz) fun b v hb hv => ?_
              simp only [if_neg hb]
              exact SV.rel_mono (fun _ _ h => h) hkp _ _ hv, fun f c hc => by
              rw [if_pos h1] at hc
              obtain ⟨r1, r2⟩ := f4 f c hc
              refine ⟨r1, fun e' he' b' hb' => ?_⟩
              rw [hmod] at he'
              rcases List.mem_or_eq_of_mem_set he' with hmem | rfl
              · exact r2 e' hmem b' hb'
              · have := KK.val_inj hb'
                subst this
                exact r2 en (List.mem_of_getElem? h3) _ h4⟩)
          exact ⟨undef, _, .inr ⟨by rw [hrun]; rfl, rfl⟩, m1, m2, trivial, FrS.setB hm hM g1 g2 f2 _⟩
      · trivial
    · trivial
  · trivial

theorem snd_delete (hT : TabOK P T) (hm : MOK B W n0 σ M F w) (t t' ty : TypeId) {s s' : SV} {x y : Value} (hx : s.rel σ (Zof B σ M w) w x) (hy : s'.rel σ (Zof B σ M w) w y) :
    Snd P B W n0 σ M F nx w (vrun ((Builtin.delete_ #[t, t'] ty #[x, y]).run P w)) (gdelete T M t s s') := by
  unfold gdelete
  split
  · trivial
  rename_i kd e he
  obtain ⟨k, hu, hk⟩ := mapK_spec hT he
  split
  · rename_i g a hcode
    split
    · rename_i ref
      obtain ⟨L, b, g1, g2, rfl⟩ := hx
      split
      · rename_i kd' has val st hM
        split
        rotate_left
        · trivial
        rename_i hkd
        subst hkd
        intro hg
        rw [KK.code_rel hcode hg hy]
        obtain ⟨L', e1, b', es, ck, f1, f2, f3, f4⟩ := hm.reg ref _ hM
        rw [g1] at e1; cases e1
        rw [g2] at f1; cases f1
        rcases f3.find (P := P) (w := w) hk a with ⟨h1, h2, h3⟩ | ⟨h1, j, en, h2, h3, h4, h5, h6⟩
        · have hrun : (Builtin.delete_ #[t, t'] ty #[.map (some b), kd'.val a]).run P w = .ok (.tuple #[]) (setBlock w b (.map es ck)) := by
            simp [Builtin.delete_, run_underlying hu, MapKept.run_getObj_map f2, hk.check, h2, MapKept.run_setObj_map _ f2, Result.andThen, setBlock]
          obtain ⟨k1, k2, k3⟩ := heap_setB (o' := .map es ck) f2
          obtain ⟨m1, m2⟩ := mem_set (w' := setBlock w b (.map es ck)) (R := .kmap kd' (fun k => if k = a then false else has k) val none) hm hM g1 g2 k3 k2
            (fun Z' hkp => ⟨b, _, _, g2, k1, f3.del_no h1 fun b v hv => SV.rel_mono (fun _ _ h => h) hkp _ _ hv, fun f c hc => by cases hc⟩)
          exact ⟨.tuple #[], _, .inl (by rw [hrun]; rfl), m1, m2, ⟨[], rfl, rfl⟩, FrS.setB hm hM g1 g2 f2 _⟩
        · have hlt : j < es.size := by
            have := (List.getElem?_eq_some_iff.1 h3).1
            simpa using this
          have herase : (es.eraseIdxIfInBounds j).toList = es.toList.eraseIdx j := by
            unfold Array.eraseIdxIfInBounds
            rw [dif_pos hlt, Array.toList_eraseIdx]
          have hrun : (Builtin.delete_ #[t, t'] ty #[.map (some b), kd'.val a]).run P w = .ok (.tuple #[]) (setBlock w b (.map (es.eraseIdxIfInBounds j) ck)) := by
            simp [Builtin.delete_, run_underlying hu, MapKept.run_getObj_map f2, hk.check, h2, MapKept.run_setObj_map _ f2, Result.andThen, setBlock]
          obtain ⟨k1, k2, k3⟩ := heap_setB (o' := .map (es.eraseIdxIfInBounds j) ck) f2
          obtain ⟨m1, m2⟩ := mem_set (w' := setBlock w b (.map (es.eraseIdxIfInBounds j) ck)) (R := .kmap kd' (fun k => if k = a then false else has k) val none) hm hM g1 g2 k3 k2
            (fun Z' hkp => ⟨b, _, _, g2, k1, by
              rw [herase]
              exact f3.del h3 h4 fun b v hv => SV.rel_mono (fun _ _ h => h) hkp _ _ hv, fun f c hc => by cases hc⟩)
          exact ⟨.tuple #[], _, .inl (by rw [hrun]; rfl), m1, m2, ⟨[], rfl, rfl⟩, FrS.setB hm hM g1 g2 f2 _⟩
      · trivial
    · trivial
  · trivial

theorem snd_makeMap (hT : TabOK P T) (hm : MOK B W n0 σ M F w) (hq : F nx) (hn0 : n0 ≤ w.heap.size) (t : TypeId) {s : Option SV} {x : Option Value} (hx : ORel σ (Zof B σ M w) w s x) :
    Snd P B W n0 σ M F nx w (vrun ((Instr.makeMap t x).run P w)) (gmakeMap T t s nx) := by
  unfold gmakeMap
  split
  · trivial
  rename_i kd e he
  obtain ⟨k, hu, hk⟩ := mapK_spec hT he
  have key : (Instr.makeMap t x).run P w = .ok (.map (some w.heap.size)) (w.alloc (.map #[] 0)) → Snd P B W n0 σ M F nx w (vrun ((Instr.makeMap t x).run P w)) (.new True (.kmap kd (fun _ => false) (fun _ => .r .any) none) (.mp nx)) := by
    intro hrun _
    have hold : ∀ b, b < w.heap.size → (w.alloc (.map #[] 0)).heap[b]? = w.heap[b]? := fun b h => heap_old w _ b h
    obtain ⟨e1, e2, e3⟩ := mem_new (w' := w.alloc (.map #[] 0)) (L := ⟨some w.heap.size, 0⟩) (R := .kmap kd (fun _ => false) (fun _ => .r .any) none) hm hq hn0 (by simp) hold (fun b hb => by cases hb; exact Nat.le_refl _)
      (fun σ' Z' hs hk => ⟨w.heap.size, #[], 0, rfl, heap_new w _, ⟨by simp, by simp, by simp, by simp⟩, by simp⟩)
    exact ⟨_, _, ⟨some w.heap.size, 0⟩, by rw [hrun]; rfl, e1, e2, ⟨_, w.heap.size, upd_same .., rfl, rfl⟩, ⟨rfl, rfl, rfl, by simp, Nat.le_refl _, fun b hb _ => hold b (by omega)⟩⟩
  split
  · rcases hx with ⟨_, rfl⟩ | ⟨_, _, h, _⟩
    · exact key rfl
    · cases h
  · rcases hx with ⟨h, _⟩ | ⟨s', v', h, rfl, hr⟩
    · cases h
    · cases h
      cases hr
      exact key (by simp [Instr.makeMap, run_underlying hu, asInt, asIntOf, newObj, Sem.run])
  · trivial

theorem snd_makeSlice (hT : TabOK P T) (hm : MOK B W n0 σ M F w) (hq : F nx) (hn0 : n0 ≤ w.heap.size) (t : TypeId) {s s' : SV} {x y : Value} (hx : s.rel σ (Zof B σ M w) w x) (hy : s'.rel σ (Zof B σ M w) w y) :
    Snd P B W n0 σ M F nx w (vrun ((Instr.makeSlice t x y).run P w)) (gmakeSlice T t s s' nx) := by
  unfold gmakeSlice
  split
  · rename_i sz by_ ze e hti
    have hu := und_slice (hT.ti t _ hti) rfl
    split
    · trivial
    rename_i ei hei
    have hc := hT.ti e ei hei
    split
    · rename_i n m
      cases hx; cases hy
      rintro ⟨rfl, h0, hsz, hby, hmax⟩
      obtain ⟨q, rfl⟩ : ∃ q : Nat, n = q := ⟨n.toNat, by omega⟩
      simp only [Int.toNat_natCast]
      obtain ⟨i, hi, hi2, hi3, hz⟩ := ti_info hc
      have hw : IntKind.i64.wrap (q : Int) = q := wrap_inr (by simp only [inr]; omega)
      have hneg : ¬ ((q : Int) < 0) := by omega
      have hb' : ¬ (281474976710656 < (i.bytes : Int) * (q : Int)) := by
        rw [hi3]
        have h1 : (ei.bytes : Int) * (q : Int) = ((q * ei.bytes : Nat) : Int) := by rw [Int.mul_comm]; simp
        rw [h1]
        have h2 : ((q * ei.bytes : Nat) : Int) ≤ 140737488355328 := by simpa using hby
        omega
      refine new_vec (cs := repV (ei.zero.map ZK.val) q) hm hq hn0 e ei.size q _ (by unfold maxLen; omega) (by rw [repV_length, List.length_map, ti_len hc]) (rep_one _ _) (fun i j hi hj => ?_) ?_
      · obtain ⟨v, v1, _, v2⟩ := rep_rows (σ := σ) (w := w) hc hi hj (Zof B σ M w)
        exact ⟨v, v1, v2⟩
      · have hcells := zeroV_cells hc
        have hlz := ti_len hc
        have hrow : (Array.range (q * ei.size)).map (fun j => (if q * ei.size = 0 then (#[] : Array Value) else ei.zeroV.cells)[j % (if q * ei.size = 0 then (#[] : Array Value) else ei.zeroV.cells).size]!) = (repV (ei.zero.map ZK.val) q).toArray := by
          by_cases hq0 : q * ei.size = 0
          · have : q = 0 := by rcases Nat.mul_eq_zero.1 hq0 with h | h <;> omega
            subst this
            simp [repV]
          · rw [if_neg hq0]
            have := zeros_eq q (by omega) ei.zeroV.cells hcells
            rw [hlz] at this
            exact this
        by_cases hq0 : q * ei.size = 0
        · have hqz : q = 0 := by rcases Nat.mul_eq_zero.1 hq0 with h | h <;> omega
          subst hqz
          have hw0 : IntKind.i64.wrap 0 = 0 := by decide
          simp [vrun, Instr.makeSlice, run_underlying hu, sizeOf, typeInfo, zeroValue, hi, hz, asInt, asIntOf, newRow, askRoom, repV, hw0]
          rw [show Array.range 0 = #[] from by decide]
          simp
        · rw [if_neg hq0] at hrow
          have hne : ¬ (q * i.size = 0) := by rw [hi2]; exact hq0
          have hrow' : (Array.range (q * i.size)).map (fun j => ei.zeroV.cells[j % ei.zeroV.cells.size]!) = (repV (ei.zero.map ZK.val) q).toArray := by rw [hi2]; exact hrow
          have hq1 : q ≠ 0 := fun h => hq0 (by rw [h]; simp)
          have hs1 : i.size ≠ 0 := fun h => hne (by rw [h]; simp)
          simp [vrun, Instr.makeSlice, run_underlying hu, sizeOf, typeInfo, zeroValue, hi, hz, asInt, asIntOf, newRow, askRoom, hw, hneg, hb', hq1, hs1, -Array.map_map]
          rw [if_neg hne, hrow']
    · trivial
  · trivial

theorem part_cells {Z : Nat → Prop} {l : List SV} {cs : List Value} (h : SV.relL σ Z w l cs) {o s : Nat} (hb : o + s ≤ l.length) :
    SV.relL σ Z w (cellsFrom (fun j => l.getD j (.r .any)) o s) ((cs.toArray.extract o (o + s)).toList) := by
  have hl := SV.relL_length h
  have e : (cs.toArray.extract o (o + s)).toList = (cs.drop o).take s := by
    simp [List.extract_eq_take_drop]
  rw [e]
  refine SV.relL_mk ?_ fun i t y h1 h2 => ?_
  · simp [cellsFrom_length]; omega
  · have hi : i < s := by
      have := (List.getElem?_eq_some_iff.1 h1).1
      rwa [cellsFrom_length] at this
    rw [cellsFrom_get _ _ _ _ hi] at h1
    cases h1
    rw [List.getElem?_take, if_pos hi, List.getElem?_drop] at h2
    have hlt : o + i < l.length := by omega
    obtain ⟨y', g1, g2⟩ := SV.relL_get h (o + i) l[o + i] (List.getElem?_eq_getElem hlt)
    rw [g1] at h2; cases h2
    simpa [List.getD, List.getElem?_eq_getElem hlt] using g2

theorem snd_part {e : TypeId} {s : Nat} {g : Bool} (hs : sizeIs P e s = true) (hg : aggOf P e g = true) {l : List SV} {x : Value} (hx : (SV.agg l).rel σ (Zof B σ M w) w x) (o : Nat) (k : Result Next) (hk : k = vrun ((do part e (← asAgg x) o : Sem Value).run P w)) :
    (g = true → o + s ≤ l.length → POut B σ M w k (.agg (cellsFrom (fun j => l.getD j (.r .any)) o s))) ∧ (g = false → o < l.length → POut B σ M w k (l.getD o (.r .any))) := by
  obtain ⟨vs, rfl, h1, h2⟩ := hx
  have hl := SV.relL_length h2
  refine ⟨fun hgt hb => ?_, fun hgf hb => ?_⟩
  · subst hgt
    refine hk ▸ POut.of (y := .agg (vs.toArray.extract o (o + s))) ?_ ⟨(vs.toArray.extract o (o + s)).toList, by simp, fun v hv => h1 v ?_, part_cells h2 hb⟩
    · unfold part
      simp only [asAgg, pure_bind]
      rw [Sem.run_bind, run_aggOf hg w, Result.andThen_ok]
      simp only [if_true]
      rw [Sem.run_bind, run_sizeIs hs w, Result.andThen_ok]
      simp
    · have : (vs.toArray.extract o (o + s)).toList = (vs.drop o).take s := by simp [List.extract_eq_take_drop]
      rw [this] at hv
      exact List.mem_of_mem_drop (List.mem_of_mem_take hv)
  · subst hgf
    have hlt : o < vs.length := by omega
    obtain ⟨y, g1, g2⟩ := SV.relL_get h2 o l[o] (List.getElem?_eq_getElem hb)
    refine hk ▸ POut.of (y := y) ?_ (by simpa [List.getD, List.getElem?_eq_getElem hb] using g2)
    unfold part
    simp only [asAgg, pure_bind]
    rw [Sem.run_bind, run_aggOf hg w, Result.andThen_ok]
    simp [g1]

theorem snd_fieldV (hT : TabOK P T) (t : TypeId) (f : Nat) {s : SV} {x : Value} (hx : s.rel σ (Zof B σ M w) w x) :
    Snd P B W n0 σ M F nx w (vrun ((Instr.field t x f).run P w)) (gfieldV T t s f) := by
  unfold gfieldV
  split
  · rename_i sz by_ ze fs hti
    obtain ⟨fa, hu, hsz, hget⟩ := und_struct (hT.ti t _ hti) rfl
    split
    · rename_i o sz' g hf
      obtain ⟨fd, h1, rfl, h3, h4⟩ := hget f _ _ _ hf
      split
      · rename_i l
        have hk : vrun ((Instr.field t x f).run P w) = vrun ((do part fd.type (← asAgg x) fd.offset : Sem Value).run P w) := by
          congr 1
          unfold Instr.field
          rw [Sem.run_bind, run_underlying hu, Result.andThen_ok]
          simp [h1]
        obtain ⟨p1, p2⟩ := snd_part h3 h4 hx fd.offset _ hk
        split
        · rename_i hg; exact p1 hg
        · rename_i hg; exact p2 (by simpa using hg)
      · trivial
    · trivial
  · trivial

theorem snd_indexV (hT : TabOK P T) (t : TypeId) {s s' : SV} {x i : Value} (hx : s.rel σ (Zof B σ M w) w x) (hi : s'.rel σ (Zof B σ M w) w i) :
    Snd P B W n0 σ M F nx w (vrun ((Instr.index t x i).run P w)) (gindexV T t s s') := by
  unfold gindexV
  split
  · rename_i k ix
    cases hi
    split
    · rename_i sz by_ ze n es g hti
      obtain ⟨e, hu, h3, h4⟩ := und_array (hT.ti t _ hti) rfl
      split
      · rename_i l
        have hx' := hx
        obtain ⟨vs, rfl, _, _⟩ := hx'
        have hk : 0 ≤ ix → ix < n → vrun ((Instr.index t (.agg vs.toArray) (.int k ix)).run P w) = vrun ((do part e (← asAgg (.agg vs.toArray)) (ix.toNat * es) : Sem Value).run P w) := by
          intro q1 q2
          congr 1
          simp [Instr.index, asIntOf, run_underlying hu, q1, q2, run_sizeIs h3, asAgg]
        split
        · rename_i hg
          rintro ⟨q1, q2, q3⟩
          exact (snd_part h3 h4 hx (ix.toNat * es) _ (hk q1 q2)).1 hg q3
        · rename_i hg
          rintro ⟨q1, q2, q3⟩
          exact (snd_part h3 h4 hx (ix.toNat * es) _ (hk q1 q2)).2 (by simpa using hg) q3
      · trivial
    · trivial
  · trivial
end
end Go.Gx
/-
  All operations.
-/
set_option linter.unusedVariables false
set_option linter.unusedSimpArgs false
namespace Go.Gx
open Go.RowKit

section
variable {P : Program} {T : Tab} {B W F : Nat → Prop} {n0 : Nat} {σ : Sig} {M : Mem} {nx : Nat} {w : World} {a : Act} {E : Env}

theorem evs_rel {Z : Nat → Prop} (he : EOK σ Z w E a) : ∀ l : List Operand, SV.relL σ Z w (l.map (ev E)) (l.map a.eval)
  | [] => rfl
  | x :: l => ⟨_, _, rfl, ev_rel he x, evs_rel he l⟩

theorem orel {Z : Nat → Prop} (he : EOK σ Z w E a) (o : Option Operand) : ORel σ Z w (o.map (ev E)) (o.map a.eval) := by
  cases o with
  | none => exact .inl ⟨rfl, rfl⟩
  | some x => exact .inr ⟨_, _, rfl, rfl, ev_rel he x⟩

theorem relL_cells {Z : Nat → Prop} (f : Nat → RV) : ∀ (n o : Nat) (vs : List Value), vs.length = n → (∀ i v, vs[i]? = some v → (f (o + i)).rel Z w v) → SV.relL σ Z w (cellsFrom (fun i => .r (f i)) o n) vs
  | 0, o, vs, h, _ => by
    have := List.eq_nil_of_length_eq_zero h
    subst this; rfl
  | n + 1, o, [], h, _ => by simp at h
  | n + 1, o, v :: vs, h, H => ⟨v, vs, rfl, H 0 v rfl, relL_cells f n (o + 1) vs (by simpa using h) fun i u hu => by
      have := H (i + 1) u (by simpa using hu)
      rwa [show o + 1 + i = o + (i + 1) from by omega]⟩

theorem vrun_bind (s : Sem Value) : (do pure (.value (← s)) : Sem Next).run P w = vrun (s.run P w) := by rw [Sem.run_bind]; rfl

theorem exec_v {o : Oper} {r : Result Value} (h : (execOp a.eval o).run P w = vrun r) {g : GR} (hs : Snd P B W n0 σ M F nx w (vrun r) g) : Snd P B W n0 σ M F nx w ((execOp a.eval o).run P w) g := by rw [h]; exact hs

theorem snd_op (hT : TabOK P T) (hm : MOK B W n0 σ M F w) (hq : F nx) (hn0 : n0 ≤ w.heap.size) (he : EOK σ (Zof B σ M w) w E a) (o : Oper) :
    Snd P B W n0 σ M F nx w ((execOp a.eval o).run P w) (gop T o.op E M nx) := by
  obtain ⟨dst, op, ty, pos, after, guard⟩ := o
  show Snd P B W n0 σ M F nx w ((execOp a.eval ⟨dst, op, ty, pos, after, guard⟩).run P w) (gop T op E M nx)
  cases op with
  | move x => intro _; exact POut.val (ev_rel he x)
  | assign x => intro _; exact POut.val (ev_rel he x)
  | box t x =>
    simp only [gop]
    split
    · rename_i i hi
      exact exec_v (r := (Instr.box t (a.eval x)).run P w) (vrun_bind _) (snd_box hT hm hq hn0 t hi (ev_rel he x))
    · trivial
  | alloc t =>
    simp only [gop]
    split
    · rename_i i hi
      exact exec_v (r := (Instr.alloc t true (.tuple #[])).run P w) (vrun_bind _) (snd_alloc hT hm hq hn0 t hi)
    · trivial
  | build t ps =>
    have h := snd_build (P := P) (B := B) (W := W) (n0 := n0) (F := F) (nx := nx) hT t ps he
    have hps : (ps.map fun p => (p.1, a.eval p.2)) = (ps.map fun (i, x) => (i, a.eval x)) := rfl
    rw [hps] at h
    have e : (execOp a.eval ⟨dst, .build t ps, ty, pos, after, guard⟩).run P w = vrun ((Instr.build t (ps.map fun (i, x) => (i, a.eval x))).run P w) := vrun_bind _
    rw [e]
    exact h
  | buildSlice t len ps =>
    have h := snd_buildSlice (P := P) hT hm hq hn0 t len ps he
    have hps : (ps.map fun p => (p.1, a.eval p.2)) = (ps.map fun (i, x) => (i, a.eval x)) := rfl
    rw [hps] at h
    have e : (execOp a.eval ⟨dst, .buildSlice t len ps, ty, pos, after, guard⟩).run P w = vrun ((Instr.buildSlice t len (ps.map fun (i, x) => (i, a.eval x))).run P w) := vrun_bind _
    rw [e]
    exact h
  | load t x =>
    simp only [gop]
    exact exec_v (r := (Instr.loadAt t (a.eval x)).run P w) (vrun_bind _) (snd_load hT hm t (ev_rel he x))
  | store t x y =>
    have h := snd_store (nx := nx) hT hm t (ev_rel he x) (ev_rel he y)
    have e : (execOp a.eval ⟨dst, .store t x y, ty, pos, after, guard⟩).run P w = ((Instr.storeAt t (a.eval x) (a.eval y)).run P w).andThen fun _ w' => .ok .skip w' := by simp only [execOp, Sem.run_bind]; rfl
    rw [e]; exact h
  | nilCheck x =>
    have h := ev_rel he x
    simp only [gop]
    split
    · rename_i q1 q2 q3 q4 heq
      rw [heq] at h
      obtain ⟨L, b, h1, h2, h3⟩ := h
      intro _
      have e : (execOp a.eval ⟨dst, .nilCheck x, ty, pos, after, guard⟩).run P w = .ok (.value (.pointer (some ⟨b, q2 * q3 + q4, none⟩))) w := by simp [execOp, h3]
      rw [e]; exact POut.val ⟨L, b, h1, h2, rfl⟩
    · rename_i q1 q2 q3 q4 q5 heq
      rw [heq] at h
      obtain ⟨b, o, h1, h2⟩ := h
      intro _
      have e : (execOp a.eval ⟨dst, .nilCheck x, ty, pos, after, guard⟩).run P w = .ok (.value (a.eval x)) w := by simp [execOp, h1]
      rw [e]; exact POut.val ⟨b, o, h1, h2⟩
    · rename_i f fi ca heq
      rw [heq] at h
      split
      · rename_i g
        obtain ⟨vs, ws, h1, h2, h3⟩ := h
        intro _
        have e : (execOp a.eval ⟨dst, .nilCheck x, ty, pos, after, guard⟩).run P w = .ok (.value (a.eval x)) w := by simp [execOp, h1]
        rw [e]; exact POut.val ⟨vs, ws, h1, h2, h3⟩
      · trivial
    · trivial
  | binOp op t x y t' =>
    have hx := ev_rel he x
    have hy := ev_rel he y
    have e : (execOp a.eval ⟨dst, .binOp op t x y t', ty, pos, after, guard⟩).run P w = vrun ((do eqGuard op t x y (a.eval x) (a.eval y); binOp op t (a.eval x) (a.eval y) : Sem Value).run P w) := vrun_bind _
    have h1 := snd_bin (P := P) (B := B) (W := W) (n0 := n0) (F := F) (nx := nx) op t x y hx hy
    rw [e]
    simp only [gop]
    split
    · split
      · exact snd_eq hT false .eql rfl t x y hx hy
      · exact snd_eq hT true .neq rfl t x y hx hy
      · trivial
    · rename_i g hg
      exact h1
  | unOp op t x =>
    have hx := ev_rel he x
    have e : (execOp a.eval ⟨dst, .unOp op t x, ty, pos, after, guard⟩).run P w = vrun ((Op.unary op (a.eval x)).run P w) := vrun_bind _
    rw [e]
    simp only [gop]
    split
    · rename_i b heq
      rw [heq] at hx; rw [show a.eval x = .bool b from hx]
      intro _; exact POut.of rfl rfl
    · rename_i φ heq
      rw [heq] at hx
      obtain ⟨b, hb, hxb⟩ := hx
      rw [hxb]
      intro _; exact POut.of (y := .bool (!b)) rfl ⟨!b, by simpa using hb, rfl⟩
    · rename_i k n heq
      rw [heq] at hx; rw [show a.eval x = .int k n from hx]
      intro hi; exact POut.of (y := .int k (0 - n)) (by simp only [Op.unary, Op.intArith, wrap_inr hi]; rfl) rfl
    · trivial
  | convert s d x =>
    have hx := ev_rel he x
    have e : (execOp a.eval ⟨dst, .convert s d x, ty, pos, after, guard⟩).run P w = vrun ((convert s d (a.eval x)).run P w) := vrun_bind _
    rw [e]
    simp only [gop]
    split
    · rename_i z1 z2 z3 k1 z4 z5 z6 k k2 n h1 h2 heq
      rw [heq] at hx; rw [show a.eval x = .int k2 n from hx]
      have u1 := und_int (hT.ti s _ h1) rfl
      have u2 := und_int (hT.ti d _ h2) rfl
      intro _
      exact POut.of (by simp [convert, run_underlying u1, run_underlying u2, Conv.intToInt]) rfl
    · trivial
  | makeFunc f fi ca =>
    intro _
    have e : (execOp a.eval ⟨dst, .makeFunc f fi ca, ty, pos, after, guard⟩).run P w = .ok (.value (.func f (fi.map a.eval) (ca.map a.eval))) w := rfl
    rw [e]
    exact POut.val ⟨fi.toList.map a.eval, ca.toList.map a.eval, by rw [show fi.map a.eval = (fi.toList.map a.eval).toArray from by apply Array.ext'; simp, show ca.map a.eval = (ca.toList.map a.eval).toArray from by apply Array.ext'; simp], evs_rel he _, evs_rel he _⟩
  | slice t x lo hi mx =>
    simp only [gop]
    exact exec_v (r := (Instr.sliceAt t (a.eval x) (lo.map a.eval) (hi.map a.eval) (mx.map a.eval)).run P w) (vrun_bind _) (snd_slice hT hm t (ev_rel he x) (orel he lo) (orel he hi) (orel he mx))
  | fieldAddr t x f =>
    simp only [gop]
    exact exec_v (r := (Instr.fieldAt t (a.eval x) f).run P w) (vrun_bind _) (snd_field hT t f (ev_rel he x))
  | indexAddr t x i =>
    simp only [gop]
    exact exec_v (r := (Instr.indexAt t (a.eval x) (a.eval i)).run P w) (vrun_bind _) (snd_index hT t (ev_rel he x) (ev_rel he i))
  | lookup t m x ok =>
    simp only [gop]
    exact exec_v (r := (Instr.lookup t (a.eval m) (a.eval x) ok).run P w) (vrun_bind _) (snd_lookup hT hm t ok (ev_rel he m) (ev_rel he x))
  | mapUpdate t m x y =>
    have h := snd_mapUpdate (nx := nx) hT hm t (ev_rel he m) (ev_rel he x) (ev_rel he y)
    have e : (execOp a.eval ⟨dst, .mapUpdate t m x y, ty, pos, after, guard⟩).run P w = ((Instr.mapUpdate t (a.eval m) (a.eval x) (a.eval y)).run P w).andThen fun _ w' => .ok .skip w' := by simp only [execOp, Sem.run_bind]; rfl
    rw [e]; exact h
  | insert t m x y =>
    have h := snd_mapUpdate (nx := nx) hT hm t (ev_rel he m) (ev_rel he x) (ev_rel he y)
    have e : (execOp a.eval ⟨dst, .insert t m x y, ty, pos, after, guard⟩).run P w = ((Instr.mapUpdate t (a.eval m) (a.eval x) (a.eval y)).run P w).andThen fun _ w' => .ok .skip w' := by simp only [execOp, Sem.run_bind]; rfl
    rw [e]; exact h
  | makeMap t r =>
    simp only [gop]
    exact exec_v (r := (Instr.makeMap t (r.map a.eval)).run P w) (vrun_bind _) (snd_makeMap hT hm hq hn0 t (orel he r))
  | makeSlice t l c =>
    simp only [gop]
    exact exec_v (r := (Instr.makeSlice t (a.eval l) (a.eval c)).run P w) (vrun_bind _) (snd_makeSlice hT hm hq hn0 t (ev_rel he l) (ev_rel he c))
  | field t x f =>
    simp only [gop]
    exact exec_v (r := (Instr.field t (a.eval x) f).run P w) (vrun_bind _) (snd_fieldV hT t f (ev_rel he x))
  | index t x i =>
    simp only [gop]
    exact exec_v (r := (Instr.index t (a.eval x) (a.eval i)).run P w) (vrun_bind _) (snd_indexV hT t (ev_rel he x) (ev_rel he i))
  | extract x i =>
    have hx := ev_rel he x
    have e : (execOp a.eval ⟨dst, .extract x i, ty, pos, after, guard⟩).run P w = vrun ((Instr.extract (a.eval x) i).run P w) := vrun_bind _
    rw [e]
    simp only [gop]
    split
    · rename_i l heq
      rw [heq] at hx
      obtain ⟨vs, hv, hl⟩ := hx
      split
      · rename_i s hs
        obtain ⟨y, h1, h2⟩ := SV.relL_get hl i s hs
        intro _
        rw [hv]
        exact POut.of (by simp [Instr.extract, h1]) h2
      · trivial
    · trivial
  | call c =>
    obtain ⟨callee, args, ts⟩ := c
    have ha := evs_rel he args.toList
    have hmap : args.map a.eval = (args.toList.map a.eval).toArray := by apply Array.ext'; simp
    simp only [gop]
    cases callee with
    | builtin b =>
      have e : (execOp a.eval ⟨dst, .call ⟨.builtin b, args, ts⟩, ty, pos, after, guard⟩).run P w = (builtin b ts ty (args.map fun | .const _ => true | _ => false) (args.toList.map a.eval).toArray).run P w := by
        simp only [execOp, resolve, Sem.run_bind, Sem.run_pure, Result.andThen_ok, invoke, hmap]
        rfl
      rw [e]
      generalize args.toList.map a.eval = vs at *
      generalize args.toList.map (ev E) = l at *
      obtain ⟨tl⟩ := ts
      simp only
      unfold gbuiltin
      split
      · obtain ⟨y, _, rfl, h1, rfl⟩ := ha
        have := snd_len (P := P) (B := B) (W := W) (n0 := n0) (F := F) (nx := nx) hT (by assumption) ty h1
        simp only [builtin, Sem.run_bind]
        exact this
      · obtain ⟨y, _, rfl, h1, y', _, rfl, h2, rfl⟩ := ha
        split
        · rename_i ht
          cases ht
          have := snd_append (P := P) hT hm hq hn0 (by assumption) ty h1 h2
          simp only [builtin, Sem.run_bind]
          exact this
        · simp only [builtin, Sem.run_bind]
          exact snd_appendZ (P := P) hT hm hq hn0 _ _ ty h1 h2
      · obtain ⟨y, _, rfl, h1, y', _, rfl, h2, rfl⟩ := ha
        simp only [builtin, Sem.run_bind]
        exact snd_copy (P := P) (nx := nx) hT hm _ _ ty h1 h2
      · obtain ⟨y, _, rfl, h1, rfl⟩ := ha
        have := snd_clear (P := P) (nx := nx) hT hm (by assumption) ty h1
        simp only [builtin, Sem.run_bind]
        exact this
      · obtain ⟨y, _, rfl, h1, y', _, rfl, h2, rfl⟩ := ha
        simp only [builtin, Sem.run_bind]
        exact snd_delete (P := P) (nx := nx) hT hm _ _ ty h1 h2
      · have := snd_max (P := P) (B := B) (W := W) (n0 := n0) (F := F) (nx := nx) ⟨tl⟩ ty ha
        simp only [builtin, Sem.run_bind]
        exact this
      · have := snd_min (P := P) (B := B) (W := W) (n0 := n0) (F := F) (nx := nx) ⟨tl⟩ ty ha
        simp only [builtin, Sem.run_bind]
        exact this
      · trivial
    | value f =>
      have hf := ev_rel he f
      simp only
      split
      · rename_i g fi ca heq
        rw [heq] at hf
        obtain ⟨vs, ws, h1, h2, h3⟩ := hf
        refine ⟨vs ++ args.toList.map a.eval ++ ws, relL_append (relL_append h2 ha) h3, ?_⟩
        simp only [execOp, resolve, Sem.run_bind, Sem.run_pure, Result.andThen_ok, h1, Deferred.ofValue, invoke, hmap]
        congr 2
        simp
      · rename_i g nf nc fi ca heq
        rw [heq] at hf
        obtain ⟨vs, ws, h1, h2, h3, h4, h5⟩ := hf
        refine ⟨vs ++ args.toList.map a.eval ++ ws, relL_append (relL_append (relL_cells fi nf 0 vs h2 (by simpa using h4)) ha) (relL_cells ca nc 0 ws h3 (by simpa using h5)), ?_⟩
        simp only [execOp, resolve, Sem.run_bind, Sem.run_pure, Result.andThen_ok, h1, Deferred.ofValue, invoke, hmap]
        congr 2
        simp
      · trivial
    | invoke r m => trivial
  | _ => trivial
end
end Go.Gx
