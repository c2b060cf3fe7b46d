/-
  Of, in the memory of the caller, with the postings' numbers in own memory.
-/
import Derived.Test.YtdnblflhlklfnaaKh
set_option linter.unusedVariables false
set_option linter.unusedSimpArgs false
set_option maxRecDepth 20000
set_option maxHeartbeats 4000000
namespace Go.Gx.Ix
open Go.RowKit Go.Proofs Go.Proofs.Ytdnblflhlklfnaa

theorem Kept.eq {A : Nat → Prop} {R R' : Option Reg} (h : Kept A R R') (h1 : ∀ s, R.map (Reg.kill s) = R) (h2 : ∀ s Rf, R.map (Reg.fz s Rf) = R) : R' = R :=
  h (fun Q => Q = R) (fun s Q _ e => by rw [e, h1]) (fun s Rf Q _ e => by rw [e, h2]) rfl
/-- The box of an index. -/
def bxL (rm n : Nat) (g : Nat → SV) : List SV := .sl rm 3 0 n none :: (List.range 8).map g
theorem bxL_eq (rm n : Nat) (g : Nat → SV) : bxL rm n g = [.sl rm 3 0 n none, g 0, g 1, g 2, g 3, g 4, g 5, g 6, g 7] := rfl
theorem bxL_congr {rm n : Nat} {g g' : Nat → SV} (h : ∀ i, i < 8 → g i = g' i) : bxL rm n g = bxL rm n g' := congrArg (List.cons _) (List.map_congr_left fun i hi => h i (List.mem_range.1 hi))
theorem killL_map (s : Nat) : ∀ l : List SV, SV.killL s l = l.map (SV.kill s)
  | [] => rfl
  | t :: l => by simp [SV.killL, killL_map s l]
theorem Kept.bx {A : Nat → Prop} {rm n j : Nat} {r len : Nat → Nat} {R' : Option Reg} (h : Kept A (some (.box (bxL rm n fun i => .sl (r i) 3 0 (len i) none))) R') (hm : ¬ A rm) (hr : ∀ i, i < 8 → i ≠ j → ¬ A (r i)) :
    ∃ fj, R' = some (.box (bxL rm n fun i => if i = j then fj else .sl (r i) 3 0 (len i) none)) := by
  refine h (fun R => ∃ fj, R = some (.box (bxL rm n fun i => if i = j then fj else .sl (r i) 3 0 (len i) none))) ?_ ?_ ⟨.sl (r j) 3 0 (len j) none, ?_⟩
  · rintro s R hs ⟨fj, rfl⟩
    refine ⟨fj.kill s, ?_⟩
    have e1 : ¬ rm = s := fun e => hm (e ▸ hs)
    have e2 : ∀ i, i < 8 → i ≠ j → ¬ r i = s := fun i hi hne e => hr i hi hne (e ▸ hs)
    simp only [Option.map_some, Reg.kill, killL_map, bxL, List.map_cons, List.map_map]
    refine congrArg some (congrArg Reg.box ?_)
    refine List.cons_eq_cons.2 ⟨by simp [SV.kill, e1], List.map_congr_left fun i hi => ?_⟩
    have hi := List.mem_range.1 hi
    by_cases h : i = j
    · simp [h]
    · simp [h, SV.kill, e2 i hi h]
  · rintro s Rf R hs ⟨fj, rfl⟩
    refine ⟨fj.fz s Rf, ?_⟩
    have e1 : ¬ rm = s := fun e => hm (e ▸ hs)
    have e2 : ∀ i, i < 8 → i ≠ j → ¬ r i = s := fun i hi hne e => hr i hi hne (e ▸ hs)
    simp only [Option.map_some, Reg.fz, fzL_map, bxL, List.map_cons, List.map_map]
    refine congrArg some (congrArg Reg.box ?_)
    refine List.cons_eq_cons.2 ⟨by simp [SV.fz, e1], List.map_congr_left fun i hi => ?_⟩
    have hi := List.mem_range.1 hi
    by_cases h : i = j
    · simp [h]
    · simp [h, SV.fz, e2 i hi h]
  · refine congrArg some (congrArg Reg.box (bxL_congr fun i hi => ?_))
    split
    · rename_i h; rw [h]
    · rfl
/-- Eight lists of postings in own memory, the numbers too; none lies where A says. -/
structure OfI (A : Nat → Prop) (c : Nat → List PsG) (M : Mem) (nx : Nat) (r : Nat → Nat) (pos : Nat → Nat → Nat) : Prop where
  ra : ∀ j, j < 8 → ¬ A (r j) ∧ r j < nx
  ri : ∀ i j, i < 8 → j < 8 → r i = r j → i = j
  pa : ∀ j, j < 8 → ∀ P ∈ c j, ¬ A (pos j P.k) ∧ pos j P.k < nx ∧ ∀ i, i < 8 → pos j P.k ≠ r i
  pi : ∀ i j, i < 8 → j < 8 → ∀ P ∈ c i, ∀ P' ∈ c j, pos i P.k = pos j P'.k → i = j ∧ P.k = P'.k
  ps : ∀ j, j < 8 → psM (M (r j)) (c j) (pos j)
  nu : ∀ j, j < 8 → ∀ P ∈ c j, nuM (M (pos j P.k)) P.ids
theorem OfI.wk {A A' : Nat → Prop} {c : Nat → List PsG} {M : Mem} {nx : Nat} {r : Nat → Nat} {pos : Nat → Nat → Nat} (h : OfI A c M nx r pos) (hA : ∀ q, q < nx → A' q → A q) : OfI A' c M nx r pos :=
  ⟨fun j hj => ⟨fun e => (h.ra j hj).1 (hA _ (h.ra j hj).2 e), (h.ra j hj).2⟩, h.ri, fun j hj P hP => ⟨fun e => (h.pa j hj P hP).1 (hA _ (h.pa j hj P hP).2.1 e), (h.pa j hj P hP).2⟩, h.pi, h.ps, h.nu⟩
theorem OfI.mem {A : Nat → Prop} {c : Nat → List PsG} {M M' : Mem} {nx nx' : Nat} {r : Nat → Nat} {pos : Nat → Nat → Nat} (h : OfI A c M nx r pos) (hn : nx ≤ nx') (hM : ∀ q, q < nx → ¬ A q → M' q = M q) : OfI A c M' nx' r pos :=
  ⟨fun j hj => ⟨(h.ra j hj).1, Nat.lt_of_lt_of_le (h.ra j hj).2 hn⟩, h.ri, fun j hj P hP => ⟨(h.pa j hj P hP).1, Nat.lt_of_lt_of_le (h.pa j hj P hP).2.1 hn, (h.pa j hj P hP).2.2⟩, h.pi,
    fun j hj => by rw [hM _ (h.ra j hj).2 (h.ra j hj).1]; exact h.ps j hj, fun j hj P hP => by rw [hM _ (h.pa j hj P hP).2.1 (h.pa j hj P hP).1]; exact h.nu j hj P hP⟩
theorem addP_mem {L : List PsG} {m c : BitVec 8} {id : Int} {P : PsG} (hP : P ∈ addP L m c id) (hat : ∀ h : pat L m c < (addL L m c).length, ((addL L m c)[pat L m c]'h).k = key m c) (hne : ¬ P.k = key m c) : P ∈ L := by
  unfold addP at hP
  obtain ⟨i, hi, rfl⟩ := List.mem_iff_getElem.1 hP
  have hil : i < (addL L m c).length := by simpa using hi
  rw [mod_at _ _ _ i hi hil] at hne ⊢
  by_cases hik : i = pat L m c
  · subst hik
    rw [if_pos rfl] at hne
    exact absurd (hat hil) hne
  · rw [if_neg hik] at hne ⊢
    have hm : (addL L m c)[i] ∈ addL L m c := List.getElem_mem hil
    generalize (addL L m c)[i] = P at *
    unfold addL at hm
    split at hm
    · exact hm
    · rcases List.mem_append.1 hm with h | h
      · exact List.mem_of_mem_take h
      · rcases List.mem_cons.1 h with rfl | h
        · exact absurd rfl hne
        · exact List.mem_of_mem_drop h
/-- One more number in chunk j. -/
theorem OfI.step {A : Nat → Prop} {c : Nat → List PsG} {M M' : Mem} {nx nx' r' p' : Nat} {r : Nat → Nat} {pos : Nat → Nat → Nat} {pos' : Nat → Nat} {j : Nat} {m cc : BitVec 8} {id : Int} (hj : j < 8) (h : OfI A c M nx r pos) (hA : ∀ q, A q → q < nx)
    (hn : nx ≤ nx') (hr : r' = r j ∨ nx ≤ r') (hr' : r' < nx') (hp : nx ≤ p') (hp' : p' < nx') (hrp : r' ≠ p') (hpos : pos' = fun k => if k = key m cc then p' else pos j k)
    (hat : ∀ h : pat (c j) m cc < (addL (c j) m cc).length, ((addL (c j) m cc)[pat (c j) m cc]'h).k = key m cc)
    (hps : psM (M' r') (addP (c j) m cc id) pos') (hnu : ∀ P ∈ addP (c j) m cc id, nuM (M' (pos' P.k)) P.ids)
    (hk : ∀ q, q < nx → q ≠ r j → (∀ P ∈ c j, P.k = key m cc → q ≠ pos j P.k) → Kept (fun s => s = r j ∨ nx ≤ s ∨ ∃ P ∈ c j, P.k = key m cc ∧ s = pos j P.k) (M q) (M' q)) :
    OfI A (fun i => if i = j then addP (c j) m cc id else c i) M' nx' (fun i => if i = j then r' else r i) (fun i => if i = j then pos' else pos i) := by
  have hmem := fun P hP hne => addP_mem (L := c j) (m := m) (c := cc) (id := id) (P := P) hP hat hne
  have hrnx := (h.ra j hj).2
  have hrA := (h.ra j hj).1
  -- where a posting of chunk j lies now
  have hwhere : ∀ P ∈ addP (c j) m cc id, (pos' P.k = p' ∧ P.k = key m cc) ∨ (pos' P.k = pos j P.k ∧ ¬ P.k = key m cc ∧ P ∈ c j) := fun P hP => by
    rw [hpos]
    by_cases e : P.k = key m cc
    · exact .inl ⟨if_pos e, e⟩
    · exact .inr ⟨if_neg e, e, hmem P hP e⟩
  refine ⟨fun i hi => ?_, fun i i' hi hi' => ?_, fun i hi P hP => ?_, fun i i' hi hi' P hP P' hP' => ?_, fun i hi => ?_, fun i hi P hP => ?_⟩
  · by_cases e : i = j
    · subst e
      simp only [if_true]
      exact ⟨fun a => by rcases hr with rfl | hr; exact hrA a; have := hA _ a; omega, hr'⟩
    · simp only [e, if_false]
      exact ⟨(h.ra i hi).1, by have := (h.ra i hi).2; omega⟩
  · by_cases e : i = j <;> by_cases e' : i' = j
    · intro _; rw [e, e']
    · subst e
      rw [if_pos rfl, if_neg e']
      intro q
      rcases hr with rfl | hr
      · exact h.ri _ _ hi hi' q
      · have := (h.ra i' hi').2; omega
    · subst e'
      rw [if_pos rfl, if_neg e]
      intro q
      rcases hr with rfl | hr
      · exact h.ri _ _ hi hi' q
      · have := (h.ra i hi).2; omega
    · simp only [e, e', if_false]
      exact h.ri _ _ hi hi'
  · by_cases e : i = j
    · subst e
      simp only [if_true] at hP ⊢
      rcases hwhere P hP with ⟨w1, _⟩ | ⟨w1, w2, w3⟩
      · rw [w1]
        refine ⟨fun a => by have := hA _ a; omega, hp', fun i' hi' => ?_⟩
        by_cases e' : i' = i
        · simp only [e', if_true]; exact fun q => hrp q.symm
        · simp only [e', if_false]; have := (h.ra i' hi').2; omega
      · rw [w1]
        obtain ⟨a1, a2, a3⟩ := h.pa i hi P w3
        refine ⟨a1, by omega, fun i' hi' => ?_⟩
        by_cases e' : i' = i
        · simp only [e', if_true]; intro q
          rcases hr with rfl | hr
          · exact a3 i hi q
          · omega
        · simp only [e', if_false]; exact a3 i' hi'
    · simp only [e, if_false] at hP ⊢
      obtain ⟨a1, a2, a3⟩ := h.pa i hi P hP
      refine ⟨a1, by omega, fun i' hi' => ?_⟩
      by_cases e' : i' = j
      · subst e'
        simp only [if_true]; intro q
        rcases hr with rfl | hr
        · exact a3 _ hj q
        · omega
      · simp only [e', if_false]; exact a3 i' hi'
  · by_cases e : i = j <;> by_cases e' : i' = j
    · subst e; subst e'
      rw [if_pos rfl] at hP hP'
      rw [if_pos rfl]
      rcases hwhere P hP with ⟨w1, w2⟩ | ⟨w1, w2, w3⟩ <;> rcases hwhere P' hP' with ⟨v1, v2⟩ | ⟨v1, v2, v3⟩ <;> rw [w1, v1] <;> intro q
      · exact ⟨rfl, w2.trans v2.symm⟩
      · have := (h.pa _ hj P' v3).2.1; omega
      · have := (h.pa _ hj P w3).2.1; omega
      · exact h.pi _ _ hj hj P w3 P' v3 q
    · subst e
      rw [if_pos rfl] at hP
      rw [if_neg e'] at hP'
      rw [if_pos rfl, if_neg e']
      rcases hwhere P hP with ⟨w1, w2⟩ | ⟨w1, w2, w3⟩ <;> rw [w1] <;> intro q
      · have := (h.pa _ hi' P' hP').2.1; omega
      · exact h.pi _ _ hj hi' P w3 P' hP' q
    · subst e'
      rw [if_neg e] at hP
      rw [if_pos rfl] at hP'
      rw [if_pos rfl, if_neg e]
      rcases hwhere P' hP' with ⟨w1, w2⟩ | ⟨w1, w2, w3⟩ <;> rw [w1] <;> intro q
      · have := (h.pa _ hi P hP).2.1; omega
      · exact h.pi _ _ hi hj P hP P' w3 q
    · simp only [e, e', if_false] at hP hP' ⊢
      exact h.pi _ _ hi hi' P hP P' hP'
  · by_cases e : i = j
    · subst e
      simp only [if_true]
      exact hps
    · simp only [e, if_false]
      refine (hk (r i) (h.ra i hi).2 (fun q => e (h.ri _ _ hi hj q)) (fun P hP _ => (h.pa j hj P hP).2.2 i hi |>.symm)).ps (fun P hP => ?_) (h.ps i hi)
      obtain ⟨a1, a2, a3⟩ := h.pa i hi P hP
      rintro (q | q | ⟨P', hP', _, q⟩)
      · exact a3 j hj q
      · omega
      · exact e (h.pi _ _ hi hj P hP P' hP' q).1
  · by_cases e : i = j
    · subst e
      simp only [if_true] at hP ⊢
      exact hnu P hP
    · simp only [e, if_false] at hP ⊢
      obtain ⟨a1, a2, a3⟩ := h.pa i hi P hP
      exact (hk (pos i P.k) a2 (a3 j hj) (fun P' hP' _ q => e (h.pi _ _ hi hj P hP P' hP' q).1)).nu (h.nu i hi P hP)
theorem adopt1 {N : Cfg} {E : Env} {M : Mem} {nx ref rm n : Nat} (j : Nat) (hj : j < 8) (hM : M ref = some (.box (bxL rm n fun i => if i < j then .sl (nx - j + i) 3 0 0 none else nilS))) (hr : ref < nx) (hn : j ≤ nx) :
    ∃ M', GSt N E M nx E M' (nx + 1) ∧ (∀ q, q < nx → q ≠ ref → M' q = M q) ∧ M' nx = some (.vec 75 3 0 fun i j => .r (prows [] i j)) ∧ M' ref = some (.box (bxL rm n fun i => if i < j + 1 then .sl (nx + 1 - (j + 1) + i) 3 0 0 none else nilS)) := by
  refine ⟨_, GSt.adoptBox ref (j + 1) 75 3 (fun i j => .r (prows [] i j)) hM ?_ hr, fun q hq hne => by rw [upd_ne _ _ hne, upd_ne _ _ (by omega)], by rw [upd_ne _ _ (by omega), upd_same], ?_⟩
  · simp only [bxL, List.getElem?_cons_succ, List.getElem?_map, List.getElem?_range hj, Option.map_some, Nat.lt_irrefl, if_false]
  · rw [upd_same]
    simp only [bxL, List.set_cons_succ]
    refine congrArg some (congrArg Reg.box (congrArg _ (List.ext_getElem? fun i => ?_)))
    rw [List.getElem?_set]
    simp only [List.length_map, List.length_range, List.getElem?_map]
    by_cases hi : i < 8
    · rw [List.getElem?_range hi]
      by_cases e : j = i
      · subst e
        simp [hi, hn]
      · rw [if_neg e]
        simp only [Option.map_some, Option.some.injEq]
        by_cases h2 : i < j
        · rw [if_pos h2, if_pos (by omega), show nx + 1 - (j + 1) = nx - j by omega]
        · rw [if_neg h2, if_neg (by omega)]
    · have e : ¬ j = i := by omega
      simp [e, List.getElem?_eq_none, hi]
/-- The eight nil lists become own memory. -/
theorem adopt8 {N : Cfg} {E : Env} {M : Mem} {nx ref rm n : Nat} (hM : M ref = some (.box (bxL rm n fun _ => nilS))) (hr : ref < nx) :
    ∃ M', GSt N E M nx E M' (nx + 8) ∧ (∀ q, q < nx → q ≠ ref → M' q = M q) ∧ (∀ j, j < 8 → M' (nx + j) = some (.vec 75 3 0 fun i j => .r (prows [] i j))) ∧ M' ref = some (.box (bxL rm n fun i => .sl (nx + i) 3 0 0 none)) := by
  have key : ∀ j, j ≤ 8 → ∃ M', GSt N E M nx E M' (nx + j) ∧ (∀ q, q < nx → q ≠ ref → M' q = M q) ∧ (∀ i, i < j → M' (nx + i) = some (.vec 75 3 0 fun i j => .r (prows [] i j))) ∧ M' ref = some (.box (bxL rm n fun i => if i < j then .sl (nx + i) 3 0 0 none else nilS)) := by
    intro j
    induction j with
    | zero => intro _; exact ⟨M, GSt.refl, fun _ _ _ => rfl, fun i hi => absurd hi (Nat.not_lt_zero _), hM⟩
    | succ j ih =>
      intro hj
      obtain ⟨M1, g1, g2, g3, g4⟩ := ih (by omega)
      obtain ⟨M2, k1, k2, k3, k4⟩ := adopt1 (N := N) (E := E) (M := M1) (nx := nx + j) (ref := ref) j (by omega) (by rw [g4, show nx + j - j = nx by omega]) (by omega) (by omega)
      refine ⟨M2, g1.trans k1, fun q hq hne => by rw [k2 q (by omega) hne, g2 q hq hne], fun i hi => ?_, by rw [k4, show nx + j + 1 - (j + 1) = nx by omega]⟩
      by_cases e : i = j
      · subst e; exact k3
      · rw [k2 _ (by omega) (by omega)]; exact g3 i (by omega)
  obtain ⟨M', h1, h2, h3, h4⟩ := key 8 (Nat.le_refl _)
  refine ⟨M', h1, h2, h3, ?_⟩
  rw [h4]
  exact congrArg some (congrArg Reg.box (bxL_congr fun i hi => if_pos hi))
/-- The index in own memory: where it lies. -/
structure IxO (lo : Nat) (M : Mem) (nx : Nat) (x : IxG) (S : SV) : Prop where
  ex : ∃ rm r pos, S = .agg (bxL rm x.ms.length fun i => .sl (r i) 3 0 (x.ch i).length none) ∧ lo ≤ rm ∧ rm < nx ∧ M rm = some (mreg x.ms) ∧ OfI (fun q => q < lo ∨ q = rm) x.ch M nx r pos
theorem GLoop_adopt8 {P : Program} {T : Tab} {N : Cfg} {c : Code} {k : List It} {Q : GQ} {E : Env} {M : Mem} {nx ref rm n : Nat} (hM : M ref = some (.box (bxL rm n fun _ => nilS))) (hr : ref < nx)
    (h : ∀ M', (∀ q, q < nx → q ≠ ref → M' q = M q) → (∀ j, j < 8 → M' (nx + j) = some (.vec 75 3 0 fun i j => .r (prows [] i j))) → M' ref = some (.box (bxL rm n fun i => .sl (nx + i) 3 0 0 none)) → GLoop P T N c k Q E M' (nx + 8)) : GLoop P T N c k Q E M nx := by
  obtain ⟨M', h1, h2, h3, h4⟩ := adopt8 (N := N) (E := E) hM hr
  exact GLoop_pre h1 (h M' h2 h3 h4)
abbrev nil9 : Reg := .box [nilS, nilS, nilS, nilS, nilS, nilS, nilS, nilS, nilS]
/-- The memory of of's loops. -/
structure OfH (b : Nat) (ms : List MbG) (M0 : Mem) (A : Nat → Prop) (c : Nat → List PsG) (M : Mem) (nx : Nat) (r : Nat → Nat) (pos : Nat → Nat → Nat) : Prop where
  hA : ∀ q, A q → q < nx
  hA3 : ∀ q, q < b + 3 → A q
  b0 : M b = some nil9
  b1 : M (b + 1) = some (.box (bxL (b + 2) ms.length fun i => .sl (r i) 3 0 (c i).length none))
  b2 : M (b + 2) = some (mreg ms)
  kp : ∀ q, q < b → Kept (b ≤ ·) (M0 q) (M q)
  of : OfI A c M nx r pos
theorem OfI.congr {A : Nat → Prop} {c c' : Nat → List PsG} {M : Mem} {nx : Nat} {r : Nat → Nat} {pos : Nat → Nat → Nat} (h : OfI A c M nx r pos) (hc : ∀ i, i < 8 → c i = c' i) : OfI A c' M nx r pos :=
  ⟨h.ra, h.ri, fun j hj P hP => h.pa j hj P (by rw [hc j hj]; exact hP), fun i j hi hj P hP P' hP' => h.pi i j hi hj P (by rw [hc i hi]; exact hP) P' (by rw [hc j hj]; exact hP'), fun j hj => by rw [← hc j hj]; exact h.ps j hj, fun j hj P hP => h.nu j hj P (by rw [hc j hj]; exact hP)⟩
theorem OfH.wkc {b : Nat} {ms : List MbG} {M0 : Mem} {A A' : Nat → Prop} {c c' : Nat → List PsG} {M : Mem} {nx : Nat} {r : Nat → Nat} {pos : Nat → Nat → Nat} (h : OfH b ms M0 A c M nx r pos) (hc : ∀ i, i < 8 → c i = c' i) (h1 : ∀ q, A' q → q < nx) (h2 : ∀ q, q < b + 3 → A' q) (h3 : ∀ q, q < nx → A' q → A q) : OfH b ms M0 A' c' M nx r pos :=
  ⟨h1, h2, h.b0, by rw [h.b1]; exact congrArg some (congrArg Reg.box (bxL_congr fun i hi => by rw [hc i hi])), h.b2, h.kp, (h.of.wk h3).congr hc⟩
theorem OfH.step {b : Nat} {ms : List MbG} {M0 : Mem} {A : Nat → Prop} {c : Nat → List PsG} {M M' : Mem} {nx nx' r' p' : Nat} {r : Nat → Nat} {pos : Nat → Nat → Nat} {pos' : Nat → Nat} {j : Nat} {m cc : BitVec 8} {id : Int} (hj : j < 8) (h : OfH b ms M0 A c M nx r pos)
    (hn : nx ≤ nx') (hr : r' = r j ∨ nx ≤ r') (hr' : r' < nx') (hp : nx ≤ p') (hp' : p' < nx') (hrp : r' ≠ p') (hpos : pos' = fun k => if k = key m cc then p' else pos j k)
    (hat : ∀ h : pat (c j) m cc < (addL (c j) m cc).length, ((addL (c j) m cc)[pat (c j) m cc]'h).k = key m cc)
    (hps : psM (M' r') (addP (c j) m cc id) pos') (hnu : ∀ P ∈ addP (c j) m cc id, nuM (M' (pos' P.k)) P.ids)
    (hk : ∀ q, q < nx → q ≠ r j → (∀ P ∈ c j, P.k = key m cc → q ≠ pos j P.k) → Kept (fun s => s = r j ∨ nx ≤ s ∨ ∃ P ∈ c j, P.k = key m cc ∧ s = pos j P.k) (M q) (M' q)) :
    (∀ q, A q → Kept (fun s => ¬ A s) (M q) (M' q)) ∧ M' b = some nil9 ∧ M' (b + 2) = some (mreg ms) ∧ (∃ fj, M' (b + 1) = some (.box (bxL (b + 2) ms.length fun i => if i = j then fj else .sl (r i) 3 0 (c i).length none))) ∧
    ∀ M'' c', (∀ q, q ≠ b + 1 → M'' q = M' q) → (c' = fun i => if i = j then addP (c j) m cc id else c i) → M'' (b + 1) = some (.box (bxL (b + 2) ms.length fun i => .sl (if i = j then r' else r i) 3 0 (c' i).length none)) →
      OfH b ms M0 A c' M'' nx' (fun i => if i = j then r' else r i) (fun i => if i = j then pos' else pos i) := by
  have hnA : ∀ q, A q → q ≠ r j ∧ ∀ P ∈ c j, q ≠ pos j P.k := fun q hq => ⟨fun e => (h.of.ra j hj).1 (e ▸ hq), fun P hP e => (h.of.pa j hj P hP).1 (e ▸ hq)⟩
  have hAs : ∀ s, (s = r j ∨ nx ≤ s ∨ ∃ P ∈ c j, P.k = key m cc ∧ s = pos j P.k) → ¬ A s := by
    rintro s (rfl | hs | ⟨P, hP, _, rfl⟩) a
    · exact (h.of.ra j hj).1 a
    · have := h.hA _ a; omega
    · exact (h.of.pa j hj P hP).1 a
  have hkA : ∀ q, A q → Kept (fun s => s = r j ∨ nx ≤ s ∨ ∃ P ∈ c j, P.k = key m cc ∧ s = pos j P.k) (M q) (M' q) := fun q hq => hk q (h.hA q hq) (hnA q hq).1 fun P hP _ => (hnA q hq).2 P hP
  have k0 : M' b = some nil9 := by
    have := hkA b (h.hA3 _ (by omega))
    rw [h.b0] at this
    exact this.eq (fun _ => rfl) (fun _ _ => rfl)
  have k2 : M' (b + 2) = some (mreg ms) := by
    have := hkA (b + 2) (h.hA3 _ (by omega))
    rw [h.b2] at this
    exact this.eq (fun _ => rfl) (fun _ _ => rfl)
  refine ⟨fun q hq => (hkA q hq).mono hAs, k0, k2, ?_, fun M'' c' hM hc' hb1 => ?_⟩
  · have := hkA (b + 1) (h.hA3 _ (by omega))
    rw [h.b1] at this
    refine this.bx (fun a => hAs _ a (h.hA3 _ (by omega))) fun i hi hne => ?_
    rintro (e | e | ⟨P, hP, _, e⟩)
    · exact hne (h.of.ri i j hi hj e)
    · have := (h.of.ra i hi).2; omega
    · exact (h.of.pa j hj P hP).2.2 i hi e.symm
  · subst hc'
    refine ⟨fun q hq => Nat.lt_of_lt_of_le (h.hA q hq) hn, h.hA3, by rw [hM _ (by omega), k0], hb1, by rw [hM _ (by omega), k2], fun q hq => ?_, ?_⟩
    · rw [hM q (by omega)]
      refine (h.kp q hq).trans ((hkA q (h.hA3 q (by omega))).mono fun s hs => ?_)
      have := hAs s hs
      rcases Nat.lt_or_ge s b with g | g
      · exact absurd (h.hA3 s (by omega)) this
      · exact g
    · refine (h.of.step hj h.hA hn hr hr' hp hp' hrp hpos hat hps hnu hk).mem (Nat.le_refl _) fun q hq hnq => hM q fun e => hnq (h.hA3 q (by omega))
theorem of52K (l : List MbG) (hn : l.length ≤ 1000) {np nx : Nat} {M : Mem} {K : SV → Mem → Nat → (SV → SV) → Prop} (hnp : np ≤ nx)
    (hK : ∀ S M' nx', nx ≤ nx' → IxO nx M' nx' (ofG l) S → (∀ q, q < nx → Kept (nx ≤ ·) (M q) (M' q)) → K S M' nx' (SV.trim nx)) : CallK Try.prog np 52 [mrs l] M nx K := by
  refine callK_in T_ok Try.func52 rfl (by kernel_rfl) (Nat.le_of_ble_eq_true rfl) rfl rfl nx hnp (Nat.le_refl _) ?_
  simp [go_sem]
  refine callK_own [] (clone76 l.length (by omega) (mrows l)) (by simp) rfl ?_ ?_
  · simp [go_sem]
  simp [go_sem]
  refine callK_ownS [nx + 1 + 1] (sort77 l (by omega)) (by simp) (by simp) rfl ?_ ?_
  · simp [go_sem]
  simp [go_sem]
  have hl := (srtM_spec l).2.1
  have hx : ofG l = ⟨srtM l, fun j => cK (srtM l) l.length j⟩ := rfl
  obtain ⟨ms, hms⟩ : ∃ ms, srtM l = ms := ⟨_, rfl⟩
  rw [hms] at hl hx ⊢
  rw [hx] at hK
  rw [← hl] at hK ⊢
  have hl3 : ms.length ≤ 1000 := by omega
  have hs : ∀ k j, (h : k < ms.length) → Srt (cK ms k j) (chk ms[k].x.m j) (chk ms[k].x.c j) ms[k].id := fun k j hk => (cK_inv ms j k (by omega)).srt (by omega) _ _ _
  simp only [Nat.add_assoc, Nat.reduceAdd]
  refine GLoop_adopt8 (ref := nx + 1) (rm := nx + 2) (n := ms.length) (by simp [go_sem]; rfl) (by omega) fun M1 g2 g3 g4 => ?_
  have u0 : M1 nx = some nil9 := by rw [g2 nx (by omega) (by omega)]; simp [go_sem]
  have u2 : M1 (nx + 2) = some (mreg ms) := by rw [g2 (nx + 2) (by omega) (by omega)]; simp [go_sem]
  have uk : ∀ q, q < nx → M1 q = M q := fun q hq => by
    rw [g2 q (by omega) (by omega)]
    simp only [upd_app]
    rw [if_neg (by omega), if_neg (by omega), if_neg (by omega), if_neg (by omega), if_neg (by omega), if_neg (by omega)]
  refine GLoop_p T_ok (α := Nat) (fun k => [(2, .ptr nx 0 9 0), (3, .ptr (nx + 1) 0 9 0), (14, .sl (nx + 2) 3 0 ms.length none), (15, .i ms.length), (16, .i k)])
    (fun k M' nx' => k ≤ ms.length ∧ ∃ r pos, OfH nx ms M (· < nx + 3) (cK ms k) M' nx' r pos) (fun k => ms.length - k) 0 ⟨Nat.zero_le _, fun i => nx + 4 + i, fun _ _ => 0, ?_⟩ (by simp [go_sem]) ?_
  · refine ⟨fun q hq => by omega, fun q hq => hq, u0, g4, u2, fun q hq => by rw [uk q hq]; exact Kept.refl, fun j hj => ⟨by omega, by omega⟩, fun i j _ _ e => by omega, fun j hj P hP => by simp [cK0] at hP, fun i j _ _ P hP => by simp [cK0] at hP, fun j hj => ?_, fun j hj P hP => by simp [cK0] at hP⟩
    exact psM_of 0 rfl _ (g3 j hj) fun i hi => absurd hi (Nat.not_lt_zero i)
  rintro k J M2 nx2 hN ⟨hk, r, pos, h⟩
  have hb1 := h.b1
  rw [bxL_eq] at hb1
  have hbA := h.hA (nx + 2) (by omega)
  have n0 : ¬ nx = nx2 := by omega
  have n1 : ¬ nx + 1 = nx2 := by omega
  have n2 : ¬ nx + 2 = nx2 := by omega
  have n3 : ¬ nx2 = nx := by omega
  have n4 : ¬ nx2 = nx + 1 := by omega
  have n5 : ¬ nx2 = nx + 2 := by omega
  by_cases hlt : k < ms.length
  · obtain ⟨a, ha⟩ : ∃ a, ms[k] = a := ⟨_, rfl⟩
    have r0 : mrows ms k 0 = a.f 0 := by rw [mrow hlt, ha]
    have r1 : mrows ms k 1 = a.f 1 := by rw [mrow hlt, ha]
    have r2 : mrows ms k 2 = a.f 2 := by rw [mrow hlt, ha]
    have hc : ∀ j, cK ms (k + 1) j = addP (cK ms k j) (chk a.x.m j) (chk a.x.c j) a.id := fun j => by rw [cK_succ hlt, ha]
    have hsk : ∀ j, j < 8 → Srt (cK ms k j) (chk a.x.m j) (chk a.x.c j) a.id := fun j h => by have := hs k j hlt; rwa [ha] at this
    simp [go_sem, r0, r1, r2, hlt, h.b0, hb1, h.b2, n0, n1, n2, n3, n4, n5]
    clear g2 g3 g4 u0 u2 uk n0 n1 n2 n3 n4 n5
    have hinv := fun j => cK_inv ms j k hk
    refine GLoop_p T_ok (α := Nat) (fun j => [(2, .ptr nx 0 9 0), (3, .ptr (nx + 1) 0 9 0), (14, .sl (nx + 2) 3 0 ms.length none), (15, .i ms.length), (16, .i k), (5, .ptr nx2 0 3 0), (20, .i j)])
      (fun j M' nx' => j ≤ 8 ∧ M' nx2 = some (.box [.i a.id, .w a.x.c, .w a.x.m]) ∧ ∃ r pos, OfH nx ms M (fun q => q < nx + 3 ∨ q = nx2) (cIn ms k j) M' nx' r pos) (fun j => 8 - j) 0 ⟨by omega, by simp [go_sem], r, pos, ?_⟩ (by simp [go_sem]) ?_
    · have e : cIn ms k 0 = cK ms k := by funext i; simp [cIn]
      rw [e]
      have hm : ∀ q, q ≠ nx2 → upd (upd M2 nx2 (some (Reg.box [SV.r (RV.v (Value.int IntKind.i64 0)), SV.r (RV.v (Value.int IntKind.u64 0)), SV.r (RV.v (Value.int IntKind.u64 0))]))) nx2 (some (Reg.box [SV.r (RV.i a.id), SV.r (RV.w a.x.c), SV.r (RV.w a.x.m)])) q = M2 q := fun q hq => by rw [upd_ne _ _ hq, upd_ne _ _ hq]
      refine ⟨fun q hq => by omega, fun q hq => .inl hq, by rw [hm _ (by omega)]; exact h.b0, by rw [hm _ (by omega)]; exact h.b1, by rw [hm _ (by omega)]; exact h.b2, fun q hq => by rw [hm _ (by omega)]; exact h.kp q hq, ?_⟩
      exact (h.of.wk (A' := fun q => q < nx + 3 ∨ q = nx2) fun q hq ha => ha.elim id fun e => by omega).mem (by omega) fun q hq hnq => hm q (by omega)
    have hbx2 := hbA
    clear h hb1 hbA J hN
    rintro j J M3 nx3 hN ⟨hj, hbx, r, pos, h⟩
    have hbA := h.hA (nx + 2) (.inl (by omega))
    have hbB := h.hA nx2 (.inr rfl)
    have n0 : ¬ nx = nx3 := by omega
    have n1 : ¬ nx + 1 = nx3 := by omega
    have n2 : ¬ nx + 2 = nx3 := by omega
    have n3 : ¬ nx3 = nx := by omega
    have n4 : ¬ nx3 = nx + 1 := by omega
    have n5 : ¬ nx3 = nx + 2 := by omega
    have n6 : ¬ nx2 = nx3 := by omega
    have n7 : ¬ nx3 = nx2 := by omega
    have hb1 := h.b1
    rw [bxL_eq] at hb1
    have hsk' : ∀ j, j < 8 → Srt (cIn ms k j j) (chk a.x.m j) (chk a.x.c j) a.id := fun j hj => by rw [cIn, if_neg (Nat.lt_irrefl j)]; exact hsk j hj
    have hinv' : ∀ j, Inv (cIn ms k j j) k := fun j => by rw [cIn, if_neg (Nat.lt_irrefl j)]; exact hinv j
    have hat' : ∀ j (hh : pat (cIn ms k j j) (chk a.x.m j) (chk a.x.c j) < (addL (cIn ms k j j) (chk a.x.m j) (chk a.x.c j)).length), ((addL (cIn ms k j j) (chk a.x.m j) (chk a.x.c j))[pat (cIn ms k j j) (chk a.x.m j) (chk a.x.c j)]'hh).k = key (chk a.x.m j) (chk a.x.c j) := fun j hh => by
      obtain ⟨e1, e2⟩ := (addL_inv (hinv' j) (chk a.x.m j) (chk a.x.c j)).2 hh
      unfold PsG.k
      rw [e1, e2]
    have hcs : ∀ j, cIn ms k (j + 1) = fun i => if i = j then addP (cIn ms k j j) (chk a.x.m j) (chk a.x.c j) a.id else cIn ms k j i := fun j => by
      funext i
      unfold cIn
      by_cases e : i = j
      · subst e; simp [hc]
      · by_cases e2 : i < j
        · rw [if_pos (by omega), if_neg e, if_pos e2]
        · rw [if_neg (by omega), if_neg e, if_neg e2]
    rcases (show j = 0 ∨ j = 1 ∨ j = 2 ∨ j = 3 ∨ j = 4 ∨ j = 5 ∨ j = 6 ∨ j = 7 ∨ j = 8 by omega) with rfl | rfl | rfl | rfl | rfl | rfl | rfl | rfl | rfl
    · simp [go_sem, h.b0, hb1, h.b2, hbx, n0, n1, n2, n3, n4, n5, n6, n7]
      refine GDraw_l (t := (.take 0 (.take 1 (.take 2 (.take 3 (.take 4 (.take 5 (.take 6 (.take 7 (.take 9 (.take 10 (.take 12 (.alt 8 [12, 10, 9, 7, 6, 5, 4, 3, 2, 1, 0] (.alt 11 [12, 10, 9, 5, 4, 3, 2, 1, 0] (.take 13 (.alt 14 [13, 12, 9, 5, 3, 2, 1, 0] (.done [12]) .nil)) .nil) .nil))))))))))))) T_ok (by kernel_rfl) (by kernel_rfl) (by kernel_rfl) (fun _ _ _ _ h => h) ?_
      simp [go_sem, h.b0, hb1, h.b2, hbx, n0, n1, n2, n3, n4, n5, n6, n7]
      refine call_val (cellOf66 a.x 0 (by omega)) rfl rfl ?_
      simp [go_sem, h.b0, hb1, h.b2, hbx, n0, n1, n2, n3, n4, n5, n6, n7]
      have hc0 := h.of.ps 0 (by omega)
      refine add80K (hsk' 0 (by omega)) (by omega) (h.of.ra 0 (by omega)).2 hc0 (hinv' 0).cells (fun P hP => ⟨(h.of.pa 0 (by omega) P hP).2.1, (h.of.pa 0 (by omega) P hP).2.2 0 (by omega), h.of.nu 0 (by omega) P hP⟩) (fun P hP P' hP' e => (h.of.pi 0 0 (by omega) (by omega) P hP P' hP' e).2) ?_
      intro M1 nx1 r1 p1 pos1 q1 q2 q3 q4 q5 q6 q7 q8 q9 q10
      obtain ⟨t1, t2, t3, ⟨fj, t4⟩, t5⟩ := h.step (j := 0) (by omega) q1 q2 q3 q4 q5 q6 q7 (hat' 0) q8 q9 q10
      rw [bxL_eq] at t4
      have t6 : M1 nx2 = some (.box [.i a.id, .w a.x.c, .w a.x.m]) := by
        have := t1 nx2 (.inr rfl)
        rw [hbx] at this
        exact this.eq (fun _ => rfl) (fun _ _ => rfl)
      have m1 : nx < nx3 := by omega
      have m2 : nx + 1 < nx3 := by omega
      have m3 : nx + 2 < nx3 := by omega
      have m4 : ¬ nx2 = nx + 1 := by omega
      simp [go_sem, t2, t3, t4, t6, m1, m2, m3, m4, hbB]
      exact ⟨0 + 1, by omega, rfl, by omega, _, _, t5 _ _ (fun q hq => upd_ne _ _ hq) (hcs 0) (by rw [upd_same, hcs 0]; rfl)⟩
    · simp [go_sem, h.b0, hb1, h.b2, hbx, n0, n1, n2, n3, n4, n5, n6, n7]
      refine GDraw_l (t := (.take 0 (.take 1 (.take 2 (.take 3 (.take 4 (.take 5 (.take 6 (.take 7 (.take 9 (.take 10 (.take 12 (.alt 8 [12, 10, 9, 7, 6, 5, 4, 3, 2, 1, 0] (.alt 11 [12, 10, 9, 5, 4, 3, 2, 1, 0] (.take 13 (.alt 14 [13, 12, 9, 5, 3, 2, 1, 0] (.done [12]) .nil)) .nil) .nil))))))))))))) T_ok (by kernel_rfl) (by kernel_rfl) (by kernel_rfl) (fun _ _ _ _ h => h) ?_
      simp [go_sem, h.b0, hb1, h.b2, hbx, n0, n1, n2, n3, n4, n5, n6, n7]
      refine call_val (cellOf66 a.x 1 (by omega)) rfl rfl ?_
      simp [go_sem, h.b0, hb1, h.b2, hbx, n0, n1, n2, n3, n4, n5, n6, n7]
      have hc1 := h.of.ps 1 (by omega)
      refine add80K (hsk' 1 (by omega)) (by omega) (h.of.ra 1 (by omega)).2 hc1 (hinv' 1).cells (fun P hP => ⟨(h.of.pa 1 (by omega) P hP).2.1, (h.of.pa 1 (by omega) P hP).2.2 1 (by omega), h.of.nu 1 (by omega) P hP⟩) (fun P hP P' hP' e => (h.of.pi 1 1 (by omega) (by omega) P hP P' hP' e).2) ?_
      intro M1 nx1 r1 p1 pos1 q1 q2 q3 q4 q5 q6 q7 q8 q9 q10
      obtain ⟨t1, t2, t3, ⟨fj, t4⟩, t5⟩ := h.step (j := 1) (by omega) q1 q2 q3 q4 q5 q6 q7 (hat' 1) q8 q9 q10
      rw [bxL_eq] at t4
      have t6 : M1 nx2 = some (.box [.i a.id, .w a.x.c, .w a.x.m]) := by
        have := t1 nx2 (.inr rfl)
        rw [hbx] at this
        exact this.eq (fun _ => rfl) (fun _ _ => rfl)
      have m1 : nx < nx3 := by omega
      have m2 : nx + 1 < nx3 := by omega
      have m3 : nx + 2 < nx3 := by omega
      have m4 : ¬ nx2 = nx + 1 := by omega
      simp [go_sem, t2, t3, t4, t6, m1, m2, m3, m4, hbB]
      exact ⟨1 + 1, by omega, rfl, by omega, _, _, t5 _ _ (fun q hq => upd_ne _ _ hq) (hcs 1) (by rw [upd_same, hcs 1]; rfl)⟩
    · simp [go_sem, h.b0, hb1, h.b2, hbx, n0, n1, n2, n3, n4, n5, n6, n7]
      refine GDraw_l (t := (.take 0 (.take 1 (.take 2 (.take 3 (.take 4 (.take 5 (.take 6 (.take 7 (.take 9 (.take 10 (.take 12 (.alt 8 [12, 10, 9, 7, 6, 5, 4, 3, 2, 1, 0] (.alt 11 [12, 10, 9, 5, 4, 3, 2, 1, 0] (.take 13 (.alt 14 [13, 12, 9, 5, 3, 2, 1, 0] (.done [12]) .nil)) .nil) .nil))))))))))))) T_ok (by kernel_rfl) (by kernel_rfl) (by kernel_rfl) (fun _ _ _ _ h => h) ?_
      simp [go_sem, h.b0, hb1, h.b2, hbx, n0, n1, n2, n3, n4, n5, n6, n7]
      refine call_val (cellOf66 a.x 2 (by omega)) rfl rfl ?_
      simp [go_sem, h.b0, hb1, h.b2, hbx, n0, n1, n2, n3, n4, n5, n6, n7]
      have hc2 := h.of.ps 2 (by omega)
      refine add80K (hsk' 2 (by omega)) (by omega) (h.of.ra 2 (by omega)).2 hc2 (hinv' 2).cells (fun P hP => ⟨(h.of.pa 2 (by omega) P hP).2.1, (h.of.pa 2 (by omega) P hP).2.2 2 (by omega), h.of.nu 2 (by omega) P hP⟩) (fun P hP P' hP' e => (h.of.pi 2 2 (by omega) (by omega) P hP P' hP' e).2) ?_
      intro M1 nx1 r1 p1 pos1 q1 q2 q3 q4 q5 q6 q7 q8 q9 q10
      obtain ⟨t1, t2, t3, ⟨fj, t4⟩, t5⟩ := h.step (j := 2) (by omega) q1 q2 q3 q4 q5 q6 q7 (hat' 2) q8 q9 q10
      rw [bxL_eq] at t4
      have t6 : M1 nx2 = some (.box [.i a.id, .w a.x.c, .w a.x.m]) := by
        have := t1 nx2 (.inr rfl)
        rw [hbx] at this
        exact this.eq (fun _ => rfl) (fun _ _ => rfl)
      have m1 : nx < nx3 := by omega
      have m2 : nx + 1 < nx3 := by omega
      have m3 : nx + 2 < nx3 := by omega
      have m4 : ¬ nx2 = nx + 1 := by omega
      simp [go_sem, t2, t3, t4, t6, m1, m2, m3, m4, hbB]
      exact ⟨2 + 1, by omega, rfl, by omega, _, _, t5 _ _ (fun q hq => upd_ne _ _ hq) (hcs 2) (by rw [upd_same, hcs 2]; rfl)⟩
    · simp [go_sem, h.b0, hb1, h.b2, hbx, n0, n1, n2, n3, n4, n5, n6, n7]
      refine GDraw_l (t := (.take 0 (.take 1 (.take 2 (.take 3 (.take 4 (.take 5 (.take 6 (.take 7 (.take 9 (.take 10 (.take 12 (.alt 8 [12, 10, 9, 7, 6, 5, 4, 3, 2, 1, 0] (.alt 11 [12, 10, 9, 5, 4, 3, 2, 1, 0] (.take 13 (.alt 14 [13, 12, 9, 5, 3, 2, 1, 0] (.done [12]) .nil)) .nil) .nil))))))))))))) T_ok (by kernel_rfl) (by kernel_rfl) (by kernel_rfl) (fun _ _ _ _ h => h) ?_
      simp [go_sem, h.b0, hb1, h.b2, hbx, n0, n1, n2, n3, n4, n5, n6, n7]
      refine call_val (cellOf66 a.x 3 (by omega)) rfl rfl ?_
      simp [go_sem, h.b0, hb1, h.b2, hbx, n0, n1, n2, n3, n4, n5, n6, n7]
      have hc3 := h.of.ps 3 (by omega)
      refine add80K (hsk' 3 (by omega)) (by omega) (h.of.ra 3 (by omega)).2 hc3 (hinv' 3).cells (fun P hP => ⟨(h.of.pa 3 (by omega) P hP).2.1, (h.of.pa 3 (by omega) P hP).2.2 3 (by omega), h.of.nu 3 (by omega) P hP⟩) (fun P hP P' hP' e => (h.of.pi 3 3 (by omega) (by omega) P hP P' hP' e).2) ?_
      intro M1 nx1 r1 p1 pos1 q1 q2 q3 q4 q5 q6 q7 q8 q9 q10
      obtain ⟨t1, t2, t3, ⟨fj, t4⟩, t5⟩ := h.step (j := 3) (by omega) q1 q2 q3 q4 q5 q6 q7 (hat' 3) q8 q9 q10
      rw [bxL_eq] at t4
      have t6 : M1 nx2 = some (.box [.i a.id, .w a.x.c, .w a.x.m]) := by
        have := t1 nx2 (.inr rfl)
        rw [hbx] at this
        exact this.eq (fun _ => rfl) (fun _ _ => rfl)
      have m1 : nx < nx3 := by omega
      have m2 : nx + 1 < nx3 := by omega
      have m3 : nx + 2 < nx3 := by omega
      have m4 : ¬ nx2 = nx + 1 := by omega
      simp [go_sem, t2, t3, t4, t6, m1, m2, m3, m4, hbB]
      exact ⟨3 + 1, by omega, rfl, by omega, _, _, t5 _ _ (fun q hq => upd_ne _ _ hq) (hcs 3) (by rw [upd_same, hcs 3]; rfl)⟩
    · simp [go_sem, h.b0, hb1, h.b2, hbx, n0, n1, n2, n3, n4, n5, n6, n7]
      refine GDraw_l (t := (.take 0 (.take 1 (.take 2 (.take 3 (.take 4 (.take 5 (.take 6 (.take 7 (.take 9 (.take 10 (.take 12 (.alt 8 [12, 10, 9, 7, 6, 5, 4, 3, 2, 1, 0] (.alt 11 [12, 10, 9, 5, 4, 3, 2, 1, 0] (.take 13 (.alt 14 [13, 12, 9, 5, 3, 2, 1, 0] (.done [12]) .nil)) .nil) .nil))))))))))))) T_ok (by kernel_rfl) (by kernel_rfl) (by kernel_rfl) (fun _ _ _ _ h => h) ?_
      simp [go_sem, h.b0, hb1, h.b2, hbx, n0, n1, n2, n3, n4, n5, n6, n7]
      refine call_val (cellOf66 a.x 4 (by omega)) rfl rfl ?_
      simp [go_sem, h.b0, hb1, h.b2, hbx, n0, n1, n2, n3, n4, n5, n6, n7]
      have hc4 := h.of.ps 4 (by omega)
      refine add80K (hsk' 4 (by omega)) (by omega) (h.of.ra 4 (by omega)).2 hc4 (hinv' 4).cells (fun P hP => ⟨(h.of.pa 4 (by omega) P hP).2.1, (h.of.pa 4 (by omega) P hP).2.2 4 (by omega), h.of.nu 4 (by omega) P hP⟩) (fun P hP P' hP' e => (h.of.pi 4 4 (by omega) (by omega) P hP P' hP' e).2) ?_
      intro M1 nx1 r1 p1 pos1 q1 q2 q3 q4 q5 q6 q7 q8 q9 q10
      obtain ⟨t1, t2, t3, ⟨fj, t4⟩, t5⟩ := h.step (j := 4) (by omega) q1 q2 q3 q4 q5 q6 q7 (hat' 4) q8 q9 q10
      rw [bxL_eq] at t4
      have t6 : M1 nx2 = some (.box [.i a.id, .w a.x.c, .w a.x.m]) := by
        have := t1 nx2 (.inr rfl)
        rw [hbx] at this
        exact this.eq (fun _ => rfl) (fun _ _ => rfl)
      have m1 : nx < nx3 := by omega
      have m2 : nx + 1 < nx3 := by omega
      have m3 : nx + 2 < nx3 := by omega
      have m4 : ¬ nx2 = nx + 1 := by omega
      simp [go_sem, t2, t3, t4, t6, m1, m2, m3, m4, hbB]
      exact ⟨4 + 1, by omega, rfl, by omega, _, _, t5 _ _ (fun q hq => upd_ne _ _ hq) (hcs 4) (by rw [upd_same, hcs 4]; rfl)⟩
    · simp [go_sem, h.b0, hb1, h.b2, hbx, n0, n1, n2, n3, n4, n5, n6, n7]
      refine GDraw_l (t := (.take 0 (.take 1 (.take 2 (.take 3 (.take 4 (.take 5 (.take 6 (.take 7 (.take 9 (.take 10 (.take 12 (.alt 8 [12, 10, 9, 7, 6, 5, 4, 3, 2, 1, 0] (.alt 11 [12, 10, 9, 5, 4, 3, 2, 1, 0] (.take 13 (.alt 14 [13, 12, 9, 5, 3, 2, 1, 0] (.done [12]) .nil)) .nil) .nil))))))))))))) T_ok (by kernel_rfl) (by kernel_rfl) (by kernel_rfl) (fun _ _ _ _ h => h) ?_
      simp [go_sem, h.b0, hb1, h.b2, hbx, n0, n1, n2, n3, n4, n5, n6, n7]
      refine call_val (cellOf66 a.x 5 (by omega)) rfl rfl ?_
      simp [go_sem, h.b0, hb1, h.b2, hbx, n0, n1, n2, n3, n4, n5, n6, n7]
      have hc5 := h.of.ps 5 (by omega)
      refine add80K (hsk' 5 (by omega)) (by omega) (h.of.ra 5 (by omega)).2 hc5 (hinv' 5).cells (fun P hP => ⟨(h.of.pa 5 (by omega) P hP).2.1, (h.of.pa 5 (by omega) P hP).2.2 5 (by omega), h.of.nu 5 (by omega) P hP⟩) (fun P hP P' hP' e => (h.of.pi 5 5 (by omega) (by omega) P hP P' hP' e).2) ?_
      intro M1 nx1 r1 p1 pos1 q1 q2 q3 q4 q5 q6 q7 q8 q9 q10
      obtain ⟨t1, t2, t3, ⟨fj, t4⟩, t5⟩ := h.step (j := 5) (by omega) q1 q2 q3 q4 q5 q6 q7 (hat' 5) q8 q9 q10
      rw [bxL_eq] at t4
      have t6 : M1 nx2 = some (.box [.i a.id, .w a.x.c, .w a.x.m]) := by
        have := t1 nx2 (.inr rfl)
        rw [hbx] at this
        exact this.eq (fun _ => rfl) (fun _ _ => rfl)
      have m1 : nx < nx3 := by omega
      have m2 : nx + 1 < nx3 := by omega
      have m3 : nx + 2 < nx3 := by omega
      have m4 : ¬ nx2 = nx + 1 := by omega
      simp [go_sem, t2, t3, t4, t6, m1, m2, m3, m4, hbB]
      exact ⟨5 + 1, by omega, rfl, by omega, _, _, t5 _ _ (fun q hq => upd_ne _ _ hq) (hcs 5) (by rw [upd_same, hcs 5]; rfl)⟩
    · simp [go_sem, h.b0, hb1, h.b2, hbx, n0, n1, n2, n3, n4, n5, n6, n7]
      refine GDraw_l (t := (.take 0 (.take 1 (.take 2 (.take 3 (.take 4 (.take 5 (.take 6 (.take 7 (.take 9 (.take 10 (.take 12 (.alt 8 [12, 10, 9, 7, 6, 5, 4, 3, 2, 1, 0] (.alt 11 [12, 10, 9, 5, 4, 3, 2, 1, 0] (.take 13 (.alt 14 [13, 12, 9, 5, 3, 2, 1, 0] (.done [12]) .nil)) .nil) .nil))))))))))))) T_ok (by kernel_rfl) (by kernel_rfl) (by kernel_rfl) (fun _ _ _ _ h => h) ?_
      simp [go_sem, h.b0, hb1, h.b2, hbx, n0, n1, n2, n3, n4, n5, n6, n7]
      refine call_val (cellOf66 a.x 6 (by omega)) rfl rfl ?_
      simp [go_sem, h.b0, hb1, h.b2, hbx, n0, n1, n2, n3, n4, n5, n6, n7]
      have hc6 := h.of.ps 6 (by omega)
      refine add80K (hsk' 6 (by omega)) (by omega) (h.of.ra 6 (by omega)).2 hc6 (hinv' 6).cells (fun P hP => ⟨(h.of.pa 6 (by omega) P hP).2.1, (h.of.pa 6 (by omega) P hP).2.2 6 (by omega), h.of.nu 6 (by omega) P hP⟩) (fun P hP P' hP' e => (h.of.pi 6 6 (by omega) (by omega) P hP P' hP' e).2) ?_
      intro M1 nx1 r1 p1 pos1 q1 q2 q3 q4 q5 q6 q7 q8 q9 q10
      obtain ⟨t1, t2, t3, ⟨fj, t4⟩, t5⟩ := h.step (j := 6) (by omega) q1 q2 q3 q4 q5 q6 q7 (hat' 6) q8 q9 q10
      rw [bxL_eq] at t4
      have t6 : M1 nx2 = some (.box [.i a.id, .w a.x.c, .w a.x.m]) := by
        have := t1 nx2 (.inr rfl)
        rw [hbx] at this
        exact this.eq (fun _ => rfl) (fun _ _ => rfl)
      have m1 : nx < nx3 := by omega
      have m2 : nx + 1 < nx3 := by omega
      have m3 : nx + 2 < nx3 := by omega
      have m4 : ¬ nx2 = nx + 1 := by omega
      simp [go_sem, t2, t3, t4, t6, m1, m2, m3, m4, hbB]
      exact ⟨6 + 1, by omega, rfl, by omega, _, _, t5 _ _ (fun q hq => upd_ne _ _ hq) (hcs 6) (by rw [upd_same, hcs 6]; rfl)⟩
    · simp [go_sem, h.b0, hb1, h.b2, hbx, n0, n1, n2, n3, n4, n5, n6, n7]
      refine GDraw_l (t := (.take 0 (.take 1 (.take 2 (.take 3 (.take 4 (.take 5 (.take 6 (.take 7 (.take 9 (.take 10 (.take 12 (.alt 8 [12, 10, 9, 7, 6, 5, 4, 3, 2, 1, 0] (.alt 11 [12, 10, 9, 5, 4, 3, 2, 1, 0] (.take 13 (.alt 14 [13, 12, 9, 5, 3, 2, 1, 0] (.done [12]) .nil)) .nil) .nil))))))))))))) T_ok (by kernel_rfl) (by kernel_rfl) (by kernel_rfl) (fun _ _ _ _ h => h) ?_
      simp [go_sem, h.b0, hb1, h.b2, hbx, n0, n1, n2, n3, n4, n5, n6, n7]
      refine call_val (cellOf66 a.x 7 (by omega)) rfl rfl ?_
      simp [go_sem, h.b0, hb1, h.b2, hbx, n0, n1, n2, n3, n4, n5, n6, n7]
      have hc7 := h.of.ps 7 (by omega)
      refine add80K (hsk' 7 (by omega)) (by omega) (h.of.ra 7 (by omega)).2 hc7 (hinv' 7).cells (fun P hP => ⟨(h.of.pa 7 (by omega) P hP).2.1, (h.of.pa 7 (by omega) P hP).2.2 7 (by omega), h.of.nu 7 (by omega) P hP⟩) (fun P hP P' hP' e => (h.of.pi 7 7 (by omega) (by omega) P hP P' hP' e).2) ?_
      intro M1 nx1 r1 p1 pos1 q1 q2 q3 q4 q5 q6 q7 q8 q9 q10
      obtain ⟨t1, t2, t3, ⟨fj, t4⟩, t5⟩ := h.step (j := 7) (by omega) q1 q2 q3 q4 q5 q6 q7 (hat' 7) q8 q9 q10
      rw [bxL_eq] at t4
      have t6 : M1 nx2 = some (.box [.i a.id, .w a.x.c, .w a.x.m]) := by
        have := t1 nx2 (.inr rfl)
        rw [hbx] at this
        exact this.eq (fun _ => rfl) (fun _ _ => rfl)
      have m1 : nx < nx3 := by omega
      have m2 : nx + 1 < nx3 := by omega
      have m3 : nx + 2 < nx3 := by omega
      have m4 : ¬ nx2 = nx + 1 := by omega
      simp [go_sem, t2, t3, t4, t6, m1, m2, m3, m4, hbB]
      exact ⟨7 + 1, by omega, rfl, by omega, _, _, t5 _ _ (fun q hq => upd_ne _ _ hq) (hcs 7) (by rw [upd_same, hcs 7]; rfl)⟩
    · simp [go_sem, h.b0, hb1, h.b2, hbx, n0, n1, n2, n3, n4, n5, n6, n7]
      exact ⟨by omega, k + 1, by omega, by omega, by omega, r, pos, h.wkc (fun i hi => by simp [cIn, hi]) (fun q hq => by omega) (fun q hq => hq) fun q _ hq => .inl hq⟩
  · have hkl : k = ms.length := by omega
    subst hkl
    simp [go_sem, h.b0, hb1, h.b2, n0, n1, n2, n3, n4, n5]
    refine hK _ _ nx2 (by omega) ⟨nx + 2, r, pos, rfl, by omega, hbA, ?_, ?_⟩ fun q hq => ?_
    · rw [upd_ne _ _ (by omega)]; exact h.b2
    · exact (h.of.mem (Nat.le_refl _) fun q hq hnq => upd_ne _ _ fun e => hnq (by omega)).wk fun q hq ha => by rcases ha with ha | ha <;> omega
    · rw [upd_ne _ _ (by omega)]
      exact h.kp q hq
end Go.Gx.Ix
