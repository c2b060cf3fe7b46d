/-
  Keys of maps that are arrays of two ints, or structs of an int and a truth value.
-/
import Derived.Test.YtnajladibkpeaaaGreatK5
import Derived.WideKeyRuns
set_option linter.unusedVariables false
set_option linter.unusedSimpArgs false
namespace Go.Gx
open Go.RowKit

def pairChk (P : Program) (k : TypeId) : Bool :=
  match P.underlying k with
  | some (.array n e) => decide (n = 2) && (P.info? e).isSome && decide (P.cellsOf e = 1) && (match P.underlying e with | some (.int .i64) => true | _ => false)
  | _ => false
def voteChk (P : Program) (k : TypeId) : Bool :=
  match P.underlying k with
  | some (.struct fs) =>
    match fs.toList with
    | [f, g] => decide (f.name ≠ "_") && decide (g.name ≠ "_") && decide (f.offset = 0) && decide (g.offset = 1) && (match P.underlying f.type with | some (.int .i64) => true | _ => false) && (match P.underlying g.type with | some .bool => true | _ => false)
    | _ => false
  | _ => false

section
variable {P : Program}
theorem find_of_eq {k : TypeId} {kd : KK} (hwide : (match P.underlying k with | some (.array _ _) | some (.struct _) => true | _ => false) = true)
    (heq : ∀ (w : World) (a b : Int), (Op.equal k (kd.val a) (kd.val b)).run P w = .ok (decide (a = b)) w) (w : World) (a : Int) (es : List MapEntry) (hes : ∀ e ∈ es, ∃ b, e.key = kd.val b) :
    ((Instr.findKey k (kd.val a) es).run P w = .ok none w ∧ ∀ e ∈ es, e.key ≠ kd.val a) ∨ ∃ j e, (Instr.findKey k (kd.val a) es).run P w = .ok (some (j, e.val)) w ∧ es[j]? = some e ∧ e.key = kd.val a := by
  rw [run_findKey_eq w hwide]
  have key : ∀ (es : List MapEntry) (i : Nat), (∀ e ∈ es, ∃ b, e.key = kd.val b) →
      ((Instr.findAsking k (kd.val a) es i).run P w = .ok none w ∧ ∀ e ∈ es, e.key ≠ kd.val a) ∨ ∃ j e, (Instr.findAsking k (kd.val a) es i).run P w = .ok (some (i + j, e.val)) w ∧ es[j]? = some e ∧ e.key = kd.val a := by
    intro es
    induction es with
    | nil => intro i _; exact .inl ⟨by simp [Instr.findAsking], by simp⟩
    | cons e es ih =>
      intro i hall
      obtain ⟨b, hb⟩ := hall e (by simp)
      have hr := heq w a b
      by_cases hab : a = b
      · subst hab
        exact .inr ⟨0, e, by simp [Instr.findAsking, hb, hr], rfl, hb⟩
      · rw [decide_eq_false hab] at hr
        rcases ih (i + 1) (fun y hy => hall y (by simp [hy])) with ⟨h1, h2⟩ | ⟨j, e', h1, h2, h3⟩
        · refine .inl ⟨by simp [Instr.findAsking, hb, hr, h1], fun y hy => ?_⟩
          rcases List.mem_cons.1 hy with rfl | hy
          · rw [hb]; exact fun h => hab (KK.val_inj h).symm
          · exact h2 y hy
        · exact .inr ⟨j + 1, e', by simp [Instr.findAsking, hb, hr, h1, Nat.add_assoc, Nat.add_comm 1 j], by simpa using h2, h3⟩
  rcases key es 0 hes with h | ⟨j, e, h1, h2, h3⟩
  · exact .inl h
  · exact .inr ⟨j, e, by simpa using h1, h2, h3⟩

theorem keyOK_p {k : TypeId} (hc : pairChk P k = true) (he : eqChkA P k [.int .i64, .int .i64] = true) : KeyOK P k .p := by
  unfold pairChk at hc
  cases hu : P.underlying k with
  | none => simp [hu] at hc
  | some d =>
    cases d with
    | array n e =>
      simp only [hu, Bool.and_eq_true, decide_eq_true_eq] at hc
      obtain ⟨⟨⟨rfl, hi⟩, h1⟩, h2⟩ := hc
      obtain ⟨i, hi⟩ := Option.isSome_iff_exists.1 hi
      have hue : P.underlying e = some (.int .i64) := by
        cases hq : P.underlying e with
        | none => simp [hq] at h2
        | some d => cases d <;> simp [hq] at h2; rename_i kk; cases kk <;> simp at h2; rfl
      refine ⟨fun w em a => ?_, find_of_eq (by simp [hu]) fun w a b => ?_, fun w a => ?_⟩
      · rw [show (10000 : Nat) = 9999 + 1 from rfl, Instr.checkKey]
        simp only [Sem.run_bind, run_underlying hu, Result.andThen_ok, KK.val]
        have hpl : P.plainKey e = true := by simp [Program.plainKey, hue]
        have step : ∀ (j : Nat) (v : Int), (#[Value.int .i64 (a / 4294967296), .int .i64 (a % 4294967296)] : Array Value)[j]? = some (.int .i64 v) → (part e #[.int .i64 (a / 4294967296), .int .i64 (a % 4294967296)] j).run P w = .ok (.int .i64 v) w := fun j v hv => run_part_plain w hpl hv
        have hk : ∀ v : Int, (Instr.checkKey em 9999 e (.int .i64 v)).run P w = .ok () w := fun v => MapKept.run_checkKey (d := .int .i64) (k := .int .i64 v) hue rfl _ 9998
        simp [Std.Legacy.Range.forIn_eq_forIn_range', Std.Legacy.Range.size, List.range'_succ, run_sizeOf w hi, h1, step 0 _ rfl, step 1 _ rfl, hk]
      · have h := (eq_of_chkA he [.int .i64 (a / 4294967296), .int .i64 (a % 4294967296)] [.int .i64 (b / 4294967296), .int .i64 (b % 4294967296)] w ⟨_, _, rfl, ⟨_, rfl⟩, _, _, rfl, ⟨_, rfl⟩, rfl⟩ ⟨_, _, rfl, ⟨_, rfl⟩, _, _, rfl, ⟨_, rfl⟩, rfl⟩).1
        show (Op.equal k (.agg [Value.int .i64 (a / 4294967296), .int .i64 (a % 4294967296)].toArray) (.agg [Value.int .i64 (b / 4294967296), .int .i64 (b % 4294967296)].toArray)).run P w = _
        rw [h]
        congr 1
        simp only [eqVL, eqV]
        by_cases hab : a = b
        · subst hab; simp
        · rw [decide_eq_false hab]
          by_cases h3 : a / 4294967296 = b / 4294967296
          · rw [decide_eq_false (p := a % 4294967296 = b % 4294967296) (by omega)]; simp
          · rw [decide_eq_false h3]; simp
      · simp [Instr.keyThatStays, Instr.sameBits, KK.val]
    | _ => simp [hu] at hc

theorem keyOK_v {k : TypeId} (hc : voteChk P k = true) (he : eqChk P k [.int .i64, .bool] = true) : KeyOK P k .v := by
  unfold voteChk at hc
  cases hu : P.underlying k with
  | none => simp [hu] at hc
  | some d =>
    cases d with
    | struct fs =>
      obtain ⟨fl⟩ := fs
      simp only [hu] at hc
      cases fl with
      | nil => simp at hc
      | cons f fl =>
      cases fl with
      | nil => simp at hc
      | cons g fl =>
      cases fl with
      | cons _ _ => simp at hc
      | nil =>
      simp only [Bool.and_eq_true, decide_eq_true_eq] at hc
      obtain ⟨⟨⟨⟨⟨n1, n2⟩, o1⟩, o2⟩, h1⟩, h2⟩ := hc
      have hf : P.underlying f.type = some (.int .i64) := by
        cases hq : P.underlying f.type with
        | none => simp [hq] at h1
        | some d => cases d <;> simp [hq] at h1; rename_i kk; cases kk <;> simp at h1; rfl
      have hg : P.underlying g.type = some .bool := by
        cases hq : P.underlying g.type with
        | none => simp [hq] at h2
        | some d => cases d <;> simp [hq] at h2; rfl
      refine ⟨fun w em a => ?_, find_of_eq (by simp [hu]) fun w a b => ?_, fun w a => ?_⟩
      · rw [show (10000 : Nat) = 9999 + 1 from rfl, Instr.checkKey]
        simp only [Sem.run_bind, run_underlying hu, Result.andThen_ok, KK.val]
        have p1 : (part f.type #[.int .i64 (a / 2), .bool (decide (a % 2 = 1))] 0).run P w = .ok (.int .i64 (a / 2)) w := run_part_plain w (by simp [Program.plainKey, hf]) rfl
        have p2 : (part g.type #[.int .i64 (a / 2), .bool (decide (a % 2 = 1))] 1).run P w = .ok (.bool (decide (a % 2 = 1))) w := run_part_plain w (by simp [Program.plainKey, hg]) rfl
        have k1 : ∀ v : Int, (Instr.checkKey em 9999 f.type (.int .i64 v)).run P w = .ok () w := fun v => MapKept.run_checkKey (d := .int .i64) (k := .int .i64 v) hf rfl _ 9998
        have k2 : ∀ v : Bool, (Instr.checkKey em 9999 g.type (.bool v)).run P w = .ok () w := fun v => MapKept.run_checkKey (d := .bool) (k := .bool v) hg trivial _ 9998
        simp [n1, n2, o1, o2, p1, p2, k1, k2]
      · have h := (eq_of_chk he [.int .i64 (a / 2), .bool (decide (a % 2 = 1))] [.int .i64 (b / 2), .bool (decide (b % 2 = 1))] w ⟨_, _, rfl, ⟨_, rfl⟩, _, _, rfl, ⟨_, rfl⟩, rfl⟩ ⟨_, _, rfl, ⟨_, rfl⟩, _, _, rfl, ⟨_, rfl⟩, rfl⟩).1
        show (Op.equal k (.agg [Value.int .i64 (a / 2), .bool (decide (a % 2 = 1))].toArray) (.agg [Value.int .i64 (b / 2), .bool (decide (b % 2 = 1))].toArray)).run P w = _
        rw [h]
        congr 1
        simp only [eqVL, eqV]
        by_cases hab : a = b
        · subst hab; simp
        · rw [decide_eq_false hab]
          by_cases h3 : a / 2 = b / 2
          · have : decide (decide (a % 2 = 1) = decide (b % 2 = 1)) = false := by
              rw [decide_eq_false_iff_not]
              intro h4
              have h5 : (a % 2 = 1) ↔ (b % 2 = 1) := by simpa using h4
              omega
            rw [this]; simp
          · rw [decide_eq_false h3]; simp
      · simp [Instr.keyThatStays, Instr.sameBits, KK.val]
    | _ => simp [hu] at hc
end
end Go.Gx
