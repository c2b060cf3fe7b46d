/-
  All operations.
-/
import Derived.Test.YtaggojedpkddjaaGl
set_option linter.unusedVariables false
set_option linter.unusedSimpArgs false
namespace Go.Gx
open Go.RowKit

section
variable {P : Program} {T : Tab} {B W F : Nat → Prop} {n0 : Nat} {σ : Sig} {M : Mem} {nx : Nat} {w : World} {a : Act} {E : Env}

theorem evs_rel {Z : Nat → Prop} (he : EOK σ Z w E a) : ∀ l : List Operand, SV.relL σ Z w (l.map (ev E)) (l.map a.eval)
  | [] => rfl
  | x :: l => ⟨_, _, rfl, ev_rel he x, evs_rel he l⟩

theorem orel {Z : Nat → Prop} (he : EOK σ Z w E a) (o : Option Operand) : ORel σ Z w (o.map (ev E)) (o.map a.eval) := by
  cases o with
  | none => exact .inl ⟨rfl, rfl⟩
  | some x => exact .inr ⟨_, _, rfl, rfl, ev_rel he x⟩

theorem relL_cells {Z : Nat → Prop} (f : Nat → RV) : ∀ (n o : Nat) (vs : List Value), vs.length = n → (∀ i v, vs[i]? = some v → (f (o + i)).rel Z w v) → SV.relL σ Z w (cellsFrom (fun i => .r (f i)) o n) vs
  | 0, o, vs, h, _ => by
    have := List.eq_nil_of_length_eq_zero h
    subst this; rfl
  | n + 1, o, [], h, _ => by simp at h
  | n + 1, o, v :: vs, h, H => ⟨v, vs, rfl, H 0 v rfl, relL_cells f n (o + 1) vs (by simpa using h) fun i u hu => by
      have := H (i + 1) u (by simpa using hu)
      rwa [show o + 1 + i = o + (i + 1) from by omega]⟩

theorem vrun_bind (s : Sem Value) : (do pure (.value (← s)) : Sem Next).run P w = vrun (s.run P w) := by rw [Sem.run_bind]; rfl

theorem exec_v {o : Oper} {r : Result Value} (h : (execOp a.eval o).run P w = vrun r) {g : GR} (hs : Snd P B W n0 σ M F nx w (vrun r) g) : Snd P B W n0 σ M F nx w ((execOp a.eval o).run P w) g := by rw [h]; exact hs

theorem snd_op (hT : TabOK P T) (hm : MOK B W n0 σ M F w) (hq : F nx) (hn0 : n0 ≤ w.heap.size) (he : EOK σ (Zof B σ M w) w E a) (o : Oper) :
    Snd P B W n0 σ M F nx w ((execOp a.eval o).run P w) (gop T o.op E M nx) := by
  obtain ⟨dst, op, ty, pos, after, guard⟩ := o
  show Snd P B W n0 σ M F nx w ((execOp a.eval ⟨dst, op, ty, pos, after, guard⟩).run P w) (gop T op E M nx)
  cases op with
  | move x => intro _; exact POut.val (ev_rel he x)
  | assign x => intro _; exact POut.val (ev_rel he x)
  | box t x =>
    simp only [gop]
    split
    · rename_i i hi
      exact exec_v (r := (Instr.box t (a.eval x)).run P w) (vrun_bind _) (snd_box hT hm hq hn0 t hi (ev_rel he x))
    · trivial
  | alloc t =>
    simp only [gop]
    split
    · rename_i i hi
      exact exec_v (r := (Instr.alloc t true (.tuple #[])).run P w) (vrun_bind _) (snd_alloc hT hm hq hn0 t hi)
    · trivial
  | build t ps =>
    have h := snd_build (P := P) (B := B) (W := W) (n0 := n0) (F := F) (nx := nx) hT t ps he
    have hps : (ps.map fun p => (p.1, a.eval p.2)) = (ps.map fun (i, x) => (i, a.eval x)) := rfl
    rw [hps] at h
    have e : (execOp a.eval ⟨dst, .build t ps, ty, pos, after, guard⟩).run P w = vrun ((Instr.build t (ps.map fun (i, x) => (i, a.eval x))).run P w) := vrun_bind _
    rw [e]
    exact h
  | buildSlice t len ps =>
    have h := snd_buildSlice (P := P) hT hm hq hn0 t len ps he
    have hps : (ps.map fun p => (p.1, a.eval p.2)) = (ps.map fun (i, x) => (i, a.eval x)) := rfl
    rw [hps] at h
    have e : (execOp a.eval ⟨dst, .buildSlice t len ps, ty, pos, after, guard⟩).run P w = vrun ((Instr.buildSlice t len (ps.map fun (i, x) => (i, a.eval x))).run P w) := vrun_bind _
    rw [e]
    exact h
  | load t x =>
    simp only [gop]
    exact exec_v (r := (Instr.loadAt t (a.eval x)).run P w) (vrun_bind _) (snd_load hT hm t (ev_rel he x))
  | store t x y =>
    have h := snd_store (nx := nx) hT hm t (ev_rel he x) (ev_rel he y)
    have e : (execOp a.eval ⟨dst, .store t x y, ty, pos, after, guard⟩).run P w = ((Instr.storeAt t (a.eval x) (a.eval y)).run P w).andThen fun _ w' => .ok .skip w' := by simp only [execOp, Sem.run_bind]; rfl
    rw [e]; exact h
  | nilCheck x =>
    have h := ev_rel he x
    simp only [gop]
    split
    · rename_i q1 q2 q3 q4 heq
      rw [heq] at h
      obtain ⟨L, b, h1, h2, h3⟩ := h
      intro _
      have e : (execOp a.eval ⟨dst, .nilCheck x, ty, pos, after, guard⟩).run P w = .ok (.value (.pointer (some ⟨b, q2 * q3 + q4, none⟩))) w := by simp [execOp, h3]
      rw [e]; exact POut.val ⟨L, b, h1, h2, rfl⟩
    · rename_i q1 q2 q3 q4 q5 heq
      rw [heq] at h
      obtain ⟨b, o, h1, h2⟩ := h
      intro _
      have e : (execOp a.eval ⟨dst, .nilCheck x, ty, pos, after, guard⟩).run P w = .ok (.value (a.eval x)) w := by simp [execOp, h1]
      rw [e]; exact POut.val ⟨b, o, h1, h2⟩
    · rename_i f fi ca heq
      rw [heq] at h
      split
      · rename_i g
        obtain ⟨vs, ws, h1, h2, h3⟩ := h
        intro _
        have e : (execOp a.eval ⟨dst, .nilCheck x, ty, pos, after, guard⟩).run P w = .ok (.value (a.eval x)) w := by simp [execOp, h1]
        rw [e]; exact POut.val ⟨vs, ws, h1, h2, h3⟩
      · trivial
    · trivial
  | binOp op t x y t' =>
    have hx := ev_rel he x
    have hy := ev_rel he y
    have e : (execOp a.eval ⟨dst, .binOp op t x y t', ty, pos, after, guard⟩).run P w = vrun ((do eqGuard op t x y (a.eval x) (a.eval y); binOp op t (a.eval x) (a.eval y) : Sem Value).run P w) := vrun_bind _
    have h1 := snd_bin (P := P) (B := B) (W := W) (n0 := n0) (F := F) (nx := nx) op t x y hx hy
    rw [e]
    simp only [gop]
    split
    · split
      · exact snd_eq hT false .eql rfl t x y hx hy
      · exact snd_eq hT true .neq rfl t x y hx hy
      · trivial
    · rename_i g hg
      exact h1
  | unOp op t x =>
    have hx := ev_rel he x
    have e : (execOp a.eval ⟨dst, .unOp op t x, ty, pos, after, guard⟩).run P w = vrun ((Op.unary op (a.eval x)).run P w) := vrun_bind _
    rw [e]
    simp only [gop]
    split
    · rename_i b heq
      rw [heq] at hx; rw [show a.eval x = .bool b from hx]
      intro _; exact POut.of rfl rfl
    · rename_i φ heq
      rw [heq] at hx
      obtain ⟨b, hb, hxb⟩ := hx
      rw [hxb]
      intro _; exact POut.of (y := .bool (!b)) rfl ⟨!b, by simpa using hb, rfl⟩
    · rename_i k n heq
      rw [heq] at hx; rw [show a.eval x = .int k n from hx]
      intro hi; exact POut.of (y := .int k (0 - n)) (by simp only [Op.unary, Op.intArith, wrap_inr hi]; rfl) rfl
    · trivial
  | convert s d x =>
    have hx := ev_rel he x
    have e : (execOp a.eval ⟨dst, .convert s d x, ty, pos, after, guard⟩).run P w = vrun ((convert s d (a.eval x)).run P w) := vrun_bind _
    rw [e]
    simp only [gop]
    split
    · rename_i z1 z2 z3 k1 z4 z5 z6 k k2 n h1 h2 heq
      rw [heq] at hx; rw [show a.eval x = .int k2 n from hx]
      have u1 := und_int (hT.ti s _ h1) rfl
      have u2 := und_int (hT.ti d _ h2) rfl
      intro _
      exact POut.of (by simp [convert, run_underlying u1, run_underlying u2, Conv.intToInt]) rfl
    · trivial
  | makeFunc f fi ca =>
    intro _
    have e : (execOp a.eval ⟨dst, .makeFunc f fi ca, ty, pos, after, guard⟩).run P w = .ok (.value (.func f (fi.map a.eval) (ca.map a.eval))) w := rfl
    rw [e]
    exact POut.val ⟨fi.toList.map a.eval, ca.toList.map a.eval, by rw [show fi.map a.eval = (fi.toList.map a.eval).toArray from by apply Array.ext'; simp, show ca.map a.eval = (ca.toList.map a.eval).toArray from by apply Array.ext'; simp], evs_rel he _, evs_rel he _⟩
  | slice t x lo hi mx =>
    simp only [gop]
    exact exec_v (r := (Instr.sliceAt t (a.eval x) (lo.map a.eval) (hi.map a.eval) (mx.map a.eval)).run P w) (vrun_bind _) (snd_slice hT hm t (ev_rel he x) (orel he lo) (orel he hi) (orel he mx))
  | fieldAddr t x f =>
    simp only [gop]
    exact exec_v (r := (Instr.fieldAt t (a.eval x) f).run P w) (vrun_bind _) (snd_field hT t f (ev_rel he x))
  | indexAddr t x i =>
    simp only [gop]
    exact exec_v (r := (Instr.indexAt t (a.eval x) (a.eval i)).run P w) (vrun_bind _) (snd_index hT t (ev_rel he x) (ev_rel he i))
  | extract x i =>
    have hx := ev_rel he x
    have e : (execOp a.eval ⟨dst, .extract x i, ty, pos, after, guard⟩).run P w = vrun ((Instr.extract (a.eval x) i).run P w) := vrun_bind _
    rw [e]
    simp only [gop]
    split
    · rename_i l heq
      rw [heq] at hx
      obtain ⟨vs, hv, hl⟩ := hx
      split
      · rename_i s hs
        obtain ⟨y, h1, h2⟩ := SV.relL_get hl i s hs
        intro _
        rw [hv]
        exact POut.of (by simp [Instr.extract, h1]) h2
      · trivial
    · trivial
  | call c =>
    obtain ⟨callee, args, ts⟩ := c
    have ha := evs_rel he args.toList
    have hmap : args.map a.eval = (args.toList.map a.eval).toArray := by apply Array.ext'; simp
    simp only [gop]
    cases callee with
    | builtin b =>
      have e : (execOp a.eval ⟨dst, .call ⟨.builtin b, args, ts⟩, ty, pos, after, guard⟩).run P w = (builtin b ts ty (args.map fun | .const _ => true | _ => false) (args.toList.map a.eval).toArray).run P w := by
        simp only [execOp, resolve, Sem.run_bind, Sem.run_pure, Result.andThen_ok, invoke, hmap]
        rfl
      rw [e]
      generalize args.toList.map a.eval = vs at *
      generalize args.toList.map (ev E) = l at *
      obtain ⟨tl⟩ := ts
      simp only
      unfold gbuiltin
      split
      · obtain ⟨y, _, rfl, h1, rfl⟩ := ha
        have := snd_len (P := P) (B := B) (W := W) (n0 := n0) (F := F) (nx := nx) hT (by assumption) ty h1
        simp only [builtin, Sem.run_bind]
        exact this
      · obtain ⟨y, _, rfl, h1, y', _, rfl, h2, rfl⟩ := ha
        split
        · rename_i ht
          cases ht
          have := snd_append (P := P) hT hm hq hn0 (by assumption) ty h1 h2
          simp only [builtin, Sem.run_bind]
          exact this
        · simp only [builtin, Sem.run_bind]
          exact snd_appendZ (P := P) hT hm hq hn0 _ _ ty h1 h2
      · obtain ⟨y, _, rfl, h1, y', _, rfl, h2, rfl⟩ := ha
        simp only [builtin, Sem.run_bind]
        exact snd_copy (P := P) (nx := nx) hT hm _ _ ty h1 h2
      · obtain ⟨y, _, rfl, h1, rfl⟩ := ha
        have := snd_clear (P := P) (nx := nx) hT hm (by assumption) ty h1
        simp only [builtin, Sem.run_bind]
        exact this
      · have := snd_max (P := P) (B := B) (W := W) (n0 := n0) (F := F) (nx := nx) ⟨tl⟩ ty ha
        simp only [builtin, Sem.run_bind]
        exact this
      · have := snd_min (P := P) (B := B) (W := W) (n0 := n0) (F := F) (nx := nx) ⟨tl⟩ ty ha
        simp only [builtin, Sem.run_bind]
        exact this
      · trivial
    | value f =>
      have hf := ev_rel he f
      simp only
      split
      · rename_i g fi ca heq
        rw [heq] at hf
        obtain ⟨vs, ws, h1, h2, h3⟩ := hf
        refine ⟨vs ++ args.toList.map a.eval ++ ws, relL_append (relL_append h2 ha) h3, ?_⟩
        simp only [execOp, resolve, Sem.run_bind, Sem.run_pure, Result.andThen_ok, h1, Deferred.ofValue, invoke, hmap]
        congr 2
        simp
      · rename_i g nf nc fi ca heq
        rw [heq] at hf
        obtain ⟨vs, ws, h1, h2, h3, h4, h5⟩ := hf
        refine ⟨vs ++ args.toList.map a.eval ++ ws, relL_append (relL_append (relL_cells fi nf 0 vs h2 (by simpa using h4)) ha) (relL_cells ca nc 0 ws h3 (by simpa using h5)), ?_⟩
        simp only [execOp, resolve, Sem.run_bind, Sem.run_pure, Result.andThen_ok, h1, Deferred.ofValue, invoke, hmap]
        congr 2
        simp
      · trivial
    | invoke r m => trivial
  | _ => trivial
end
end Go.Gx
