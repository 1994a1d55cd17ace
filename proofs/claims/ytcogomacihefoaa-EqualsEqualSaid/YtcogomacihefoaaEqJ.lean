/- Lemmas: SEq. -/
import Derived.Test.YtcogomacihefoaaEqI
set_option linter.unusedVariables false
set_option linter.unusedSimpArgs false
set_option linter.unusedSectionVars false
set_option linter.deprecated false
namespace Go.Eng.E3
open Go Go.Eng Go.Proofs
set_option maxRecDepth 100000
attribute [local simp] execR runOps stepOp wantedD evalOp opd upd St.put Eff.apply upds looseOk FP.free FP.idle apart Eff.fp ofVal loadD storeD partD setPart indexAddrD isShift arith unD callOp mapO D.okc pickD buildable buildD placeD convD
set_option linter.unusedSimpArgs false
set_option linter.unusedVariables false

/-! ### The drawn arguments -/

theorem has_u8 {n : Nat} {l : List D} (h : hasT Try.prog (n + 1) 5 l) : ∃ x, l = [.int .u8 x] ∧ 0 ≤ x ∧ x < 256 := by
  simp only [hasT, und_5] at h
  obtain ⟨x, rfl, hw⟩ := h
  simp [Lit.wf, IntKind.min, IntKind.max, IntKind.signed, IntKind.bits] at hw
  exact ⟨x, rfl, by omega, by omega⟩
theorem has_int {n : Nat} {l : List D} (h : hasT Try.prog (n + 1) 3 l) : ∃ x, l = [.int .i64 x] := by
  simp only [hasT, und_3] at h
  obtain ⟨x, rfl, hw⟩ := h
  exact ⟨x, rfl⟩
theorem has_bool {n : Nat} {l : List D} (h : hasT Try.prog (n + 1) 4 l) : ∃ x, l = [.bool x] := by
  simp only [hasT, und_4] at h
  exact h

theorem ints_of {k : IntKind} {m : Int} : ∀ {xs : List D}, (∀ x ∈ xs, ∃ v, x = .int k v ∧ 0 ≤ v ∧ v < m) → ∃ es : List Int, xs = es.map (D.int k) ∧ ∀ e ∈ es, 0 ≤ e ∧ e < m
  | [], _ => ⟨[], rfl, fun e h => by cases h⟩
  | x :: xs, h => by
    obtain ⟨v, rfl, hv⟩ := h x (List.mem_cons_self ..)
    obtain ⟨es, rfl, he⟩ := ints_of fun y hy => h y (List.mem_cons_of_mem _ hy)
    refine ⟨v :: es, rfl, fun e h => ?_⟩
    rcases List.mem_cons.1 h with rfl | h
    · exact hv
    · exact he e h

theorem has_u8s {n : Nat} {l : List D} (h : hasT Try.prog (n + 2) 22 l) : ∃ es : List Int, l = [.frz (es.map (D.int .u8)) .unk] ∧ ∀ e ∈ es, 0 ≤ e ∧ e < 256 := by
  rw [show n + 2 = (n + 1) + 1 from rfl, hasT, und_22] at h
  obtain ⟨xs, rfl, _, hx⟩ := h
  obtain ⟨es, rfl, he⟩ := ints_of (k := .u8) (m := 256) (xs := xs) fun x hx' => by
    obtain ⟨l, h1, h2⟩ := hx x hx'
    obtain ⟨v, rfl, hv⟩ := has_u8 h1
    rw [agb_5] at h2
    simp [asD] at h2
    exact ⟨v, h2.symm, hv⟩
  exact ⟨es, rfl, he⟩
theorem has_u16s {n : Nat} {l : List D} (h : hasT Try.prog (n + 2) 23 l) : ∃ es : List Int, l = [.frz (es.map (D.int .u16)) .unk] ∧ ∀ e ∈ es, 0 ≤ e ∧ e < 65536 := by
  rw [show n + 2 = (n + 1) + 1 from rfl, hasT, und_23] at h
  obtain ⟨xs, rfl, _, hx⟩ := h
  obtain ⟨es, rfl, he⟩ := ints_of (k := .u16) (m := 65536) (xs := xs) fun x hx' => by
    obtain ⟨l, h1, h2⟩ := hx x hx'
    simp only [hasT, und_77] at h1
    obtain ⟨x, rfl, hw⟩ := h1
    simp [Lit.wf, IntKind.min, IntKind.max, IntKind.signed, IntKind.bits] at hw
    rw [agb_77] at h2
    simp [asD] at h2
    exact ⟨x, h2.symm, by omega, by omega⟩
  exact ⟨es, rfl, he⟩

theorem list5 {α : Type} {l : List α} (h : l.length = 5) : ∃ a b c d e, l = [a, b, c, d, e] := by
  match l, h with
  | [a, b, c, d, e], _ => exact ⟨a, b, c, d, e, rfl⟩

theorem has53 {n : Nat} {l : List D} (h : hasT Try.prog (n + 3) 53 l) : ∃ (st ins outs : Int) (p : Bool) (es : List Int), l = [.int .u8 st, .int .u8 ins, .int .u8 outs, .bool p, .frz (es.map (D.int .u16)) .unk] ∧ (0 ≤ st ∧ st < 256) ∧ (0 ≤ ins ∧ ins < 256) ∧ (0 ≤ outs ∧ outs < 256) ∧ ∀ e ∈ es, 0 ≤ e ∧ e < 65536 := by
  rw [show n + 3 = (n + 2) + 1 from rfl, hasT, und_53] at h
  simp only [cel_53, List.forall_mem_cons, cel_5, cel_4, cel_23] at h
  obtain ⟨hl, h1, h2, h3, h4, h5, _⟩ := h
  obtain ⟨a, b, c, d, e, rfl⟩ := list5 hl
  simp only [List.drop_succ_cons, List.drop_zero, List.take_succ_cons, List.take_zero] at h1 h2 h3 h4 h5
  obtain ⟨x1, e1, r1⟩ := has_u8 h1
  obtain ⟨x2, e2, r2⟩ := has_u8 h2
  obtain ⟨x3, e3, r3⟩ := has_u8 h3
  obtain ⟨x4, e4⟩ := has_bool h4
  obtain ⟨x5, e5, r5⟩ := has_u16s h5
  simp at e1 e2 e3 e4 e5
  subst e1; subst e2; subst e3; subst e4; subst e5
  exact ⟨x1, x2, x3, x4, x5, rfl, r1, r2, r3, r5⟩

theorem has_pair {n : Nat} {l : List D} (h : hasT Try.prog (n + 2) 31 l) : ∃ x y, l = [.int .u8 x, .int .u8 y] ∧ (0 ≤ x ∧ x < 256) ∧ (0 ≤ y ∧ y < 256) := by
  rw [show n + 2 = (n + 1) + 1 from rfl, hasT, und_31] at h
  simp only [cel_31, cel_5] at h
  obtain ⟨hl, hx⟩ := h
  match l, hl with
  | [a, b], _ =>
    have h0 := hx 0 (by omega)
    have h1 := hx 1 (by omega)
    simp at h0 h1
    obtain ⟨x, e1, r1⟩ := has_u8 h0
    obtain ⟨y, e2, r2⟩ := has_u8 h1
    simp at e1 e2; subst e1; subst e2
    exact ⟨x, y, rfl, r1, r2⟩

theorem has_edge {n : Nat} {l : List D} (h : hasT Try.prog (n + 2) 55 l) : ∃ x y, l = [.int .i64 x, .int .i64 y] := by
  rw [show n + 2 = (n + 1) + 1 from rfl, hasT, und_55] at h
  simp only [cel_55, List.forall_mem_cons, cel_3] at h
  obtain ⟨hl, h0, h1, _⟩ := h
  match l, hl with
  | [a, b], _ =>
    simp only [List.drop_succ_cons, List.drop_zero, List.take_succ_cons, List.take_zero] at h0 h1
    obtain ⟨x, e1⟩ := has_int h0
    obtain ⟨y, e2⟩ := has_int h1
    simp at e1 e2; subst e1; subst e2
    exact ⟨x, y, rfl⟩

theorem split_at {l : List D} (a b : Nat) (h : l.length = a + b) : l = (l.drop 0).take a ++ (l.drop a).take b := by
  rw [List.drop_zero]
  have : (l.drop a).take b = l.drop a := List.take_of_length_le (by simp; omega)
  rw [this, List.take_append_drop]

theorem has57 {n : Nat} {l : List D} (h : hasT Try.prog (n + 4) 57 l) : ∃ (st ins outs : Int) (p : Bool) (es : List Int) (st' ins' outs' : Int) (p' : Bool) (es' : List Int) (al : Bool) (s0 s1 p0 p1 t0 o0 : Int),
    D.agg l = drawnD st ins outs p es st' ins' outs' p' es' al s0 s1 p0 p1 t0 o0 ∧ (0 ≤ st ∧ st < 256) ∧ (0 ≤ ins ∧ ins < 256) ∧ (0 ≤ outs ∧ outs < 256) ∧ (∀ e ∈ es, 0 ≤ e ∧ e < 65536) ∧ (0 ≤ st' ∧ st' < 256) ∧ (0 ≤ outs' ∧ outs' < 256) ∧ (∀ e ∈ es', 0 ≤ e ∧ e < 65536) ∧ (0 ≤ s0 ∧ s0 < 256) ∧ (0 ≤ s1 ∧ s1 < 256) ∧ (0 ≤ p0 ∧ p0 < 256) ∧ (0 ≤ p1 ∧ p1 < 256) := by
  rw [show n + 4 = (n + 3) + 1 from rfl, hasT, und_57] at h
  simp only [cel_57, List.forall_mem_cons, cel_53, cel_4, cel_31, cel_55] at h
  obtain ⟨hl, h1, h2, h3, h4, h5, h6, _⟩ := h
  obtain ⟨st, ins, outs, p, es, e1, r1, r2, r3, r4⟩ := has53 h1
  obtain ⟨st', ins', outs', p', es', e2, q1, q2, q3, q4⟩ := has53 h2
  obtain ⟨al, e3⟩ := has_bool h3
  obtain ⟨s0, s1, e4, s4, s5⟩ := has_pair h4
  obtain ⟨p0, p1, e5, s6, s7⟩ := has_pair h5
  obtain ⟨t0, o0, e6⟩ := has_edge h6
  have hs : l = (l.drop 0).take 5 ++ (l.drop 5).take 5 ++ (l.drop 10).take 1 ++ (l.drop 11).take 2 ++ (l.drop 13).take 2 ++ (l.drop 15).take 2 := by
    have k : ∀ (a b : Nat), l.take (a + b) = l.take a ++ (l.drop a).take b := fun a b => List.take_add
    have : l = l.take 17 := (List.take_of_length_le (by omega)).symm
    rw [show (17 : Nat) = 15 + 2 from rfl, k, show (15 : Nat) = 13 + 2 from rfl, k, show (13 : Nat) = 11 + 2 from rfl, k, show (11 : Nat) = 10 + 1 from rfl, k, show (10 : Nat) = 5 + 5 from rfl, k] at this
    simpa using this
  rw [e1, e2, e3, e4, e5, e6] at hs
  exact ⟨st, ins, outs, p, es, st', ins', outs', p', es', al, s0, s1, p0, p1, t0, o0, by rw [hs]; rfl, r1, r2, r3, r4, q1, q3, q4, s4, s5, s6, s7⟩

theorem has59 {n : Nat} {l : List D} (h : hasT Try.prog (n + 3) 59 l) : ∃ ys : List Int, l = [.frz (ys.map (D.int .u8)) .unk] ∧ ∀ e ∈ ys, 0 ≤ e ∧ e < 256 := by
  rw [show n + 3 = (n + 2) + 1 from rfl, hasT, und_59] at h
  simp only [cel_59, List.forall_mem_cons, cel_22] at h
  obtain ⟨hl, h1, _⟩ := h
  match l, hl with
  | [a], _ => exact has_u8s (by simpa using h1)

theorem plain_args : ∀ t ∈ [57, 59], plainB Try.prog 6 t = true := by
  intro t ht
  simp at ht
  rcases ht with rfl | rfl
  · kernel_rfl
  · kernel_rfl

theorem whole4 {es : List D} (hl : es.length = 2) (h : ∀ (j : Nat) t d, [57, 59][j]? = some t → es[j]? = some d → hasV Try.prog 6 t d) : ∃ h', bodyI E 4 es H.empty = some (.bool true, h') := by
  match es, hl with
  | [d, y], _ =>
    obtain ⟨l1, t1, a1⟩ := h 0 57 d rfl rfl
    obtain ⟨l2, t2, a2⟩ := h 1 59 y rfl rfl
    rw [agb_57] at a1
    rw [agb_59] at a2
    simp only [asD, if_true] at a1 a2
    subst a1; subst a2
    obtain ⟨st, ins, outs, p, es, st', ins', outs', p', es', al, s0, s1, p0, p1, t0, o0, e, r1, r2, r3, r4, r5, r6, r7, r8, r9, r10, r11⟩ := has57 t1
    obtain ⟨ys, rfl, hys⟩ := has59 t2
    rw [e]
    obtain ⟨a, b, va, vb, hi, hb⟩ := spec17 (p := p) (p' := p') (al := al) (t0 := t0) (o0 := o0) (ins' := ins') r1 r2 r3 r4 r5 r6 r7 r8 r9 r10 r11
    exact bodyI_of_bodyR (spec4 va vb hi hb hys)
end Go.Eng.E3
