import Derived.Test.YtcogomacihefoaaKnG
set_option linter.unusedVariables false
set_option linter.unusedSimpArgs false
set_option linter.unusedSectionVars false
set_option linter.deprecated false
namespace Go.Eng.E3
open Go Go.Eng Go.Proofs
set_option maxRecDepth 100000
attribute [local simp] execR runOps stepOp wantedD evalOp opd upd St.put Eff.apply upds looseOk FP.free FP.idle apart Eff.fp ofVal loadD storeD partD setPart indexAddrD isShift arith unD callOp mapO D.okc pickD buildable buildD placeD convD
set_option linter.unusedSimpArgs false
set_option linter.unusedVariables false
set_option maxHeartbeats 4000000
def oneM : M := ⟨1, 1, [[(0, 0)]]⟩
theorem one_valid : Valid oneM := ⟨by decide, by decide, by decide, by decide, by decide, by decide, by decide, by
  intro r hr e he
  simp [oneM] at hr; subst hr; simp at he; subst he
  exact .inr ⟨by decide, by decide, by decide, by decide⟩⟩
theorem c59one (h : H) : callI E (.fn 59 []) [.agg [.int .i64 1, .int .i64 1, .frz [.frz [.agg [.int .i64 0, .int .i64 0]] .unk] .unk], .agg [.int .i64 1, .int .i64 1, .frz [.frz [.agg [.int .i64 0, .int .i64 0]] .unk] .unk]] h = some (.int .i64 0, h, {}) := by
  have e : encM oneM = .agg [.int .i64 1, .int .i64 1, .frz [.frz [.agg [.int .i64 0, .int .i64 0]] .unk] .unk] := rfl
  have := call_pure (g := 59) (args := [encM oneM, encM oneM]) (h := h) (by decide) (snaps2 (snap_encM _ _ 4 oneM) (snap_encM _ _ 4 oneM)) (spec59 one_valid one_valid rfl)
  rw [e] at this
  exact this
def zeroD : D := .agg [.int .i64 0, .int .i64 0]
def inMap (k : Nat) : List (D × D) := if k = 0 then [] else [(zeroD, .bool true)]
theorem upd_in (blk : Nat → Blk) (C k : Nat) (hb : blk C = .map (inMap k)) : updateD E.T blk 111 (.mp C) (.agg [.int .i64 0, .int .i64 0]) (.bool true) = some { v := .undef, wr := [(C, .map [(zeroD, .bool true)])], rd := [C] } := by
  cases k with
  | zero =>
    have := updP (blk := blk) (C := C) (ms := []) (by simpa [inMap] using hb) (q := (0, 0)) (by simp)
    simpa [pD, zeroD] using this
  | succ k =>
    have hk := keyP (0, 0)
    have he := eqD105 0 0 0 0
    simp only [inMap, Nat.succ_ne_zero, if_false] at hb
    unfold updateD
    rw [map_111]
    simp only at hk
    simp only [hk, if_true, hb, findD, zeroD, he]
    simp [sameD, eqDepth]
structure L26 (n k : Nat) (st : St) : Prop where
  le : k ≤ n
  h2 : ∃ tk, st.A 2 = .frz (List.replicate n zeroD) tk
  h3 : st.A 3 = .ptr 0 0 0
  h4 : st.A 4 = .ptr 1 0 0
  h9 : ∃ C, st.A 9 = .mp C ∧ st.h.blk C = .map (inMap (n - k)) ∧ 2 ≤ C ∧ C < st.h.next
  h28 : ∃ tk, st.A 28 = .frz (List.replicate n zeroD) tk
  h29 : st.A 29 = .int .i64 n
  h30 : st.A 30 = .int .i64 ((n - k : Nat) : Int)
  b0 : st.h.blk 0 = .live 3 [encM oneM]
  b1 : st.h.blk 1 = .live 3 [encM oneM]
structure N26 (n k : Nat) (st : St) : Prop where
  le : k ≤ n
  h3 : st.A 3 = .ptr 0 0 0
  h4 : st.A 4 = .ptr 1 0 0
  h9 : ∃ C, st.A 9 = .mp C ∧ st.h.blk C = .map [(zeroD, .bool true)] ∧ C < st.h.next
  h12 : st.A 12 = .bool true
  h62 : ∃ tk, st.A 62 = .frz (List.replicate n zeroD) tk
  h63 : st.A 63 = .int .i64 n
  h64 : st.A 64 = .int .i64 ((n - k : Nat) : Int)
  b0 : st.h.blk 0 = .live 3 [encM oneM]
  b1 : st.h.blk 1 = .live 3 [encM oneM]
  hn : 2 ≤ st.h.next
structure O26 (n i c C j : Nat) (st : St) : Prop where
  le : j ≤ 1
  h3 : st.A 3 = .ptr 0 0 0
  h4 : st.A 4 = .ptr 1 0 0
  h9 : st.A 9 = .mp C
  h12 : st.A 12 = .bool true
  h14 : st.A 14 = .ptr c 0 0
  h62 : ∃ tk, st.A 62 = .frz (List.replicate n zeroD) tk
  h63 : st.A 63 = .int .i64 n
  h64 : st.A 64 = .int .i64 (i : Nat)
  h73 : st.A 73 = .frz [.agg [.int .i64 0, .int .i64 0]] .unk
  h74 : st.A 74 = .int .i64 1
  h75 : st.A 75 = .int .i64 ((1 - j : Nat) : Int)
  b0 : st.h.blk 0 = .live 3 [encM oneM]
  b1 : st.h.blk 1 = .live 3 [encM oneM]
  bC : st.h.blk C = .map [(zeroD, .bool true)]
  bc : st.h.blk c = .live 2 [.agg [.int .i64 0, .int .i64 0]]
  n2 : 2 ≤ st.h.next
  nC : C < st.h.next
  nc : c < st.h.next
theorem loop26c {n i c C : Nat} {Q : Po} (hQ : ∀ st, O26 n i c C 0 st → Q.x 4 st) (j : Nat) (st : St) (hI : O26 n i c C j st) : V E 26 114 (.loop l26_2) st Q := by
  have lkz : ∀ (blk : Nat → Blk) C, blk C = .map [(zeroD, .bool true)] → lookupD E.T blk 111 (.mp C) (.agg [.int .i64 0, .int .i64 0]) false = some { v := .bool true, rd := [C] } := fun blk C hb => by
    have := lookP (blk := blk) (C := C) (ms := [(0, 0)]) (by simpa [pD, zeroD] using hb) (0, 0)
    simpa using this
  refine V.count (O26 n i c C) ?_ ?_ j st hI
  · rintro j ⟨A, h⟩ ⟨le, h3, h4, h9, h12, h14, ⟨tk, h62⟩, h63, h64, h73, h74, h75, b0, b1, bC, bc, n2, nC, nc⟩
    have hj : j = 0 := by omega
    subst hj
    simp only at h3 h4 h9 h12 h14 h62 h63 h64 h73 h74 h75 b0 b1 bC bc n2 nC nc
    have e0 : ((1 - (0 + 1) : Nat) : Int) = 0 := rfl
    rw [e0] at h75
    rw [cl26_2]
    refine .then xr26_19 (by simp [o26_19, builtinD, lenD, pD, argA, h74, h75]; rfl) ?_
    refine .head (v := true) (by simp [opd, upd]) (fun _ => ?_) (fun q => by cases q)
    have m0 : ∀ k, ¬ (0 : Nat) = h.next + 1 + k := by omega
    have m1 : ∀ k, ¬ (1 : Nat) = h.next + 1 + k := by omega
    have mC : ∀ k, ¬ C = h.next + 1 + k := by omega
    have mc : ∀ k, ¬ c = h.next + 1 + k := by omega
    have m0' : ∀ k, ¬ (0 : Nat) = h.next + 1 + 6 + k := by omega
    have m1' : ∀ k, ¬ (1 : Nat) = h.next + 1 + 6 + k := by omega
    have mC' : ∀ k, ¬ C = h.next + 1 + 6 + k := by omega
    have mc' : ∀ k, ¬ c = h.next + 1 + 6 + k := by omega
    have mx : ∀ k, ¬ h.next + 1 + 3 = h.next + 1 + 6 + k := by omega
    refine .seq (.block (.then xr26_20 (by simp [o26_20, builtinD, lenD, pD, argA, h73, h75]; rfl) ?_))
    refine .then xr26_21 (by simp [o26_21, builtinD, lenD, pD, argA, h4, h14, b1, bc, encM, oneM, rowD, m1, mc]; rfl) ?_
    refine .reg xr26_22 (by simp [o26_22, builtinD, lenD, pD, argA, h9, h12, lkz, bC, mC, mC', mx]; rfl) ?_
    show V E 26 114 r26_23 _ _
    have hwr : IntKind.i64.wrap 1 = 1 := by decide
    refine .reg xr26_23 (by simp [o26_23, builtinD, lenD, pD, argA, h75, hwr]; rfl) ⟨by omega, ?_, ?_, ?_, ?_, ?_, ⟨tk, ?_⟩, ?_, ?_, ?_, ?_, ?_, ?_, ?_, ?_, ?_, ?_, ?_, ?_⟩
    · simp [upd, h3]
    · simp [upd, h4]
    · simp [upd, h9]
    · simp [upd]
    · simp [upd, h14]
    · simp [upd, h62]
    · simp [upd, h63]
    · simp [upd, h64]
    · simp [upd, h73]
    · simp [upd, h74]
    · simp [upd]
    · simp [upds, upd, m0, m0', b0]
    · simp [upds, upd, m1, m1', b1]
    · simp [upds, upd, mC, mC', bC]
    · simp [upds, upd, mc, mc', bc]
    · simp <;> omega
    · simp <;> omega
    · simp <;> omega
  · rintro ⟨A, h⟩ ⟨le, h3, h4, h9, h12, h14, ⟨tk, h62⟩, h63, h64, h73, h74, h75, b0, b1, bC, bc, n2, nC, nc⟩
    simp only at h3 h4 h9 h12 h14 h62 h63 h64 h73 h74 h75 b0 b1 bC bc n2 nC nc
    rw [cl26_2]
    refine .then xr26_19 (by simp [o26_19, builtinD, lenD, pD, argA, h74, h75]; rfl) ?_
    refine .head (v := false) (by simp [opd, upd]) (fun q => by cases q) (fun _ => hQ _ ⟨by omega, ?_, ?_, ?_, ?_, ?_, ⟨tk, ?_⟩, ?_, ?_, ?_, ?_, ?_, b0, b1, bC, bc, ?_, ?_, ?_⟩)
    · simp [upd, h3]
    · simp [upd, h4]
    · simp [upd, h9]
    · simp [upd, h12]
    · simp [upd, h14]
    · simp [upd, h62]
    · simp [upd, h63]
    · simp [upd, h64]
    · simp [upd, h73]
    · simp [upd, h74]
    · simp [upd, h75]
    · simp <;> omega
    · simp <;> omega
    · simp <;> omega
theorem spec26z {n : Nat} (h1 : 1 ≤ n) (h2 : n ≤ 4096) : bodyR 26 [encM oneM, encM oneM, .frz (List.replicate n zeroD) .unk] = some (.tup [.bool true, .int .i64 0]) := by
  have hnI : ¬ (4096 : Int) < n := by omega
  have lkz : ∀ (blk : Nat → Blk) C, blk C = .map [(zeroD, .bool true)] → lookupD E.T blk 111 (.mp C) (.agg [.int .i64 0, .int .i64 0]) false = some { v := .bool true, rd := [C] } := fun blk C hb => by
    have := lookP (blk := blk) (C := C) (ms := [(0, 0)]) (by simpa [pD, zeroD] using hb) (0, 0)
    simpa using this
  refine bodyR_V (run26 _ _ (by simp)) ?_
  unfold b26
  refine .then xr26_0 (by simp [o26_0, builtinD, lenD, pD, argA, encM, oneM, rowD]; rfl) ?_
  refine .assoc (.then xr26_1 (by simp [o26_1, builtinD, lenD, pD, argA, encM, oneM, rowD, c59one]; rfl) ?_)
  refine .assoc (.then xr26_2 (by simp [o26_2, builtinD, lenD, pD, argA]; rfl) ?_)
  refine .seq (.cond (v := false) (by simp [opd, upd]) (fun q => by cases q) (fun _ => .skip ?_))
  refine .assoc (.then xr26_4 (by simp [o26_4, builtinD, lenD, pD, argA, hnI]; rfl) ?_)
  refine .seq (.cond (v := false) (by simp [opd, upd]) (fun q => by cases q) (fun _ => .skip ?_))
  refine .then xr26_6 (by simp [o26_6, builtinD, lenD, pD, argA]; rfl) ?_
  refine .assoc (.then xr26_7 (by simp [o26_7, builtinD, lenD, pD, argA]; rfl) ?_)
  refine .seq (.block (V.count (L26 n) ?_ ?_ n _ ⟨Nat.le_refl _, ?_, ?_, ?_, ?_, ?_, ?_, ?_, ?_, ?_⟩))
  · rintro k ⟨A, h⟩ ⟨le, ⟨tk2, q2⟩, q3, q4, ⟨C, q9, qC, qc1, qc2⟩, ⟨tk28, q28⟩, q29, q30, q0, q1⟩
    have hlt : n - (k + 1) < n := by omega
    generalize hi : n - (k + 1) = i at *
    have hk' : n - k = i + 1 := by omega
    have hltI : (i : Int) < n := by omega
    have hwr : IntKind.i64.wrap ((i : Int) + 1) = ((i + 1 : Nat) : Int) := by rw [wrap_id] <;> omega
    simp only at q2 q3 q4 q9 qC qc2 q28 q29 q30 q0 q1
    have hz : ∀ hh, (List.replicate n zeroD)[i]'hh = .agg [.int .i64 0, .int .i64 0] := fun hh => by simp [zeroD]
    have up := fun blk (hb : blk C = .map (inMap i)) => upd_in blk C i hb
    rw [cl26_0]
    refine .then xr26_8 (by simp [o26_8, builtinD, lenD, pD, argA, q29, q30, hlt]; rfl) ?_
    refine .head (v := true) (by simp [opd, upd]) (fun _ => ?_) (fun q => by cases q)
    have n1 : ¬ C = h.next + 1 + 2 := by omega
    have n0 : ¬ (0 : Nat) = h.next + 1 + 2 := by omega
    have n0' : ¬ (1 : Nat) = h.next + 1 + 2 := by omega
    have nC : ¬ h.next + 1 + 2 = C := by omega
    have nC0 : ¬ (0 : Nat) = C := by omega
    have nC1 : ¬ (1 : Nat) = C := by omega
    refine .seq (.block (.then xr26_9 (by simp [o26_9, builtinD, lenD, pD, argA, q28, q30, hlt, hltI, hz]; rfl) ?_))
    refine .assoc (.then xr26_10 (by simp [o26_10, builtinD, lenD, pD, argA, q3, q4, q0, q1, encM, oneM, minD, n0, n0']; rfl) ?_)
    refine .seq (.cond (v := false) (by simp [opd, upd]) (fun q => by cases q) (fun _ => .skip ?_))
    refine .reg xr26_12 (by simp [o26_12, builtinD, lenD, pD, argA, q9, up, qC, n1, nC]; rfl) ?_
    show V E 26 114 r26_13 _ _
    refine .reg xr26_13 (by simp [o26_13, builtinD, lenD, pD, argA, q30]; rfl) ⟨by omega, ⟨tk2, ?_⟩, ?_, ?_, ⟨C, ?_, ?_, qc1, ?_⟩, ⟨tk28, ?_⟩, ?_, ?_, ?_, ?_⟩
    · simp [upd, q2]
    · simp [upd, q3]
    · simp [upd, q4]
    · simp [upd, q9]
    · rw [hk']; simp [upds, upd, inMap]
    · simp <;> omega
    · simp [upd, q28]
    · simp [upd, q29]
    · simp [upd, hk', hwr]
    · simp [upds, upd, n0, nC0, q0]
    · simp [upds, upd, n0', nC1, q1]
  · rintro ⟨A, h⟩ ⟨le, ⟨tk2, q2⟩, q3, q4, ⟨C, q9, qC, qc1, qc2⟩, ⟨tk28, q28⟩, q29, q30, q0, q1⟩
    simp only at q2 q3 q4 q9 qC qc2 q28 q29 q30 q0 q1
    rw [Nat.sub_zero] at qC
    have qC' : h.blk C = .map [(zeroD, .bool true)] := by rw [qC]; simp [inMap, show n ≠ 0 by omega]
    rw [cl26_0]
    refine .then xr26_8 (by simp [o26_8, builtinD, lenD, pD, argA, q29, q30]; rfl) ?_
    refine .head (v := false) (by simp [opd, upd]) (fun q => by cases q) (fun _ => ?_)
    have lk := lkz h.blk C qC'
    refine .then xr26_14 (by simp [o26_14, builtinD, lenD, pD, argA, q9, lk]; rfl) ?_
    refine .assoc (.then xr26_15 (by simp [o26_15, builtinD, lenD, pD, argA, q2]; rfl) ?_)
    refine .seq (.block (V.count (N26 n) ?_ ?_ n _ ⟨Nat.le_refl _, ?_, ?_, ⟨C, ?_, ?_, ?_⟩, ?_, ⟨tk2, ?_⟩, ?_, ?_, ?_, ?_, ?_⟩))
    · rintro k ⟨A1, g⟩ ⟨le1, p3, p4, ⟨C', p9, pC, pc⟩, p12, ⟨tk, p62⟩, p63, p64, p0, p1, pn⟩
      have hlt : n - (k + 1) < n := by omega
      generalize hi : n - (k + 1) = i at *
      have hk' : n - k = i + 1 := by omega
      have hltI : (i : Int) < n := by omega
      have hwr : IntKind.i64.wrap ((i : Int) + 1) = ((i + 1 : Nat) : Int) := by rw [wrap_id] <;> omega
      have hz : ∀ hh, (List.replicate n zeroD)[i]'hh = .agg [.int .i64 0, .int .i64 0] := fun hh => by simp [zeroD]
      simp only at p3 p4 p9 pC pc p12 p62 p63 p64 p0 p1 pn
      rw [cl26_1]
      refine .then xr26_16 (by simp [o26_16, builtinD, lenD, pD, argA, p63, p64, hlt]; rfl) ?_
      refine .head (v := true) (by simp [opd, upd]) (fun _ => ?_) (fun q => by cases q)
      have n0 : ¬ (0 : Nat) = g.next + 1 + 2 := by omega
      have n0' : ¬ (1 : Nat) = g.next + 1 + 2 := by omega
      have nC' : ¬ C' = g.next + 1 + 2 := by omega
      refine .seq (.block (.then xr26_17 (by simp [o26_17, builtinD, lenD, pD, argA, p62, p64, hlt, hltI, hz]; rfl) ?_))
      refine .then xr26_18 (by simp [o26_18, builtinD, lenD, pD, argA, p3, p0, encM, oneM, rowD, n0]; rfl) ?_
      refine .block (loop26c (n := n) (i := i) (c := g.next + 1 + 2) (C := C') ?_ 1 _ ⟨Nat.le_refl _, ?_, ?_, ?_, ?_, ?_, ⟨tk, ?_⟩, ?_, ?_, ?_, ?_, ?_, ?_, ?_, ?_, ?_, ?_, ?_, ?_⟩)
      · rintro ⟨A3, g3⟩ ⟨_, r3, r4, r9, r12, r14, ⟨tk3, r62⟩, r63, r64, _, _, _, s0, s1, sC, _, t2, tC, _⟩
        simp only at r3 r4 r9 r12 r62 r63 r64 s0 s1 sC t2 tC
        show V E 26 114 r26_24 _ _
        refine .reg xr26_24 (by simp [o26_24, builtinD, lenD, pD, argA, r64]; rfl) ⟨by omega, ?_, ?_, ⟨C', ?_, ?_, ?_⟩, ?_, ⟨tk3, ?_⟩, ?_, ?_, ?_, ?_, ?_⟩
        · simp [upd, r3]
        · simp [upd, r4]
        · simp [upd, r9]
        · simpa [upds] using sC
        · simp <;> omega
        · simp [upd, r12]
        · simp [upd, r62]
        · simp [upd, r63]
        · simp [upd, hk', hwr]
        · simpa [upds] using s0
        · simpa [upds] using s1
        · simp <;> omega
      · simp [upd, p3]
      · simp [upd, p4]
      · simp [upd, p9]
      · simp [upd, p12]
      · simp [upd]
      · simp [upd, p62]
      · simp [upd, p63]
      · simp [upd, p64]
      · simp [upd]
      · simp [upd]
      · simp [upd]
      · simp [upds, upd, n0, p0]
      · simp [upds, upd, n0', p1]
      · simp [upds, upd, nC', pC]
      · simp [upds, upd]
      · simp <;> omega
      · simp <;> omega
      · simp <;> omega
    · rintro ⟨A1, g⟩ ⟨le1, p3, p4, ⟨C', p9, pC, pc⟩, p12, ⟨tk, p62⟩, p63, p64, p0, p1, pn⟩
      simp only at p12 p63 p64
      rw [cl26_1]
      refine .then xr26_16 (by simp [o26_16, builtinD, lenD, pD, argA, p63, p64]; rfl) ?_
      refine .head (v := false) (by simp [opd, upd]) (fun q => by cases q) (fun _ => ?_)
      refine .then xr26_25 (by simp [o26_25, builtinD, lenD, pD, argA, p12]; rfl) (.ret ⟨_, by simp [resultsD, mapO, resultD, upd]; rfl, by simp [snap, snapDepth, mapK]⟩)
    · simp [upd, q3]
    · simp [upd, q4]
    · simp [upd, q9]
    · simpa [upds] using qC'
    · simp <;> omega
    · simp [upd]
    · simp [upd, q2]
    · simp [upd]
    · simp [upd]
    · simpa [upds] using q0
    · simpa [upds] using q1
    · simp <;> omega
  · exact ⟨_, by simp [upd, argA]; rfl⟩
  · simp [upd]
  · simp [upd]
  · exact ⟨_, by simp [upd]; rfl, by simp [upds, upd, inMap], by simp, by simp⟩
  · exact ⟨_, by simp [upd]; rfl⟩
  · simp [upd]
  · simp [upd]
  · simp [upds, upd, encM, oneM, rowD, pD]
  · simp [upds, upd, encM, oneM, rowD, pD]
theorem spec26l {n : Nat} (h2 : 4096 < n) : bodyR 26 [encM oneM, encM oneM, .frz (List.replicate n zeroD) .unk] = some (.tup [.bool false, .int .i64 3]) := by
  have hnI : (4096 : Int) < n := by omega
  refine bodyR_V (run26 _ _ (by simp)) ?_
  unfold b26
  refine .then xr26_0 (by simp [o26_0, builtinD, lenD, pD, argA, encM, oneM, rowD]; rfl) ?_
  refine .assoc (.then xr26_1 (by simp [o26_1, builtinD, lenD, pD, argA, encM, oneM, rowD, c59one]; rfl) ?_)
  refine .assoc (.then xr26_2 (by simp [o26_2, builtinD, lenD, pD, argA]; rfl) ?_)
  refine .seq (.cond (v := false) (by simp [opd, upd]) (fun q => by cases q) (fun _ => .skip ?_))
  refine .assoc (.then xr26_4 (by simp [o26_4, builtinD, lenD, pD, argA, hnI, h2]; rfl) ?_)
  refine .seq (.cond (v := true) (by simp [opd, upd] <;> omega) (fun _ => ?_) (fun q => by cases q))
  exact .then xr26_5 (by simp [o26_5, builtinD, lenD, pD, argA]; rfl) (.ret ⟨_, by simp [resultsD, mapO, resultD, upd]; rfl, by simp [snap, snapDepth, mapK]⟩)
end Go.Eng.E3
namespace Go.Eng.E3
open Go Go.Eng Go.Proofs
set_option maxRecDepth 100000
attribute [local simp] execR runOps stepOp wantedD evalOp opd upd St.put Eff.apply upds looseOk FP.free FP.idle apart Eff.fp ofVal loadD storeD partD setPart indexAddrD isShift arith unD callOp mapO D.okc pickD buildable buildD placeD convD
set_option linter.unusedSimpArgs false
def decP : D → Option (Int × Int)
  | .agg [.int .i64 a, .int .i64 b] => some (a, b)
  | _ => none
def decL {α : Type} (f : D → Option α) : List D → Option (List α)
  | [] => some []
  | x :: r => match f x with
    | some y => match decL f r with
      | some ys => some (y :: ys)
      | none => none
    | none => none
def decRow : D → Option (List (Int × Int))
  | .frz l .unk => decL decP l
  | _ => none
def decM : D → Option M
  | .agg [.int .i64 (.ofNat i), .int .i64 (.ofNat o), .frz rows .unk] => match decL decRow rows with
    | some l => some ⟨i, o, l⟩
    | none => none
  | _ => none
theorem decP_ok {d : D} {p : Int × Int} (h : decP d = some p) : d = pD p := by
  unfold decP at h
  split at h
  · cases h; rfl
  · cases h
theorem decL_ok {α : Type} {f : D → Option α} {g : α → D} (hf : ∀ d x, f d = some x → d = g x) : ∀ (l : List D) (r : List α), decL f l = some r → l = r.map g
  | [], r, h => by simp only [decL] at h; cases h; rfl
  | x :: l, r, h => by
    simp only [decL] at h
    split at h
    · rename_i y hy
      split at h
      · rename_i ys hys
        cases h
        rw [List.map_cons, ← hf x y hy, ← decL_ok hf l ys hys]
      · cases h
    · cases h
theorem decRow_ok {d : D} {r : List (Int × Int)} (h : decRow d = some r) : d = rowD r := by
  unfold decRow at h
  split at h
  · rw [decL_ok (fun d x => decP_ok) _ _ h]; rfl
  · cases h
theorem decM_ok {d : D} {m : M} (h : decM d = some m) : d = encM m := by
  unfold decM at h
  split at h
  · split at h
    · rename_i l hl
      cases h
      rw [decL_ok (fun d x => decRow_ok) _ _ hl]; rfl
    · cases h
  · cases h
def ltI : Int → Nat → Bool
  | .ofNat a, n => Nat.blt a n
  | .negSucc _, _ => false
theorem ltI_ok {a : Int} {n : Nat} (h : ltI a n = true) : 0 ≤ a ∧ a < n := by
  cases a with
  | ofNat a => simp only [ltI, Nat.blt, Nat.ble_eq] at h; constructor <;> simp <;> omega
  | negSucc a => cases h
def noneE (e : Int × Int) : Bool := match e with | (.negSucc 0, .negSucc 0) => true | _ => false
def edgeB (n o : Nat) (e : Int × Int) : Bool := noneE e || (ltI e.1 n && ltI e.2 o)
def validB (m : M) : Bool := Nat.ble 1 m.ins && (Nat.ble m.ins 16 && (Nat.ble 1 m.outs && (Nat.ble m.outs 16 && (Nat.ble 1 m.rows.length && (Nat.ble m.rows.length 64 &&
  m.rows.all fun r => Nat.beq r.length m.ins && r.all (edgeB m.rows.length m.outs))))))
theorem validB_ok {m : M} (h : validB m = true) : Valid m := by
  simp only [validB, Bool.and_eq_true, Nat.ble_eq, List.all_eq_true, Nat.beq_eq] at h
  obtain ⟨h1, h2, h3, h4, h5, h6, h7⟩ := h
  refine ⟨h1, h2, h3, h4, h5, h6, fun r hr => (h7 r hr).1, fun r hr e he => ?_⟩
  have := (h7 r hr).2 e he
  simp only [edgeB, Bool.or_eq_true, Bool.and_eq_true] at this
  rcases this with q | ⟨q1, q2⟩
  · unfold noneE at q
    split at q
    · exact .inl rfl
    · cases q
  · exact .inr ⟨(ltI_ok q1).1, (ltI_ok q1).2, (ltI_ok q2).1, (ltI_ok q2).2⟩
def m111 : List D → Option D
  | [.frz l .unk, v] => match decL decP l, decP v with
    | some ps, some q => bif Nat.blt ps.length 4611686018427387904 then some (.int .i64 (idxI ps q)) else none
    | _, _ => none
  | _ => none
theorem ok111 : ModelOk E 111 m111 := modelOk_of fun xs r h => by
  unfold m111 at h
  split at h
  · rename_i l v
    split at h
    · rename_i ps q hps hq
      cases hb : Nat.blt ps.length 4611686018427387904 with
      | false => rw [hb] at h; cases h
      | true =>
        rw [hb] at h; cases h
        rw [decL_ok (fun d x => decP_ok) _ _ hps, decP_ok hq]
        exact spec111 (by simp only [Nat.blt, Nat.ble_eq] at hb; omega)
    · cases h
  · cases h
def m85 : List D → Option D
  | [d] => match decM d with
    | some m => bif validB m then some (.int .i64 0) else none
    | none => none
  | _ => none
theorem ok85 : ModelOk E 85 m85 := modelOk_of fun xs r h => by
  unfold m85 at h
  split at h
  · split at h
    · rename_i m hm
      cases hb : validB m with
      | false => rw [hb] at h; cases h
      | true => rw [hb] at h; cases h; rw [decM_ok hm]; exact spec85 (validB_ok hb)
    · cases h
  · cases h
def m74 : List D → Option D
  | [d, .int .i64 (.ofNat k)] => match decM d with
    | some m => bif validB m && Nat.blt k 4611686018427387904 then some (markD (markN m k)) else none
    | none => none
  | _ => none
theorem ok74 : ModelOk E 74 m74 := modelOk_of fun xs r h => by
  unfold m74 at h
  split at h
  · split at h
    · rename_i k _ m hm
      cases hb : validB m && Nat.blt k 4611686018427387904 with
      | false => rw [hb] at h; cases h
      | true =>
        rw [hb] at h; cases h; rw [decM_ok hm]
        simp only [Bool.and_eq_true] at hb
        exact spec74 (validB_ok hb.1) (by have := hb.2; simp only [Nat.blt, Nat.ble_eq] at this; omega)
    · cases h
  · cases h
def XT : Ext' := fun g => match g with
  | 111 => some m111
  | 85 => some m85
  | 74 => some m74
  | _ => none
theorem okXT (g : FuncId) (m : List D → Option D) (h : XT g = some m) : ModelOk E g m := by
  unfold XT at h
  split at h
  · cases h; exact ok111
  · cases h; exact ok85
  · cases h; exact ok74
  · cases h
end Go.Eng.E3
namespace Go.Eng.E3
open Go Go.Eng Go.Proofs
set_option maxRecDepth 100000
attribute [local simp] execR runOps stepOp wantedD evalOp opd upd St.put Eff.apply upds looseOk FP.free FP.idle apart Eff.fp ofVal loadD storeD partD setPart indexAddrD isShift arith unD callOp mapO D.okc pickD buildable buildD placeD convD
set_option linter.unusedSimpArgs false
set_option linter.unusedVariables false
set_option maxHeartbeats 4000000
theorem V_range {E : Env} {cur : FuncId} {N : Nat} {f : Operand} {ps : Array Tmp} {aa bd : Code} {s : St} {g : FuncId} {cap : List D} {r : D} {h2 : H} {fp : FP} {lr : LoopRec} {x : X} {Q : Po} (hf : opd s.A f = some (.fn g cap))
    (hc : callI E (.fn g cap) [.yld s.h.next] ⟨s.h.next + 1, upd s.h.blk s.h.next (.loop { cur, A := s.A, N, params := ps, assign := aa, body := bd, st := .ready, pending := none })⟩ = some (r, h2, fp)) (hb : h2.blk s.h.next = .loop lr) (hst : lr.st = .ready ∨ lr.st = .done) (hx : jumpX lr.pending = some x)
    (hq : Q.to x ⟨s.A, ⟨h2.next, upd h2.blk s.h.next .dead⟩⟩) : V E cur N (.rangeFunc f ps aa bd) s Q := by
  refine ⟨x, _, ?_, hq⟩
  rw [execI_rangeFunc]
  unfold rangeC
  rw [hf]
  simp only [hc, hb, hx]
  rcases hst with e | e <;> rw [e]
structure I109 (a b : M) (As : Nat → D) (c4 c5 c6 L C : Nat) (R : Sum (List Arr) (List Arr × Nat × Nat)) (k : Nat) (st : St) : Prop where
  ex : ∃ l at_, F109 a b As c4 c5 c6 L C l at_ st ∧ outP a b k at_ l = R ∧ a.rows.length * b.rows.length ≤ at_ + k ∧ at_ < 2 ^ 40
theorem loop109a {a b : M} (va : Valid a) (vb : Valid b) (hins : a.ins = b.ins) {As : Nat → D} {c4 c5 c6 L C : Nat} {R : Sum (List Arr) (List Arr × Nat × Nat)} {Q : Po}
    (hQ : ∀ st, (∃ l, R = .inl l) → Res109 As c4 c5 c6 L C st R → Q.x 0 st) (hR : ∀ st l a' i, R = .inr (l, a', i) → Res109 As c4 c5 c6 L C st R → Q.r st) (k : Nat) (st : St) (hI : I109 a b As c4 c5 c6 L C R k st) : V E 109 95 (.loop l109_0) st Q := by
  have i1 := va.i1
  have i2 := va.i2
  have ar2 := va.r2
  have br2 := vb.r2
  refine V_while (I109 a b As c4 c5 c6 L C R) ?_ k st hI
  rintro k ⟨A, h⟩ ⟨l, at_, ⟨f0, f1, f2, f4, ⟨tk, f5, ft⟩, f6, fj, fg⟩, ho, hk, hab⟩
  simp only at f0 f1 f2 f4 f5 ft f6 fj
  have hll := fg.len
  have hll2 : l.length ≤ 64 * 64 := Nat.le_trans hll (Nat.mul_le_mul ar2 br2)
  rw [cl109_0]
  by_cases hat : at_ < l.length
  · obtain ⟨k, rfl⟩ : ∃ k', k = k' + 1 := ⟨k - 1, by omega⟩
    have hatI : (at_ : Int) < l.length := by omega
    rw [outP, if_pos hat] at ho
    have hwr : IntKind.i64.wrap ((at_ : Int) + 1) = ((at_ + 1 : Nat) : Int) := by rw [wrap_id] <;> omega
    refine .assoc (.then xr109_3 (by simp [o109_3, builtinD, lenD, pD, argA, f5, f6, hat]; rfl) ?_)
    refine .head (v := true) (by simp [opd, upd]) (fun _ => ?_) (fun q => by cases q)
    have hg : l.getD at_ arr0 = l[at_] := by simp [hat]
    obtain ⟨⟨⟨p1, p2⟩, fr, inp⟩, hr⟩ : ∃ r, l[at_] = r := ⟨_, rfl⟩
    have hrng := fg.rng _ (List.getElem_mem hat)
    rw [hr] at hg hrng
    refine .seq (.block (.then xr109_5 (by simp [o109_5, builtinD, lenD, pD, argA, f5, f6, hat, hatI, hr, arrD]; rfl) ?_))
    refine .then xr109_6 (by simp [o109_6, builtinD, lenD, pD, argA, f1, encM]; rfl) ?_
    cases hin : innP a b at_ a.ins l with
    | inl l' =>
      rw [hin] at ho
      refine .block (loop109b (As := As) (c4 := c4) (c5 := c5) (c6 := c6) (L := L) (C := C) va vb hins (p := (p1, p2)) (R := .inl l') hrng ?_ (fun st l a' i e => by cases e) a.ins _ ⟨Nat.le_refl _, ⟨l, ⟨?_, ?_, ?_, ?_, ⟨tk, ?_, ?_⟩, ?_, ?_, fg⟩, hat, by rw [hg], hin⟩, ?_, ?_, ?_, ?_⟩)
      · rintro ⟨A2, h2⟩ ⟨_, ⟨l2, ⟨g0, g1, g2, g4, ⟨tk2, g5, gt⟩, g6, gj, gg⟩, _, _, e⟩, _⟩
        simp only at g0 g1 g2 g4 g5 gt g6 gj
        rw [innP] at e
        cases e
        show V E 109 95 r109_4 _ _
        refine .reg xr109_4 (by simp [o109_4, builtinD, lenD, pD, argA, g6]; rfl) ⟨k, by omega, l', at_ + 1, ⟨?_, ?_, ?_, ?_, ⟨tk2, ?_, ?_⟩, ?_, ?_, gg⟩, ho, by omega, by omega⟩
        · simp [upd, g0]
        · simp [upd, g1]
        · simp [upd, g2]
        · simp [upd, g4]
        · simp [upd, g5]
        · exact gt.mono (by simp) (fun b _ h => h)
        · simp [upd, hwr]
        · exact gj.frame (fun b _ => rfl) (by simp) (Nat.le_refl _)
      · simp [upd, f0]
      · simp [upd, f1]
      · simp [upd, f2]
      · simp [upd, f4]
      · simp [upd, f5]
      · exact ft.mono (by simp; omega) (fun b _ h => h)
      · simp [upd, f6]
      · exact fj.frame (fun b _ => rfl) (by simp; omega) (Nat.le_refl _)
      · simp [upd]
      · simp [upd]
      · simp [upd]
      · simp [upd]
    | inr r =>
      rw [hin] at ho
      simp only at ho
      refine .block (loop109b (As := As) (c4 := c4) (c5 := c5) (c6 := c6) (L := L) (C := C) va vb hins (p := (p1, p2)) (R := .inr r) hrng ?_ (fun st l a' i e hres => ?_) a.ins _ ⟨Nat.le_refl _, ⟨l, ⟨?_, ?_, ?_, ?_, ⟨tk, ?_, ?_⟩, ?_, ?_, fg⟩, hat, by rw [hg], hin⟩, ?_, ?_, ?_, ?_⟩)
      · rintro ⟨A2, h2⟩ ⟨_, ⟨l2, _, _, _, e⟩, _⟩
        rw [innP] at e; cases e
      · exact hR st l a' i (by rw [← ho, e]) (by rw [← ho]; exact hres)
      · simp [upd, f0]
      · simp [upd, f1]
      · simp [upd, f2]
      · simp [upd, f4]
      · simp [upd, f5]
      · exact ft.mono (by simp; omega) (fun b _ h => h)
      · simp [upd, f6]
      · exact fj.frame (fun b _ => rfl) (by simp; omega) (Nat.le_refl _)
      · simp [upd]
      · simp [upd]
      · simp [upd]
      · simp [upd]
  · have hR1 : R = .inl l := by
      rw [← ho]
      cases k with
      | zero => rfl
      | succ k => rw [outP, if_neg hat]
    refine .assoc (.then xr109_3 (by simp [o109_3, builtinD, lenD, pD, argA, f5, f6, hat]; rfl) ?_)
    refine .head (v := false) (by simp [opd, upd]) (fun q => by cases q) (fun _ => hQ _ ⟨l, hR1⟩ ?_)
    rw [hR1]
    exact fj.frame (fun b _ => rfl) (by simp) (Nat.le_refl _)
theorem call109 {a b : M} (va : Valid a) (vb : Valid b) (hins : a.ins = b.ins) {As : Nat → D} {c4 c5 c6 L : Nat} {h : H} (hn : h.next = L + 1) (hj : ∀ blk nx, h.next < nx → (∀ b, b < h.next → blk b = h.blk b) → blk h.next = .map [(pD (0, 0), .bool true)] → HJ As c4 c5 c6 L h.next [(0, 0)] [(0, 0)] nx ⟨nx, blk⟩) :
    ∃ r h', callI E (.fn 109 [.iref (encM a), .iref (encM b)]) [.yld L] h = some (r, h', { full := true }) ∧ Res109 As c4 c5 c6 L h.next ⟨fun _ => .undef, h'⟩ (outP a b (a.rows.length * b.rows.length) 0 [arr0]) := by
  have ar1 := va.r1
  have br1 := vb.r1
  have key := body_V (P := fun v h' => Res109 As c4 c5 c6 L h.next ⟨fun _ => .undef, h'⟩ (outP a b (a.rows.length * b.rows.length) 0 [arr0])) (run109 ([.yld L] ++ [.iref (encM a), .iref (encM b)]) h (by simp)) (by
    have res : ∀ (st : St) R, Res109 As c4 c5 c6 L h.next st R → Res109 As c4 c5 c6 L h.next ⟨fun _ => .undef, st.h⟩ R := fun st R hr => by
      cases R with
      | inl l => exact hr
      | inr r => obtain ⟨l, a', i⟩ := r; exact hr
    have up0 : updateD E.T (upd h.blk h.next (.map [])) 111 (.mp h.next) (.agg [.int .i64 0, .int .i64 0]) (.bool true) = some { v := .undef, wr := [(h.next, .map [(pD (0, 0), .bool true)])], rd := [h.next] } := by
      have := updP (blk := upd h.blk h.next (.map [])) (C := h.next) (ms := []) (by simp) (q := (0, 0)) (by simp)
      simpa using this
    have mu109 : E.pol.mu 109 140 = false := by decide
    unfold b109
    refine .then xr109_0 (by simp [o109_0, builtinD, lenD, pD, argA, up0]; rfl) ?_
    refine .then xr109_1 (by simp [o109_1, builtinD, lenD, pD, argA, mu109, show List.range 1 = [0] from rfl, mapK, snapDepth, snap_int, snap, kills]; rfl) ?_
    refine .then xr109_2 (by simp [o109_2, builtinD, lenD, pD, argA]; rfl) ?_
    refine .block ((loop109a (As := As) (c4 := c4) (c5 := c5) (c6 := c6) (L := L) (C := h.next) va vb hins (R := outP a b (a.rows.length * b.rows.length) 0 [arr0]) ?_ ?_ (a.rows.length * b.rows.length) _ ⟨[arr0], 0, ⟨?_, ?_, ?_, ?_, ⟨.exact, ?_, .inl rfl⟩, ?_, ?_, ?_⟩, rfl, by omega, by omega⟩))
    · intro st _ hr
      exact ⟨.tup [], by simp [resultsD, mapO], res _ _ hr⟩
    · intro st l a' i _ hr
      exact ⟨.tup [], by simp [resultsD, mapO], res _ _ hr⟩
    · simp [upd, argA]
    · simp [upd, argA]
    · simp [upd, argA]
    · simp [upd]
    · simp [upd, arrD, arr0]
    · simp [upd]
    · refine hj _ _ (by simp <;> omega) (fun b hb => ?_) ?_
      · simp [upds, upd, show ¬ b = h.next by omega]
      · simp [upds, upd, pD]
    · refine ⟨fun i hi => ?_, fun r hr => ?_, by simp⟩
      · have : i = 0 := by simp at hi; omega
        subst this; exact .inl rfl
      · simp at hr; subst hr; exact ⟨by simp [arr0], by simp [arr0]; omega, by simp [arr0], by simp [arr0]; omega⟩)
  obtain ⟨v, h', e, hr⟩ := key
  refine ⟨v, h', ?_, hr⟩
  rw [callI_fn, if_neg (by decide)]
  simp only [e]; rfl
def difR (a b : M) : Sum (List Arr) (List Arr × Nat × Nat) := outP a b (a.rows.length * b.rows.length) 0 [arr0]
def difW (a b : M) : List Nat := match difR a b with
  | .inl _ => []
  | .inr (l, at_, i) => wordA l l.length at_ [i]
def difTk (a b : M) : Tok := match difR a b with
  | .inl _ => .nil
  | .inr _ => .exact
theorem call60 {a b : M} (va : Valid a) (vb : Valid b) (hins : a.ins = b.ins) (h : H) : ∃ h' v, callI E (.fn 60 []) [.agg [.int .i64 a.ins, .int .i64 a.outs, .frz (a.rows.map rowD) .unk], .agg [.int .i64 b.ins, .int .i64 b.outs, .frz (b.rows.map rowD) .unk]] h = some (.tup [.frz ((difW a b).map natD) (difTk a b), v], h', { full := true }) ∧ h.next ≤ h'.next ∧
    (match difR a b with
      | .inl l => ∃ pb ex, v = .sl pb 2 0 l.length ex ∧ h'.blk pb = .live 2 (l.map fun r => pD r.1) ∧ pb < h'.next
      | .inr _ => v = .frz [] .nil) := by
  have hk : E.pol.args 86 = false := by decide
  have c86 : ∀ h, callI E (.fn 86 []) [.agg [.int .i64 a.ins, .int .i64 a.outs, .frz (a.rows.map rowD) .unk], .agg [.int .i64 b.ins, .int .i64 b.outs, .frz (b.rows.map rowD) .unk]] h = some (.fn 109 [.iref (encM a), .iref (encM b)], h, {}) := fun h =>
    call_pure (by decide) (snaps2 (snap_encM _ _ 4 a) (snap_encM _ _ 4 b)) spec86
  have mu60 : E.pol.mu 60 76 = true := by decide
  have key := body_V (P := fun v h' => ∃ w, v = .tup [.frz ((difW a b).map natD) (difTk a b), w] ∧ h.next ≤ h'.next ∧
    (match difR a b with
      | .inl l => ∃ pb ex, w = .sl pb 2 0 l.length ex ∧ h'.blk pb = .live 2 (l.map fun r => pD r.1) ∧ pb < h'.next
      | .inr _ => w = .frz [] .nil)) (run60 [.agg [.int .i64 a.ins, .int .i64 a.outs, .frz (a.rows.map rowD) .unk], .agg [.int .i64 b.ins, .int .i64 b.outs, .frz (b.rows.map rowD) .unk]] h (by simp)) (by
    unfold b60
    refine .then xr60_0 (by simp [o60_0, builtinD, lenD, pD, argA, encM]; rfl) ?_
    refine .then xr60_1 (by simp [o60_1, builtinD, lenD, pD, argA, mu60, show List.range 1 = [0] from rfl]; rfl) ?_
    have rest : ∀ (A : Nat → D) (h1 : H), A 2 = .ptr h.next 0 0 → A 3 = .ptr (h.next + 1) 0 0 → A 4 = .ptr (h.next + 2) 0 0 → A 5 = .ptr (h.next + 3) 0 0 → A 6 = .ptr (h.next + 4 + 2) 0 0 → h1.blk h.next = .live 3 [encM a] → h1.blk (h.next + 1) = .live 3 [encM b] →
        h1.blk (h.next + 2) = .live 1 [.frz [] .nil] → h1.blk (h.next + 3) = .live 1 [.frz [] .nil] → h1.blk (h.next + 4 + 2) = .live 1 [.sl (h.next + 4 + 1) 2 0 1 true] → h1.blk (h.next + 4 + 1) = .live 2 [pD (0, 0)] → h1.next = h.next + 8 → ∀ Q : Po,
        (∀ s : St, s.A 4 = .ptr (h.next + 2) 0 0 → s.A 5 = .ptr (h.next + 3) 0 0 → h.next ≤ s.h.next → (∀ r, difR a b = .inr r → s.h.blk (h.next + 2) = .live 1 [.frz ((difW a b).map natD) .exact] ∧ s.h.blk (h.next + 3) = .live 1 [.frz [] .nil]) → (∀ l, difR a b = .inl l → s.h.blk (h.next + 2) = .live 1 [.frz [] .nil] ∧ ∃ pb ex, s.h.blk (h.next + 3) = .live 1 [.sl pb 2 0 l.length ex] ∧ s.h.blk pb = .live 2 (l.map fun r => pD r.1) ∧ pb < s.h.next) → Q.r s) →
        V E 60 53 ((r60_2.seq (.block 0 (.rangeFunc (.tmp 14) #[15, 16] g60_0a g60_0b))).seq (r60_10.seq .ret)) ⟨A, h1⟩ Q := by
      intro A h1 a2 a3 a4 a5 a6 b0 b1 b2 b3 b6 bp hn Q hq
      obtain ⟨A2, hA2⟩ : ∃ A2, upd (upd (upd A 12 (D.agg [.int .i64 a.ins, .int .i64 a.outs, .frz (a.rows.map rowD) .unk])) 13 (D.agg [.int .i64 b.ins, .int .i64 b.outs, .frz (b.rows.map rowD) .unk])) 14 (D.fn 109 [.iref (encM a), .iref (encM b)]) = A2 := ⟨_, rfl⟩
      have reg : execR E (callI E) 60 o60_2 [] ⟨A, h1⟩ = some ⟨A2, ⟨h1.next + 3, h1.blk⟩⟩ := by
        rw [← hA2]; simp [builtinD, lenD, pD, argA, o60_2, a2, a3, b0, b1, encM, c86]
      refine .assoc (.then xr60_2 reg ?_)
      have e14 : A2 14 = .fn 109 [.iref (encM a), .iref (encM b)] := by rw [← hA2]; simp [upd]
      have e4 : A2 4 = .ptr (h.next + 2) 0 0 := by rw [← hA2]; simp [upd, a4]
      have e5 : A2 5 = .ptr (h.next + 3) 0 0 := by rw [← hA2]; simp [upd, a5]
      have e6 : A2 6 = .ptr (h.next + 4 + 2) 0 0 := by rw [← hA2]; simp [upd, a6]
      obtain ⟨r, h', cc, hres⟩ := call109 va vb hins (As := A2) (c4 := h.next + 2) (c5 := h.next + 3) (c6 := h.next + 4 + 2) (L := h1.next + 3) (h := ⟨h1.next + 3 + 1, upd h1.blk (h1.next + 3) (.loop (R60 A2))⟩) rfl (by
        intro blk nx hnx hbk hm
        simp only at hnx hbk hm
        have q : ∀ b, b < h1.next + 3 → blk b = h1.blk b := fun b hb => (hbk b (by omega)).trans (upd_ne _ _ _ _ (by omega))
        refine ⟨e4, e5, e6, (hbk _ (by omega)).trans (upd_same ..), (q _ (by omega)).trans b2, (q _ (by omega)).trans b3, ⟨h.next + 4 + 1, true, (q _ (by omega)).trans b6, (q _ (by omega)).trans bp, by omega⟩, hm, by omega, by omega, by omega, by omega, by omega, by omega, by simp only; omega, by simp only; omega, Nat.le_refl _⟩)
      have hd : outP a b (a.rows.length * b.rows.length) 0 [arr0] = difR a b := rfl
      rw [hd] at hres
      cases hdr : difR a b with
      | inl l =>
        rw [hdr] at hres hq
        obtain ⟨k4, k5, k6, kL, k2, k3, ⟨pb, ex, p1, p2, p3⟩, km, kb4, kb5, kbl, kx45, kx46, kx56, klc, kcn, khn⟩ := hres
        have hw : difW a b = [] := by simp only [difW, hdr]
        refine .seq (.block (V_range (x := .normal) (congrArg some e14) cc kL (.inl rfl) rfl ?_))
        show V E 60 53 (r60_10.seq .ret) _ _
        change h'.blk _ = _ at p1 p2 k2 k3
        have p3' : pb < h'.next := p3
        have kcn' : h1.next + 3 + 1 < h'.next := kcn
        have z1 : ¬ h.next + 4 + 2 = h1.next + 3 := by omega
        have z2 : ¬ h.next + 2 = h1.next + 3 := by omega
        have z3 : ¬ h.next + 3 = h1.next + 3 := by omega
        have z4 : ¬ pb = h1.next + 3 := fun e => by rw [e, kL] at p2; cases p2
        have z5 : ¬ h.next + 2 = h.next + 3 := by omega
        have z6 : ¬ h.next + 3 = h.next + 2 := by omega
        have z7 : ¬ pb = h.next + 2 := fun e => by rw [e, k2] at p2; cases p2
        have z8 : ¬ pb = h.next + 3 := fun e => by rw [e, k3] at p2; cases p2
        have z9 : ¬ h.next + 4 + 2 = h.next + 2 := by omega
        have z10 : ¬ h.next + 4 + 2 = h.next + 3 := by omega
        generalize h.next + 2 = c4 at *
        generalize h.next + 3 = c5 at *
        generalize h.next + 4 + 2 = c6 at *
        refine .then xr60_10 (by simp [o60_10, builtinD, lenD, pD, argA, e4, e5, e6, p1, k2, k3, z1, z2, z3, z5, z6, z9, z10]; rfl) (.ret (hq _ ?_ ?_ ?_ (fun r e => by cases e) (fun l' e => ?_)))
        · simp [upd, e4]
        · simp [upd, e5]
        · simp; omega
        · cases e
          refine ⟨by simp [upds, upd, z5], pb, ex, by simp [upds, upd], ?_, by simp; omega⟩
          simp [upds, upd, z7, z8, z4, p2]
      | inr r' =>
        obtain ⟨l, a', i⟩ := r'
        rw [hdr] at hres hq
        obtain ⟨kL, k2, k3, kC⟩ := hres
        have hw : difW a b = wordA l l.length a' [i] := by simp only [difW, hdr]
        refine .seq (.block (V_range (x := .ret) (congrArg some e14) cc kL (.inr rfl) rfl ?_))
        refine hq _ e4 e5 ?_ (fun r e => ?_) (fun l e => by cases e)
        · simp only at kC ⊢; omega
        · rw [hw]
          refine ⟨?_, ?_⟩
          · simp only; rw [upd_ne _ _ _ _ (by omega)]; exact k2
          · simp only; rw [upd_ne _ _ _ _ (by omega)]; exact k3
    have m1 : ¬ h.next = h.next + 4 + 1 := by omega
    have m2 : ¬ h.next = h.next + 4 + 2 := by omega
    refine rest _ _ (by simp [upd]) (by simp [upd]) (by simp [upd]) (by simp [upd]) (by simp [upd]) ?_ ?_ ?_ ?_ ?_ ?_ ?_ _ (fun s z4 z5 zn zr zl => ?_)
    · simp [upds, upd, encM, m1, m2]
    · simp [upds, upd, encM]
    · simp [upds, upd]
    · simp [upds, upd]
    · simp [upds, upd]
    · simp [upds, upd, pD]
    · simp
    · cases hdr : difR a b with
      | inl l =>
        obtain ⟨y1, pb, ex, y2, y3, y4⟩ := zl l hdr
        have hw : difW a b = [] := by simp only [difW, hdr]
        refine ⟨.tup [.frz [] .nil, .sl pb 2 0 l.length ex], by simp [resultsD, mapO, resultD, z4, z5, y1, y2, loadD, partD], _, by rw [hw]; simp only [difTk, hdr]; rfl, zn, pb, ex, rfl, y3, y4⟩
      | inr r =>
        obtain ⟨y1, y2⟩ := zr r hdr
        exact ⟨.tup [.frz ((difW a b).map natD) .exact, .frz [] .nil], by simp [resultsD, mapO, resultD, z4, z5, y1, y2, loadD, partD], _, by simp only [difTk, hdr], zn, rfl⟩)
  obtain ⟨v, h', e, w, rfl, e1, e2⟩ := key
  refine ⟨h', w, ?_, e1, e2⟩
  rw [callI_fn, if_neg (by decide)]
  simp [e]
theorem difW_inr {a b : M} {l : List Arr} {at_ i : Nat} (h : difR a b = .inr (l, at_, i)) : difW a b ≠ [] := by
  have key : ∀ k (at_ : Int) (more : List Nat), more ≠ [] → wordA l k at_ more ≠ [] := by
    intro k
    induction k with
    | zero => intro at_ more hm; exact hm
    | succ k ih =>
      intro at_ more hm
      rw [wordA]
      split
      · exact hm
      · exact ih _ _ (by simp)
  unfold difW
  rw [h]
  exact key _ _ _ (by simp)
theorem spec25 {a b : M} (va : Valid a) (vb : Valid b) (hins : a.ins = b.ins) : bodyR 25 [encM a, encM b] = some (.tup [.frz ((difW a b).map natD) (difTk a b), .bool (decide (0 < (difW a b).length)), .int .i64 0]) := by
  have c59 : ∀ h, callI E (.fn 59 []) [.agg [.int .i64 a.ins, .int .i64 a.outs, .frz (a.rows.map rowD) .unk], .agg [.int .i64 b.ins, .int .i64 b.outs, .frz (b.rows.map rowD) .unk]] h = some (.int .i64 0, h, {}) := fun h =>
    call_pure (by decide) (snaps2 (snap_encM _ _ 4 a) (snap_encM _ _ 4 b)) (spec59 va vb hins)
  have rest : ∀ (A : Nat → D) (h : H) (Q : Po), A 2 = .ptr 0 0 0 → A 3 = .ptr 1 0 0 → h.blk 0 = .live 3 [encM a] → h.blk 1 = .live 3 [encM b] → (∀ s : St, s.A 4 = .frz ((difW a b).map natD) (difTk a b) → s.A 5 = .bool (decide (0 < (difW a b).length)) → s.A 6 = .int .i64 0 → Q.r s) → V E 25 26 (r25_4.seq (r25_5.seq .ret)) ⟨A, h⟩ Q := by
    intro A h Q a2 a3 b0 b1 hq
    obtain ⟨h', v, e1, e3, e4⟩ := call60 va vb hins ⟨h.next + 8, h.blk⟩
    refine .then xr25_4 (by simp [o25_4, builtinD, lenD, pD, argA, a2, a3, b0, b1, encM, e1]; rfl) ?_
    refine .then xr25_5 (by simp [o25_5, builtinD, lenD, pD, argA]; rfl) (.ret (hq _ ?_ ?_ ?_))
    · simp [upd]
    · simp [upd]
    · simp [upd]
  refine bodyR_V (run25 _ _ (by simp)) ?_
  unfold b25
  refine .then xr25_0 (by simp [o25_0, builtinD, lenD, pD, argA, encM]; rfl) ?_
  refine .assoc (.then xr25_1 (by simp [o25_1, builtinD, lenD, pD, argA, encM, c59]; rfl) ?_)
  refine .assoc (.then xr25_2 (by simp [o25_2, builtinD, lenD, pD, argA]; rfl) ?_)
  refine .seq (.cond (v := false) (by simp [opd, upd]) (fun q => by cases q) (fun _ => .skip ?_))
  refine rest _ _ _ (by simp [upd]) (by simp [upd]) (by simp [upds, upd, encM]) (by simp [upds, upd, encM]) (fun s e4 e5 e6 => ⟨_, by simp [resultsD, mapO, resultD, e4, e5, e6]; rfl, ?_⟩)
  have h1 := snap_word true s.h.blk 6 (difW a b) (difTk a b)
  have h2 : (difTk a b).fade true = difTk a b := by unfold difTk; cases difR a b <;> rfl
  rw [h2] at h1
  show Option.map _ (match mapK (snap true s.h.blk (6 + 2)) _ with | some (ys, k) => some (D.tup ys, k) | none => none) = _
  simp only [mapK, h1]
  rfl
theorem spec19 {a b : M} (va : Valid a) (vb : Valid b) (hins : a.ins = b.ins) : bodyR 19 [encM a, encM b] = some (.tup [.bool (decide (difW a b = [])), .int .i64 0]) := by
  have c25 : ∀ h, callI E (.fn 25 []) [.agg [.int .i64 a.ins, .int .i64 a.outs, .frz (a.rows.map rowD) .unk], .agg [.int .i64 b.ins, .int .i64 b.outs, .frz (b.rows.map rowD) .unk]] h = some (.tup [.frz ((difW a b).map natD) (difTk a b), .bool (decide (0 < (difW a b).length)), .int .i64 0], h, {}) := fun h =>
    call_pure (by decide) (snaps2 (snap_encM _ _ 4 a) (snap_encM _ _ 4 b)) (spec25 va vb hins)
  have hd : (!decide (0 < (difW a b).length)) = decide (difW a b = []) := by
    cases difW a b <;> simp
  refine bodyR_V (run19 _ _ (by simp)) ?_
  unfold b19
  refine .then xr19_0 (by simp [o19_0, builtinD, lenD, pD, argA, encM]; rfl) ?_
  refine .then xr19_1 (by simp [o19_1, builtinD, lenD, pD, argA, encM, c25]; rfl) ?_
  refine .then xr19_2 (by simp [o19_2, builtinD, lenD, pD, argA]; rfl) (.ret ⟨_, by simp [resultsD, mapO, resultD, upd]; rfl, ?_⟩)
  rw [← hd]
  simp [snap, snapDepth, mapK]
end Go.Eng.E3
namespace Go.Eng.E3
open Go Go.Eng Go.Proofs
set_option maxRecDepth 1000000
theorem lives10 : bodyR 23 [] = some (.bool true) := run_bool (X := XT) (n := 200) okXT (by kernel_rfl)
end Go.Eng.E3
namespace Go.Eng.E3
open Go Go.Eng Go.Proofs
set_option maxRecDepth 100000
attribute [local simp] execR runOps stepOp wantedD evalOp opd upd St.put Eff.apply upds looseOk FP.free FP.idle apart Eff.fp ofVal loadD storeD partD setPart indexAddrD isShift arith unD callOp mapO D.okc pickD buildable buildD placeD convD
set_option linter.unusedSimpArgs false
def m25 : List D → Option D
  | [da, db] => match decM da, decM db with
    | some a, some b => bif validB a && (validB b && Nat.beq a.ins b.ins) then some (.tup [.frz ((difW a b).map natD) (difTk a b), .bool (decide (0 < (difW a b).length)), .int .i64 0]) else none
    | _, _ => none
  | _ => none
theorem ok25 : ModelOk E 25 m25 := modelOk_of fun xs r h => by
  unfold m25 at h
  split at h
  · split at h
    · rename_i a b ha hb
      cases hc : validB a && (validB b && Nat.beq a.ins b.ins) with
      | false => rw [hc] at h; cases h
      | true =>
        rw [hc] at h
        simp only [Bool.and_eq_true, Nat.beq_eq] at hc
        rw [decM_ok ha, decM_ok hb, spec25 (validB_ok hc.1) (validB_ok hc.2.1) hc.2.2]
        exact h
    · cases h
  · cases h
def m23 : List D → Option D
  | [] => some (.bool true)
  | _ => none
theorem ok23 : ModelOk E 23 m23 := modelOk_of fun xs r h => by
  unfold m23 at h
  split at h
  · cases h; exact lives10
  · cases h
def XK : Ext' := fun g => match g with
  | 111 => some m111
  | 85 => some m85
  | 74 => some m74
  | 25 => some m25
  | 23 => some m23
  | _ => none
theorem okXK (g : FuncId) (m : List D → Option D) (h : XK g = some m) : ModelOk E g m := by
  unfold XK at h
  split at h
  · cases h; exact ok111
  · cases h; exact ok85
  · cases h; exact ok74
  · cases h; exact ok25
  · cases h; exact ok23
  · cases h
def kStep (k : Int) (i : Nat) : Int := (k * 31 + 7 * (i : Int) + 11).tmod 100003
def kIn (n : Nat) : Nat → Int → Int × List Int
  | 0, k => (k, [])
  | i + 1, k => let p := kIn n i k; (kStep p.1 i, p.2 ++ [(kStep p.1 i).tmod (8 + (n : Int))])
def kAt : Nat → Int
  | 0 => 1
  | n + 1 => (kIn n 18 (kAt n)).1
def kL (n : Nat) : List Int := (kIn n 18 (kAt n)).2
def u8w (x : Int) : Int := IntKind.u8.wrap x
def kD (n : Nat) : D := .agg [.int .u8 (u8w n), .int .u8 (u8w ((n : Int).tdiv 3)), .int .u8 1, .bool ((n : Int).tmod 2 == 0), .frz ((kL n).map (D.int .u16)) .unk, .int .u8 (u8w (kAt (n + 1))), .int .u8 0, .int .u8 1, .bool ((n : Int).tmod 3 == 0), .frz (((kL n).drop 3).map (D.int .u16)) .unk,
  .bool ((n : Int).tmod 4 != 0), .int .u8 (u8w n), .int .u8 (u8w (kAt (n + 1))), .int .u8 (u8w (kAt (n + 1))), .int .u8 (u8w n), .int .i64 ((n : Int).tmod 5), .int .i64 ((n : Int).tmod 4)]
def kR (n : Nat) : D := .frz [.agg [.int .u8 (u8w n), .int .u8 (u8w (kAt (n + 1)))], .agg [.int .u8 0, .int .u8 1]] .unk
end Go.Eng.E3
namespace Go.Eng.E3
open Go Go.Eng Go.Proofs
set_option maxRecDepth 100000
attribute [local simp] execR runOps stepOp wantedD evalOp opd upd St.put Eff.apply upds looseOk FP.free FP.idle apart Eff.fp ofVal loadD storeD partD setPart indexAddrD isShift arith unD callOp mapO D.okc pickD buildable buildD placeD convD
set_option linter.unusedSimpArgs false
set_option linter.unusedVariables false
set_option maxHeartbeats 4000000
def ringRows (n s : Nat) : List (List (Int × Int)) := (List.range s).map fun i => [((((i + 1) % n : Nat) : Int), (((i + 1) / n : Nat) : Int))]
def ringM (n : Nat) : M := ⟨1, 2, ringRows n n⟩
theorem ringRows_succ (n s : Nat) : ringRows n (s + 1) = ringRows n s ++ [[((((s + 1) % n : Nat) : Int), (((s + 1) / n : Nat) : Int))]] := by simp [ringRows, List.range_succ]
theorem ringRows_len (n s : Nat) : (ringRows n s).length = s := by simp [ringRows]
theorem ring_valid {n : Nat} (h1 : 1 ≤ n) (h2 : n ≤ 64) : Valid (ringM n) := by
  refine ⟨Nat.le_refl 1, (by decide : 1 ≤ 16), (by decide : 1 ≤ 2), (by decide : 2 ≤ 16), ?_, ?_, ?_, ?_⟩
  · simp [ringM, ringRows] <;> omega
  · simp [ringM, ringRows] <;> omega
  · intro r hr
    obtain ⟨i, _, rfl⟩ := List.mem_map.1 hr
    rfl
  · intro r hr e he
    obtain ⟨i, hi, rfl⟩ := List.mem_map.1 hr
    have hi := List.mem_range.1 hi
    simp at he; subst he
    have m := Nat.mod_lt (i + 1) (show n > 0 by omega)
    have d : (i + 1) / n < 2 := by rw [Nat.div_lt_iff_lt_mul (by omega)]; omega
    refine .inr ⟨Int.natCast_nonneg _, ?_, Int.natCast_nonneg _, ?_⟩
    · show (((i + 1) % n : Nat) : Int) < ((ringM n).rows.length : Int)
      rw [show (ringM n).rows.length = n from ringRows_len n n]
      exact Int.ofNat_lt.2 m
    · show (((i + 1) / n : Nat) : Int) < ((2 : Nat) : Int)
      exact Int.ofNat_lt.2 d
def ringsB : Bool := (List.range 63).all fun n => Nat.beq (difW (ringM (n + 1)) (ringM (n + 2))).length (n + 1)
theorem rings_ok : ringsB = true := by kernel_rfl
theorem ring_dif {n : Nat} (h1 : 1 ≤ n) (h2 : n < 64) : (difW (ringM n) (ringM (n + 1))).length = n := by
  have := List.all_eq_true.1 rings_ok (n - 1) (List.mem_range.2 (by omega))
  rw [Nat.beq_eq] at this
  rwa [show n - 1 + 1 = n by omega, show n - 1 + 2 = n + 1 by omega] at this
end Go.Eng.E3
namespace Go.Eng.E3
open Go Go.Eng Go.Proofs
set_option maxRecDepth 100000
attribute [local simp] execR runOps stepOp wantedD evalOp opd upd St.put Eff.apply upds looseOk FP.free FP.idle apart Eff.fp ofVal loadD storeD partD setPart indexAddrD isShift arith unD callOp mapO D.okc pickD buildable buildD placeD convD
set_option linter.unusedSimpArgs false
set_option linter.unusedVariables false
set_option maxHeartbeats 4000000
theorem bin4 (a b : Bool) : binD E.T .eql 4 (.bool a) (.bool b) = some (.bool (a == b)) := by
  simp [binD, eqD, eqDepth]
theorem bool_of_snap {kp : Bool} {blk : Nat → Blk} {b : Bool} : ∀ {n : Nat} {r : D}, (snap kp blk n r).map (·.1) = some (.bool b) → r = .bool b
  | 0, r, h => by cases h
  | n + 1, r, h => by
    cases r with
    | bool x =>
      have h' : some (D.bool x) = some (D.bool b) := h
      exact Option.some.inj h'
    | int k x => cases h
    | str s => cases h
    | nilp => cases h
    | nilfn => cases h
    | nilm => cases h
    | yld l => cases h
    | mp b => cases h
    | iref v =>
      have : Option.map (·.1) (match snap false blk n v with | some (y, k) => some (D.iref y, k) | none => none) = some (D.bool b) := h
      split at this <;> cases this
    | frz xs tk =>
      have : Option.map (·.1) (match mapK (snap false blk n) xs with | some (ys, k) => some (D.frz ys (tk.fade kp), k) | none => none) = some (D.bool b) := h
      split at this <;> cases this
    | agg cs =>
      have : Option.map (·.1) (match mapK (snap kp blk n) cs with | some (ys, k) => some (D.agg ys, k) | none => none) = some (D.bool b) := h
      split at this <;> cases this
    | tup cs =>
      have : Option.map (·.1) (match mapK (snap kp blk n) cs with | some (ys, k) => some (D.tup ys, k) | none => none) = some (D.bool b) := h
      split at this <;> cases this
    | fn f cs =>
      have : Option.map (·.1) (match mapK (snap kp blk n) cs with | some (ys, k) => some (D.fn f ys, k) | none => none) = some (D.bool b) := h
      split at this <;> cases this
    | sl b' esz off len ex =>
      have : Option.map (·.1) (match (blk b').row with | some (e, xs) => (if e = esz ∧ off + len ≤ xs.length then (match mapK (snap false blk n) ((xs.drop off).take len) with | some (ys, k) => some (D.frz ys (if kp && ex then .exact else .unk), b' :: k) | none => none) else none) | none => none) = some (D.bool b) := h
      split at this
      · split at this
        · split at this <;> cases this
        · cases this
      · cases this
    | ptr b' i o =>
      cases i with
      | succ i => cases h
      | zero =>
        cases o with
        | succ o => cases h
        | zero =>
          have : Option.map (·.1) (match (blk b').row with | some (_, [x]) => (match snap false blk n x with | some (y, k) => some (D.iref y, b' :: k) | none => none) | _ => none) = some (D.bool b) := h
          split at this
          · split at this <;> cases this
          · cases this
theorem bodyI_of_bodyR {g : FuncId} {args : List D} {b : Bool} (h : bodyR g args = some (.bool b)) : ∃ h', bodyI E g args H.empty = some (.bool b, h') := by
  unfold bodyR at h
  split at h
  · rename_i r h' hb
    exact ⟨h', by rw [hb, bool_of_snap h]⟩
  · cases h
end Go.Eng.E3
namespace Go.Eng.E3
open Go Go.Eng Go.Proofs
set_option maxRecDepth 100000
attribute [local simp] execR runOps stepOp wantedD evalOp opd upd St.put Eff.apply upds looseOk FP.free FP.idle apart Eff.fp ofVal loadD storeD partD setPart indexAddrD isShift arith unD callOp mapO D.okc pickD buildable buildD placeD convD
set_option linter.unusedSimpArgs false
set_option linter.unusedVariables false
set_option maxHeartbeats 4000000
theorem spec24 (x y : Int) : bodyR 24 [.int .i64 x, .int .i64 y] = some (.agg [.int .i64 x, .int .i64 y]) := by
  refine bodyR_V (run24 _ _ (by simp)) ?_
  unfold b24
  refine .then xr24_0 (by simp [o24_0, builtinD, lenD, pD, argA]; rfl) ?_
  refine .then xr24_1 (by simp [o24_1, builtinD, lenD, pD, argA]; rfl) (.ret ⟨_, by simp [resultsD, mapO, resultD, upd, upds, loadD, partD]; rfl, by simp [snap, snapDepth, mapK]⟩)
theorem c24 (x y : Int) (h : H) : callI E (.fn 24 []) [.int .i64 x, .int .i64 y] h = some (.agg [.int .i64 x, .int .i64 y], h, {}) := call_pure (by decide) (snaps2 rfl rfl) (spec24 x y)
theorem snapMt (blk : Nat → Blk) (i o : Int) (rows : List (List (Int × Int))) (tk : Tok) : snap false blk snapDepth (.agg [.int .i64 i, .int .i64 o, .frz (rows.map rowD) tk]) = some (.agg [.int .i64 i, .int .i64 o, .frz (rows.map rowD) .unk], []) := by
  have e1 : snap false blk 8 (.frz (rows.map rowD) tk) = some (.frz (rows.map rowD) .unk, []) := by
    show (match mapK (snap false blk 7) (rows.map rowD) with | some (ys, k) => some (D.frz ys (tk.fade false), k) | none => none) = _
    rw [mapK_map rows fun x _ => snap_rowD false blk 4 x]
    cases tk <;> rfl
  show (match mapK (snap false blk 8) [.int .i64 i, .int .i64 o, .frz (rows.map rowD) tk] with | some (ys, k) => some (D.agg ys, k) | none => none) = _
  simp only [mapK, e1]
  rfl
theorem c25 {a b : M} (va : Valid a) (vb : Valid b) (hins : a.ins = b.ins) (tk tk' : Tok) (h : H) : callI E (.fn 25 []) [.agg [.int .i64 a.ins, .int .i64 a.outs, .frz (a.rows.map rowD) tk], .agg [.int .i64 b.ins, .int .i64 b.outs, .frz (b.rows.map rowD) tk']] h = some (.tup [.frz ((difW a b).map natD) (difTk a b), .bool (decide (0 < (difW a b).length)), .int .i64 0], h, {}) :=
  call_pure (by decide) (by
    have hk : E.pol.args 25 = false := by decide
    rw [hk]
    simp only [mapK, snapMt]
    rfl) (spec25 va vb hins)
def cells5 (k : Nat) (x r : D) : List D := if k = 0 then [.int .i64 1, .int .i64 2, r, .int .i64 0, .int .i64 0, .frz [] .nil] else [.int .i64 1, .int .i64 2, x, .int .i64 1, .int .i64 2, r]
structure R5 (n k B : Nat) (x : D) (j : Nat) (st : St) : Prop where
  le : j ≤ n + k
  h1 : st.A 1 = .int .i64 n
  h2 : st.A 2 = .ptr B 0 0
  h3 : st.A 3 = .int .i64 k
  h4 : st.A 4 = .int .i64 ((n + k - j : Nat) : Int)
  hb : ∃ tk, st.h.blk B = .live 6 [.agg (cells5 k x (.frz ((ringRows (n + k) (n + k - j)).map rowD) tk))] ∧ TokB st.h.blk tk 1 st.h.next
  hn : B < st.h.next
theorem mu5 : E.pol.mu 5 32 = false := by decide
theorem mu5b : E.pol.mu 5 72 = false := by decide
theorem loop5c {n k B : Nat} {x : D} (hk : k = 0 ∨ k = 1) (hn1 : 1 ≤ n) (hn2 : n < 64) {Q : Po} (hQ : ∀ st, R5 n k B x 0 st → Q.x 4 st) (j : Nat) (st : St) (hI : R5 n k B x j st) : V E 5 207 (.loop l5_2) st Q := by
  refine V.count (R5 n k B x) ?_ ?_ j st hI
  · rintro j ⟨A, h⟩ ⟨le, h1, h2, h3, h4, ⟨tk, hb, ht⟩, hn⟩
    have hlt : n + k - (j + 1) < n + k := by omega
    generalize hi : n + k - (j + 1) = s at *
    have hk' : n + k - j = s + 1 := by omega
    have hw1 : IntKind.i64.wrap ((s : Int) + 1) = ((s + 1 : Nat) : Int) := by rw [wrap_id] <;> omega
    have hw2 : IntKind.i64.wrap ((n : Int) + k) = ((n + k : Nat) : Int) := by rw [wrap_id] <;> omega
    have hltI : (s : Int) < ((n + k : Nat) : Int) := by omega
    have hm : (((s + 1 : Nat) : Int)).tmod ((n + k : Nat) : Int) = (((s + 1) % (n + k) : Nat) : Int) := (Int.ofNat_tmod _ _).symm
    have hq : (((s + 1 : Nat) : Int)).tdiv ((n + k : Nat) : Int) = (((s + 1) / (n + k) : Nat) : Int) := (Int.ofNat_tdiv _ _).symm
    have hql : (s + 1) / (n + k) ≤ s + 1 := Nat.div_le_self _ _
    have rs := ringRows_succ (n + k) s
    have rl := ringRows_len (n + k) s
    generalize (s + 1) % (n + k) = xm at *
    generalize (s + 1) / (n + k) = xq at *
    have hwq : IntKind.i64.wrap (xq : Int) = xq := by rw [wrap_id] <;> omega
    have hz : ¬ ((n + k : Nat) : Int) = 0 := by omega
    simp only at h1 h2 h3 h4 hb ht hn
    generalize ringRows (n + k) s = rows at *
    rw [cl5_2]
    refine .assoc (.then xr5_10 (by simp [o5_10, builtinD, lenD, pD, argA, h1, h3, h4, hw2, hltI]; rfl) ?_)
    refine .head (v := true) (by simp [opd, upd] <;> omega) (fun _ => ?_) (fun q => by cases q)
    have nB : ∀ q, ¬ B = h.next + 5 + q := by omega
    have ap : ∀ (blk : Nat → Blk) nx s tkz, TokB blk tk 1 nx → builtinD E.T (E.pol.mu 5) s blk .append [32, 32] [.frz (rows.map rowD) tk, .frz [.frz [.agg [.int .i64 xm, .int .i64 xq]] .unk] tkz] = some { v := .frz ((rows ++ [[((xm : Int), (xq : Int))]]).map rowD) (.own s 1), wr := tokWr tk s, rd := tokRd tk } := fun blk nx s tkz ht => app32 (x := [((xm : Int), (xq : Int))]) mu5 ht (by omega)
    have hBt : h.blk B ≠ .tok := by rw [hb]; nofun
    have ht2 : TokB h.blk tk 1 (h.next + 5 + 24) := ht.mono (by omega) (fun _ _ h => h)
    have ap' := fun s tkz => ap h.blk (h.next + 5 + 24) s tkz ht2
    have body : ∀ (A2 : Nat → D) (h2 : H), (∀ t, t < 5 → A2 t = A t) → (∃ tk, h2.blk B = .live 6 [.agg (cells5 k x (.frz ((rows ++ [[((xm : Int), (xq : Int))]]).map rowD) tk))] ∧ TokB h2.blk tk 1 h2.next) → B < h2.next → V E 5 207 r5_11 ⟨A2, h2⟩ (Q.upto (R5 n k B x j)) := by
      intro A2 h2' eA eb hn2
      have e4 := (eA 4 (by omega)).trans h4
      obtain ⟨tk', eb1, et⟩ := eb
      refine .reg xr5_11 (by simp [o5_11, builtinD, lenD, pD, argA, e4, hw1]; rfl) ⟨by omega, ?_, ?_, ?_, ?_, ⟨tk', ?_, ?_⟩, ?_⟩
      · simp [upd, eA, h1]
      · simp [upd, eA, h2]
      · simp [upd, eA, h3]
      · simp [upd, hk']
      · rw [hk', rs]; simpa [upds] using eb1
      · exact et.mono (by simp) (fun _ _ h => h)
      · simp <;> omega
    have nS : ∀ q, ¬ B = h.next + 5 + q := by omega
    have tkB : ∀ o z, tk = .own o z → ¬ B = o := fun o z e eo => by
      rcases ht with q | ⟨o', q1, q2, q3⟩
      · rw [q] at e; cases e
      · rw [q1] at e; injection e with e1 e2; rw [eo, ← e1] at hBt; exact hBt q2
    have wr1 : ∀ s, ¬ B = s → upds h.blk (tokWr tk s) B = h.blk B := fun s hs => by
      cases htk : tk with
      | own o z => simp [tokWr, upds, upd, hs, tkB o z htk]
      | _ => simp [tokWr, upds, upd, hs]
    have tg : ∀ s nx, s < nx → TokB (upds h.blk (tokWr tk s)) (.own s 1) 1 nx := fun s nx hs => TokB.grow hs
    have hk2 : (k : Int) < 2 := by omega
    have hpd : ∀ r : D, partD E.T 32 (cells5 k x r) (k * 3 + 2) = some r := fun r => by
      rcases hk with rfl | rfl <;> simp [partD, cells5]
    have hsp : ∀ (r : D) (l : List D) (tk : Tok), setPart (.agg (cells5 k x r)) (.frz l tk) (k * 3 + 2) = some (.agg (cells5 k x (.frz l tk))) := fun r l tk => by
      rcases hk with rfl | rfl <;> simp [setPart, cells5]
    have hcl : ∀ r : D, (cells5 k x r).length = 6 := fun r => by
      rcases hk with rfl | rfl <;> simp [cells5]
    have tB := wr1 (h.next + 5 + 20) (by omega)
    rw [hb] at tB
    have hmu72 := mu5b
    have hm' : ((s : Int) + 1).tmod ((n : Int) + (k : Int)) = (xm : Int) := by simpa using hm
    have hq' : ((s : Int) + 1).tdiv ((n : Int) + (k : Int)) = (xq : Int) := by simpa using hq
    have hz' : ¬ (n : Int) + (k : Int) = 0 := by omega
    refine .seq (.block (.reg xr5_12 (by simp [-setPart, -partD, o5_12, lenD, pD, argA, h1, h2, h3, h4, hb, hw1, hw2, hm', hq', hwq, hz', hk2, hpd, hsp, hcl, c24, ap', mu5, hmu72, tB, show List.range 1 = [0] from rfl, mapK, snapDepth, snap, kills, Tok.fade]; rfl) ?_))
    show V E 5 207 r5_11 _ _
    have hle : h.next + 5 + 20 < h.next + 5 + 24 := by omega
    refine body _ _ (fun t ht => ?_) ⟨.own (h.next + 5 + 20) 1, ?_, ?_⟩ (by simp <;> omega)
    · simp [upd, show ∀ c, 13 ≤ c → ¬ t = c from fun c h => by omega]
    · simp [upds, upd]
    · refine (tg (h.next + 5 + 20) (h.next + 5 + 24) hle).mono (Nat.le_refl _) (fun b hb1 hb2 => ?_)
      have hbB : ¬ b = B := fun e => by rw [e, tB] at hb2; cases hb2
      simpa [upds, upd, hbB] using hb2
  · rintro ⟨A, h⟩ ⟨le, h1, h2, h3, h4, ⟨tk, hb, ht⟩, hn⟩
    have hw2 : IntKind.i64.wrap ((n : Int) + k) = ((n + k : Nat) : Int) := by rw [wrap_id] <;> omega
    simp only at h1 h2 h3 h4 hb ht hn
    rw [cl5_2]
    refine .assoc (.then xr5_10 (by simp [o5_10, builtinD, lenD, pD, argA, h1, h3, h4, hw2]; rfl) ?_)
    refine .head (v := false) (by simp [opd, upd] <;> omega) (fun q => by cases q) (fun _ => hQ _ ⟨by omega, ?_, ?_, ?_, ?_, ⟨tk, hb, ?_⟩, ?_⟩)
    · simp [upd, h1]
    · simp [upd, h2]
    · simp [upd, h3]
    · simp [upd, h4]
    · exact ht.mono (by simp) (fun _ _ h => h)
    · simp <;> omega
end Go.Eng.E3
namespace Go.Eng.E3
open Go Go.Eng Go.Proofs
set_option maxRecDepth 100000
attribute [local simp] execR runOps stepOp wantedD evalOp opd upd St.put Eff.apply upds looseOk FP.free FP.idle apart Eff.fp ofVal loadD storeD partD setPart indexAddrD isShift arith unD callOp mapO D.okc pickD buildable buildD placeD convD
set_option linter.unusedSimpArgs false
set_option linter.unusedVariables false
set_option maxHeartbeats 4000000
def Arr5 (n k : Nat) (st : St) (B : Nat) : Prop :=
  (k = 0 ∧ st.h.blk B = .live 6 [.agg [.int .i64 0, .int .i64 0, .frz [] .nil, .int .i64 0, .int .i64 0, .frz [] .nil]]) ∨
  (k = 1 ∧ ∃ tk, st.h.blk B = .live 6 [.agg [.int .i64 1, .int .i64 2, .frz ((ringRows n n).map rowD) tk, .int .i64 0, .int .i64 0, .frz [] .nil]]) ∨
  (k = 2 ∧ ∃ tk tk', st.h.blk B = .live 6 [.agg [.int .i64 1, .int .i64 2, .frz ((ringRows n n).map rowD) tk, .int .i64 1, .int .i64 2, .frz ((ringRows (n + 1) (n + 1)).map rowD) tk']])
structure I5b (n B j : Nat) (st : St) : Prop where
  le : j ≤ 2
  h1 : st.A 1 = .int .i64 n
  h2 : st.A 2 = .ptr B 0 0
  h3 : st.A 3 = .int .i64 ((2 - j : Nat) : Int)
  hb : Arr5 n (2 - j) st B
  hn : B < st.h.next
theorem loop5b {n B : Nat} (hn1 : 1 ≤ n) (hn2 : n < 64) {Q : Po} (hQ : ∀ st, I5b n B 0 st → Q.x 2 st) (j : Nat) (st : St) (hI : I5b n B j st) : V E 5 207 (.loop l5_1) st Q := by
  refine V.count (I5b n B) ?_ ?_ j st hI
  · rintro j ⟨A, h⟩ ⟨le, h1, h2, h3, hb, hn⟩
    have hj : j = 0 ∨ j = 1 := by omega
    simp only at h1 h2 h3 hn
    have hw : ∀ k : Nat, k ≤ 2 → IntKind.i64.wrap ((k : Int) + 1) = ((k + 1 : Nat) : Int) := fun k hk => by rw [wrap_id] <;> omega
    rw [cl5_1]
    have go : ∀ (k : Nat) (x : D), k = 0 ∨ k = 1 → 2 - (j + 1) = k → 2 - j = k + 1 → (k = 1 → ∃ tk0, x = .frz ((ringRows n n).map rowD) tk0) → (∀ b : Nat → Blk, b B = .live 6 [.agg (cells5 k x (.frz [] .nil))] → ∀ A2 nx, (∀ t, t < 4 → A2 t = A t) → A2 4 = .int .i64 0 → B < nx → V E 5 207 (.block 4 (.loop l5_2)) ⟨A2, ⟨nx, b⟩⟩ (Po.within (Po.upto (Q.upto (I5b n B j)) (fun s' => V E 5 207 r5_7 s' (Q.upto (I5b n B j)))) 3)) := by
      intro k x hk e1 e2 hx b hb0 A2 nx eA e4 hnx
      refine .block (loop5c (n := n) (k := k) (B := B) (x := x) hk hn1 hn2 ?_ (n + k) _ ⟨Nat.le_refl _, ?_, ?_, ?_, ?_, ⟨.nil, ?_, .inl rfl⟩, hnx⟩)
      · rintro ⟨A3, g⟩ ⟨_, q1, q2, q3, q4, ⟨tk, qb, _⟩, qn⟩
        simp only at q1 q2 q3 qb qn
        rw [Nat.sub_zero] at qb
        show V E 5 207 r5_7 _ _
        refine .reg xr5_7 (by simp [o5_7, builtinD, lenD, pD, argA, q3, hw k (by omega)]; rfl) ⟨by omega, ?_, ?_, ?_, ?_, ?_⟩
        · simp [upd, q1]
        · simp [upd, q2]
        · rw [e2]; simp [upd]
        · rw [e2]
          rcases hk with rfl | rfl
          · exact .inr (.inl ⟨rfl, tk, by simpa [upds, cells5] using qb⟩)
          · obtain ⟨tk0, rfl⟩ := hx rfl
            exact .inr (.inr ⟨rfl, tk0, tk, by simpa [upds, cells5] using qb⟩)
        · simp <;> omega
      · simp [eA, h1]
      · simp [eA, h2]
      · simp [eA, h3, e1]
      · simp [e4]
      · simpa [ringRows] using hb0
    rcases hj with rfl | rfl
    · rcases hb with ⟨e, _⟩ | ⟨_, tk, hb⟩ | ⟨e, _⟩
      · cases e
      · change h.blk B = _ at hb
        have e3 : ((2 - (0 + 1) : Nat) : Int) = 1 := rfl
        rw [e3] at h3
        refine .assoc (.then xr5_6 (by simp [o5_6, builtinD, lenD, pD, argA, h3]; rfl) ?_)
        refine .head (v := true) (by simp [opd, upd]) (fun _ => ?_) (fun q => by cases q)
        refine .seq (.block (.then xr5_8 (by simp [o5_8, builtinD, lenD, pD, argA, h2, h3, hb]; rfl) ?_))
        refine .then xr5_9 (by simp [o5_9, builtinD, lenD, pD, argA]; rfl) ?_
        refine go 1 (.frz ((ringRows n n).map rowD) tk) (.inr rfl) rfl rfl (fun _ => ⟨tk, rfl⟩) _ ?_ _ _ (fun t ht => ?_) ?_ ?_
        · simp [upds, upd, cells5]
        · simp [upd, show t ≠ 4 by omega, show ∀ c, 13 ≤ c → ¬ t = c from fun c h => by omega]
        · simp [upd]
        · omega
      · cases e
    · rcases hb with ⟨_, hb⟩ | ⟨e, _⟩ | ⟨e, _⟩
      · change h.blk B = _ at hb
        have e3 : ((2 - (1 + 1) : Nat) : Int) = 0 := rfl
        rw [e3] at h3
        refine .assoc (.then xr5_6 (by simp [o5_6, builtinD, lenD, pD, argA, h3]; rfl) ?_)
        refine .head (v := true) (by simp [opd, upd]) (fun _ => ?_) (fun q => by cases q)
        refine .seq (.block (.then xr5_8 (by simp [o5_8, builtinD, lenD, pD, argA, h2, h3, hb]; rfl) ?_))
        refine .then xr5_9 (by simp [o5_9, builtinD, lenD, pD, argA]; rfl) ?_
        refine go 0 .nilp (.inl rfl) rfl rfl (fun e => by cases e) _ ?_ _ _ (fun t ht => ?_) ?_ ?_
        · simp [upds, upd, cells5]
        · simp [upd, show t ≠ 4 by omega, show ∀ c, 13 ≤ c → ¬ t = c from fun c h => by omega]
        · simp [upd]
        · omega
      · cases e
      · cases e
  · rintro ⟨A, h⟩ ⟨le, h1, h2, h3, hb, hn⟩
    simp only at h1 h2 h3 hn
    have e3 : ((2 - 0 : Nat) : Int) = 2 := rfl
    rw [e3] at h3
    rw [cl5_1]
    refine .assoc (.then xr5_6 (by simp [o5_6, builtinD, lenD, pD, argA, h3]; rfl) ?_)
    refine .head (v := false) (by simp [opd, upd]) (fun q => by cases q) (fun _ => hQ _ ⟨by omega, ?_, ?_, ?_, hb, ?_⟩)
    · simp [upd, h1]
    · simp [upd, h2]
    · simp [upd, h3]
    · simp <;> omega
structure I5a (j : Nat) (st : St) : Prop where
  le : j ≤ 63
  h1 : st.A 1 = .int .i64 ((64 - j : Nat) : Int)
theorem loop5a {Q : Po} (hQ : ∀ st, Q.x 0 st) (j : Nat) (st : St) (hI : I5a j st) : V E 5 207 (.loop l5_0) st Q := by
  refine V.count I5a ?_ ?_ j st hI
  · rintro j ⟨A, h⟩ ⟨le, h1⟩
    obtain ⟨n, hn⟩ : ∃ n, 64 - (j + 1) = n := ⟨_, rfl⟩
    have hn1 : 1 ≤ n := by omega
    have hn2 : n < 64 := by omega
    have hn2I : (n : Int) < 64 := by omega
    have hw : IntKind.i64.wrap ((n : Int) + 1) = ((n + 1 : Nat) : Int) := by rw [wrap_id] <;> omega
    rw [hn] at h1
    simp only at h1
    rw [cl5_0]
    refine .assoc (.then xr5_2 (by simp [o5_2, builtinD, lenD, pD, argA, h1, hn2I]; rfl) ?_)
    refine .head (v := true) (by simp [opd, upd] <;> omega) (fun _ => ?_) (fun q => by cases q)
    refine .seq (.block (.then xr5_4 (by simp [o5_4, builtinD, lenD, pD, argA]; rfl) ?_))
    refine .assoc (.then xr5_5 (by simp [o5_5, builtinD, lenD, pD, argA]; rfl) ?_)
    refine .seq (.block (loop5b (n := n) (B := h.next + 2) hn1 hn2 ?_ 2 _ ⟨Nat.le_refl _, ?_, ?_, ?_, .inl ⟨rfl, ?_⟩, ?_⟩))
    · rintro ⟨A1, g⟩ ⟨_, q1, q2, q3, qb, qn⟩
      simp only at q1 q2 q3 qn
      rcases qb with ⟨e, _⟩ | ⟨e, _⟩ | ⟨_, tk, tk', qb⟩
      · cases e
      · cases e
      change g.blk _ = _ at qb
      have hd := ring_dif hn1 hn2
      obtain ⟨w, hwe⟩ : ∃ w, difW (ringM n) (ringM (n + 1)) = w := ⟨_, rfl⟩
      obtain ⟨tw, htw⟩ : ∃ w, difTk (ringM n) (ringM (n + 1)) = w := ⟨_, rfl⟩
      rw [hwe] at hd
      have hpos : 0 < w.length := by omega
      have cc' : ∀ h, callI E (.fn 25 []) [.agg [.int .i64 1, .int .i64 2, .frz ((ringRows n n).map rowD) tk], .agg [.int .i64 1, .int .i64 2, .frz ((ringRows (n + 1) (n + 1)).map rowD) tk']] h = some (.tup [.frz (w.map natD) tw, .bool true, .int .i64 0], h, {}) := fun h => by
        have := c25 (ring_valid hn1 (by omega)) (ring_valid (n := n + 1) (by omega) (by omega)) rfl tk tk' h
        rw [hwe, htw, decide_eq_true hpos] at this
        exact this
      show V E 5 207 (r5_13.seq _) _ _
      refine .then xr5_13 (by simp [o5_13, builtinD, lenD, pD, argA, q2, qb, cc']; rfl) ?_
      refine .then xr5_14 (by simp [o5_14, builtinD, lenD, pD, argA, q1, hd]; rfl) ?_
      refine .cond (v := false) (by simp [opd, upd]) (fun q => by cases q) (fun _ => .skip ?_)
      show V E 5 207 r5_3 _ _
      refine .reg xr5_3 (by simp [o5_3, builtinD, lenD, pD, argA, q1, hw]; rfl) ⟨by omega, ?_⟩
      rw [show 64 - j = n + 1 by omega]
      simp [upd]
    · simp [upd, h1]
    · simp [upd]
    · simp [upd]
    · simp [upds, upd]
    · simp
  · rintro ⟨A, h⟩ ⟨le, h1⟩
    have e : ((64 - 0 : Nat) : Int) = 64 := rfl
    rw [e] at h1
    simp only at h1
    rw [cl5_0]
    refine .assoc (.then xr5_2 (by simp [o5_2, builtinD, lenD, pD, argA, h1]; rfl) ?_)
    exact .head (v := false) (by simp [opd, upd]) (fun q => by cases q) (fun _ => hQ _)
end Go.Eng.E3
namespace Go.Eng.E3
open Go Go.Eng Go.Proofs
set_option maxRecDepth 100000
attribute [local simp] execR runOps stepOp wantedD evalOp opd upd St.put Eff.apply upds looseOk FP.free FP.idle apart Eff.fp ofVal loadD storeD partD setPart indexAddrD isShift arith unD callOp mapO D.okc pickD buildable buildD placeD convD
set_option linter.unusedSimpArgs false
set_option linter.unusedVariables false
set_option maxHeartbeats 4000000
theorem kStep_rng {k : Int} (h : 0 ≤ k) (i : Nat) : 0 ≤ kStep k i ∧ kStep k i < 100003 := by
  unfold kStep
  have h1 : (0 : Int) ≤ k * 31 + 7 * (i : Int) + 11 := by omega
  exact ⟨Int.tmod_nonneg _ h1, Int.tmod_lt_of_pos _ (by omega)⟩
theorem kIn_rng {n : Nat} {k : Int} (h : 0 ≤ k ∧ k < 100003) : ∀ i, 0 ≤ (kIn n i k).1 ∧ (kIn n i k).1 < 100003
  | 0 => h
  | i + 1 => kStep_rng (kIn_rng h i).1 i
theorem kAt_rng : ∀ n, 0 ≤ kAt n ∧ kAt n < 100003
  | 0 => by decide
  | n + 1 => kIn_rng (kAt_rng n) 18
theorem kIn_len {n : Nat} {k : Int} : ∀ i, (kIn n i k).2.length = i
  | 0 => rfl
  | i + 1 => by simp [kIn, kIn_len i]
theorem kIn_mem {n : Nat} {k : Int} (h : 0 ≤ k ∧ k < 100003) : ∀ i, ∀ e ∈ (kIn n i k).2, 0 ≤ e ∧ e < 8 + (n : Int)
  | 0, e, he => by cases he
  | i + 1, e, he => by
    rcases List.mem_append.1 he with he | he
    · exact kIn_mem h i e he
    · simp at he; subst he
      exact ⟨Int.tmod_nonneg _ (kStep_rng (kIn_rng h i).1 i).1, Int.tmod_lt_of_pos _ (by omega)⟩
theorem u8_rng (x : Int) : 0 ≤ IntKind.u8.wrap x ∧ IntKind.u8.wrap x < 256 := by
  have : IntKind.u8.wrap x = x % 256 := by simp [IntKind.wrap, IntKind.bits, IntKind.signed]
  rw [this]; omega
theorem app23 {mu : TypeId → Bool} {s : Nat} {blk : Nat → Blk} {xs : List Int} {tk tk' : Tok} {x : Int} {nx : Nat} (hmu : mu 23 = false) (ht : TokB blk tk 1 nx) (hl : xs.length < 2 ^ 40) :
    builtinD E.T mu s blk .append [23, 23] [.frz (xs.map (D.int .u16)) tk, .frz [.int .u16 x] tk'] = some { v := .frz ((xs ++ [x]).map (D.int .u16)) (.own s 1), wr := tokWr tk s, rd := tokRd tk } := by
  have hall : ∀ z ∈ xs.map (D.int .u16) ++ [.int .u16 x], z.cells.length = 1 := fun z hz => by
    rcases List.mem_append.1 hz with hz | hz
    · obtain ⟨y, _, rfl⟩ := List.mem_map.1 hz; rfl
    · simp at hz; subst hz; rfl
  have hle : ((xs.map (D.int .u16)).length + [D.int .u16 x].length) * 2 * 2 ≤ maxAppend := by
    simp only [List.length_map, List.length_singleton, maxAppend]; omega
  rcases ht with rfl | ⟨o, rfl, h2, h3⟩
  · simp only [builtinD, ok_23, desc_23, if_true, appendD, elem_23, elemsD, hmu, Bool.false_eq_true, if_false, mapK, snapDepth, snap_int, size_77, bytes_77, kills, List.map_nil, List.append_nil, List.nil_append]
    rw [if_pos ⟨hall, hle, by decide, by decide⟩]
    simp [tokWr, tokRd]
  · simp only [builtinD, ok_23, desc_23, if_true, appendD, elem_23, elemsD, hmu, Bool.false_eq_true, if_false, mapK, snapDepth, snap_int, size_77, bytes_77, kills, List.map_nil, List.append_nil, List.nil_append]
    rw [if_pos ⟨hall, hle, by decide, by decide⟩]
    simp only [if_true, h2]
    simp [tokWr, tokRd]
theorem mu5c : E.pol.mu 5 23 = false := by decide
theorem u16_id {x : Int} (h1 : 0 ≤ x) (h2 : x < 65536) : IntKind.u16.wrap x = x := by
  have : IntKind.u16.wrap x = x % 65536 := by simp [IntKind.wrap, IntKind.bits, IntKind.signed]
  rw [this]; omega
structure P5 (n j : Nat) (st : St) : Prop where
  le : j ≤ 18
  h13 : st.A 13 = .int .i64 (kIn n (18 - j) (kAt n)).1
  h14 : st.A 14 = .int .i64 n
  h15 : ∃ tk, st.A 15 = .frz ((kIn n (18 - j) (kAt n)).2.map (D.int .u16)) tk ∧ TokB st.h.blk tk 1 st.h.next ∧ (tk = .nil → j = 18)
  h16 : st.A 16 = .int .i64 ((18 - j : Nat) : Int)
theorem loop5e {n : Nat} (hn : n < 40) {Q : Po} (hQ : ∀ st, P5 n 0 st → Q.x 8 st) (j : Nat) (st : St) (hI : P5 n j st) : V E 5 207 (.loop l5_4) st Q := by
  refine V.count (P5 n) ?_ ?_ j st hI
  · rintro j ⟨A, h⟩ ⟨le, h13, h14, ⟨tk, h15, ht, hnil⟩, h16⟩
    have hlt : 18 - (j + 1) < 18 := by omega
    generalize hi : 18 - (j + 1) = i at *
    have hk' : 18 - j = i + 1 := by omega
    have hltI : (i : Int) < 18 := by omega
    have hw : IntKind.i64.wrap ((i : Int) + 1) = ((i + 1 : Nat) : Int) := by rw [wrap_id] <;> omega
    have hkr := kIn_rng (n := n) (kAt_rng n) i
    have hln := kIn_len (n := n) (k := kAt n) i
    have hs : kIn n (i + 1) (kAt n) = (kStep (kIn n i (kAt n)).1 i, (kIn n i (kAt n)).2 ++ [(kStep (kIn n i (kAt n)).1 i).tmod (8 + (n : Int))]) := rfl
    have hsr := kStep_rng hkr.1 i
    simp only at h13 h14 h15 ht h16
    generalize hk : (kIn n i (kAt n)).1 = k at *
    generalize hl : (kIn n i (kAt n)).2 = l at *
    have w1 : IntKind.i64.wrap (k * 31) = k * 31 := wrap_id (by omega) (by omega)
    have w2 : IntKind.i64.wrap (7 * (i : Int)) = 7 * (i : Int) := wrap_id (by omega) (by omega)
    have w3 : IntKind.i64.wrap (k * 31 + 7 * (i : Int)) = k * 31 + 7 * (i : Int) := wrap_id (by omega) (by omega)
    have w4 : IntKind.i64.wrap (k * 31 + 7 * (i : Int) + 11) = k * 31 + 7 * (i : Int) + 11 := wrap_id (by omega) (by omega)
    have w5 : IntKind.i64.wrap (8 + (n : Int)) = 8 + (n : Int) := wrap_id (by omega) (by omega)
    have e5 : (k * 31 + 7 * (i : Int) + 11).tmod 100003 = kStep k i := rfl
    have hz : ¬ 8 + (n : Int) = 0 := by omega
    obtain ⟨q, hq⟩ : ∃ q, (kStep k i).tmod (8 + (n : Int)) = q := ⟨_, rfl⟩
    have hqr : 0 ≤ q ∧ q < 8 + (n : Int) := by rw [← hq]; exact ⟨Int.tmod_nonneg _ hsr.1, Int.tmod_lt_of_pos _ (by omega)⟩
    have w6 : IntKind.u16.wrap q = q := u16_id (by omega) (by omega)
    rw [hq] at hs
    rw [cl5_4]
    refine .assoc (.then xr5_27 (by simp [o5_27, builtinD, lenD, pD, argA, h16, hltI]; rfl) ?_)
    refine .head (v := true) (by simp [opd, upd] <;> omega) (fun _ => ?_) (fun q => by cases q)
    refine .seq (.block (.then xr5_29 (by simp [o5_29, builtinD, lenD, pD, argA, h13, h16, w1, w2, w3, w4, e5]; rfl) ?_))
    have ap := fun s tkz => app23 (mu := E.pol.mu 5) (s := s) (blk := h.blk) (xs := l) (tk := tk) (tk' := tkz) (x := q) mu5c ht (by omega)
    refine .reg xr5_30 (by simp [o5_30, pD, argA, h14, h15, w5, hz, hq, w6, ap, mu5c, show List.range 1 = [0] from rfl, mapK, snapDepth, snap_int, kills]; rfl) ?_
    show V E 5 207 r5_28 _ _
    refine .reg xr5_28 (by simp [o5_28, builtinD, lenD, pD, argA, h16, hw]; rfl) ⟨by omega, ?_, ?_, ⟨.own (h.next + 2 + 8 + 7) 1, ?_, ?_, fun e => by cases e⟩, ?_⟩
    · rw [hk', hs]; simp [upd]
    · simp [upd, h14]
    · rw [hk', hs]; simp [upd]
    · refine (TokB.grow (blk := h.blk) (tk := tk) (e := 1) (s := h.next + 2 + 8 + 7) (nx := h.next + 2 + 8 + 9) (by omega)).mono (by simp) (fun b _ hb => ?_)
      simpa [upds] using hb
    · simp [upd, hk']
  · rintro ⟨A, h⟩ ⟨le, h13, h14, ⟨tk, h15, ht, hnil⟩, h16⟩
    have e : ((18 - 0 : Nat) : Int) = 18 := rfl
    rw [e] at h16
    simp only at h13 h14 h15 ht h16
    rw [cl5_4]
    refine .assoc (.then xr5_27 (by simp [o5_27, builtinD, lenD, pD, argA, h16]; rfl) ?_)
    refine .head (v := false) (by simp [opd, upd]) (fun q => by cases q) (fun _ => hQ _ ⟨by omega, ?_, ?_, ⟨tk, ?_, ?_, hnil⟩, ?_⟩)
    · simp [upd, h13]
    · simp [upd, h14]
    · simp [upd, h15]
    · exact ht.mono (by simp) (fun _ _ h => h)
    · simp [upd, h16]
end Go.Eng.E3
namespace Go.Eng.E3
open Go Go.Eng Go.Proofs
set_option maxRecDepth 100000
noncomputable def r48_0 : Code := navF Try.f48 [0]
noncomputable def o48_0 : List Oper := [sop (some 1) (.box 53 (.tmp 0)) none,
    sop (some 2) (.alloc 34) none]
theorem xr48_0 : Xr 48 87 r48_0 o48_0 [] := execI_reg' (by kernel_rfl)
noncomputable def r48_1 : Code := navF Try.f48 [1, 0]
noncomputable def o48_1 : List Oper := [sop (some 10) (.fieldAddr 53 (.tmp 1) 0) none,
    sop (some 11) (.load 5 (.tmp 10)) none,
    sop (some 12) (.binOp .rem 5 (.tmp 11) (.const (.int .u8 6)) 5) none,
    sop (some 13) (.convert 5 3 (.tmp 12)) none,
    sop (some 14) (.binOp .add 3 (.const (.int .i64 1)) (.tmp 13) 3) none,
    sop (some 3) (.assign (.tmp 14)) none]
theorem xr48_1 : Xr 48 87 r48_1 o48_1 [] := execI_reg' (by kernel_rfl)
noncomputable def r48_2 : Code := navF Try.f48 [1, 1, 0]
noncomputable def o48_2 : List Oper := [sop (some 15) (.fieldAddr 53 (.tmp 1) 1) none,
    sop (some 16) (.load 5 (.tmp 15)) none,
    sop (some 17) (.binOp .rem 5 (.tmp 16) (.const (.int .u8 3)) 5) none,
    sop (some 18) (.convert 5 3 (.tmp 17)) none,
    sop (some 19) (.binOp .add 3 (.const (.int .i64 1)) (.tmp 18) 3) none,
    sop (some 20) (.fieldAddr 53 (.tmp 1) 2) none,
    sop (some 21) (.load 5 (.tmp 20)) none,
    sop (some 22) (.binOp .rem 5 (.tmp 21) (.const (.int .u8 3)) 5) none,
    sop (some 23) (.convert 5 3 (.tmp 22)) none,
    sop (some 24) (.binOp .add 3 (.const (.int .i64 1)) (.tmp 23) 3) none,
    sop (some 25) (.build 34 #[(0, (.tmp 19)), (1, (.tmp 24))]) none,
    sop (some 4) (.alloc 34) none,
    sop none (.store 34 (.tmp 4) (.tmp 25)) none]
theorem xr48_2 : Xr 48 87 r48_2 o48_2 [] := execI_reg' (by kernel_rfl)
noncomputable def r48_3 : Code := navF Try.f48 [1, 1, 1, 0, 0]
noncomputable def o48_3 : List Oper := [sop (some 5) (.assign (.const (.int .i64 0))) none]
theorem xr48_3 : Xr 48 87 r48_3 o48_3 [] := execI_reg' (by kernel_rfl)
noncomputable def l48_0 : Code := navF Try.f48 [1, 1, 1, 0, 1, 0, 0]
noncomputable def r48_4 : Code := navF Try.f48 [1, 1, 1, 0, 1, 0, 0, 0, 0]
noncomputable def o48_4 : List Oper := [sop (some 26) (.move (.tmp 5)) none,
    sop (some 27) (.move (.tmp 3)) none,
    sop (some 28) (.binOp .lss 3 (.tmp 26) (.tmp 27) 3) none]
theorem xr48_4 : Xr 48 87 r48_4 o48_4 [] := execI_reg' (by kernel_rfl)
noncomputable def r48_6 : Code := navF Try.f48 [1, 1, 1, 0, 1, 0, 0, 1, 0, 0, 0]
noncomputable def o48_6 : List Oper := [sop (some 6) (.assign (.const (.slice none 0 0))) none]
theorem xr48_6 : Xr 48 87 r48_6 o48_6 [] := execI_reg' (by kernel_rfl)
noncomputable def r48_7 : Code := navF Try.f48 [1, 1, 1, 0, 1, 0, 0, 1, 0, 0, 1, 0, 0]
noncomputable def o48_7 : List Oper := [sop (some 7) (.assign (.const (.int .i64 0))) none]
theorem xr48_7 : Xr 48 87 r48_7 o48_7 [] := execI_reg' (by kernel_rfl)
noncomputable def l48_1 : Code := navF Try.f48 [1, 1, 1, 0, 1, 0, 0, 1, 0, 0, 1, 0, 1, 0, 0]
noncomputable def r48_8 : Code := navF Try.f48 [1, 1, 1, 0, 1, 0, 0, 1, 0, 0, 1, 0, 1, 0, 0, 0, 0]
noncomputable def o48_8 : List Oper := [sop (some 31) (.move (.tmp 7)) none,
    sop (some 32) (.fieldAddr 34 (.tmp 4) 0) none,
    sop (some 33) (.load 3 (.tmp 32)) none,
    sop (some 34) (.binOp .lss 3 (.tmp 31) (.tmp 33) 3) none]
theorem xr48_8 : Xr 48 87 r48_8 o48_8 [] := execI_reg' (by kernel_rfl)
noncomputable def r48_10 : Code := navF Try.f48 [1, 1, 1, 0, 1, 0, 0, 1, 0, 0, 1, 0, 1, 0, 0, 1, 0, 0, 0]
noncomputable def o48_10 : List Oper := [sop (some 8) (.assign (.const (.int .i64 0))) none]
theorem xr48_10 : Xr 48 87 r48_10 o48_10 [] := execI_reg' (by kernel_rfl)
noncomputable def r48_11 : Code := navF Try.f48 [1, 1, 1, 0, 1, 0, 0, 1, 0, 0, 1, 0, 1, 0, 0, 1, 0, 0, 1, 0, 0]
noncomputable def o48_11 : List Oper := [sop (some 37) (.move (.tmp 5)) none,
    sop (some 38) (.fieldAddr 34 (.tmp 4) 0) none,
    sop (some 39) (.load 3 (.tmp 38)) none,
    sop (some 40) (.binOp .mul 3 (.tmp 37) (.tmp 39) 3) none,
    sop (some 41) (.move (.tmp 7)) none,
    sop (some 42) (.binOp .add 3 (.tmp 40) (.tmp 41) 3) none,
    sop (some 9) (.assign (.tmp 42)) none]
theorem xr48_11 : Xr 48 87 r48_11 o48_11 [] := execI_reg' (by kernel_rfl)
noncomputable def r48_12 : Code := navF Try.f48 [1, 1, 1, 0, 1, 0, 0, 1, 0, 0, 1, 0, 1, 0, 0, 1, 0, 0, 1, 0, 1, 0]
noncomputable def o48_12 : List Oper := [sop (some 43) (.move (.tmp 9)) none,
    sop (some 44) (.fieldAddr 53 (.tmp 1) 4) none,
    sop (some 45) (.load 23 (.tmp 44)) none,
    sop (some 46) (.call { callee := (.builtin .len), args := #[(.tmp 45)], argTypes := #[23] }) none,
    sop (some 47) (.binOp .lss 3 (.tmp 43) (.tmp 46) 3) none]
theorem xr48_12 : Xr 48 87 r48_12 o48_12 [] := execI_reg' (by kernel_rfl)
noncomputable def r48_13 : Code := navF Try.f48 [1, 1, 1, 0, 1, 0, 0, 1, 0, 0, 1, 0, 1, 0, 0, 1, 0, 0, 1, 0, 1, 1, 0]
noncomputable def o48_13 : List Oper := [sop (some 48) (.fieldAddr 53 (.tmp 1) 4) none,
    sop (some 49) (.load 23 (.tmp 48)) none,
    sop (some 50) (.move (.tmp 9)) none,
    sop (some 51) (.indexAddr 23 (.tmp 49) (.tmp 50)) none,
    sop (some 52) (.load 77 (.tmp 51)) none,
    sop (some 53) (.convert 77 3 (.tmp 52)) none,
    sop (some 8) (.assign (.tmp 53)) none]
theorem xr48_13 : Xr 48 87 r48_13 o48_13 [] := execI_reg' (by kernel_rfl)
noncomputable def r48_14 : Code := navF Try.f48 [1, 1, 1, 0, 1, 0, 0, 1, 0, 0, 1, 0, 1, 0, 0, 1, 0, 0, 1, 1, 0]
noncomputable def o48_14 : List Oper := [sop (some 54) (.fieldAddr 53 (.tmp 1) 3) none,
    sop (some 55) (.load 4 (.tmp 54)) none,
    sop (some 56) (.move (.tmp 55)) none,
    sop (some 57) (.move (.tmp 8)) (some (2, true)),
    sop (some 58) (.binOp .rem 3 (.tmp 57) (.const (.int .i64 4)) 3) (some (2, true)),
    sop (some 59) (.binOp .eql 3 (.tmp 58) (.const (.int .i64 3)) 3) (some (2, true)),
    sop (some 60) (.pick (.tmp 56) (.tmp 59) (.const (.bool false))) none]
theorem xr48_14 : Xr 48 87 r48_14 o48_14 [] := execI_reg' (by kernel_rfl)
noncomputable def r48_15 : Code := navF Try.f48 [1, 1, 1, 0, 1, 0, 0, 1, 0, 0, 1, 0, 1, 0, 0, 1, 0, 0, 1, 1, 1, 0]
noncomputable def o48_15 : List Oper := [sop (some 61) (.move (.tmp 6)) none,
    sop (some 62) (.build 55 #[(0, (.const (.int .i64 (-1)))), (1, (.const (.int .i64 (-1))))]) none,
    sop (some 63) (.buildSlice 72 1 #[(0, (.tmp 62))]) none,
    sop (some 64) (.call { callee := (.builtin .append), args := #[(.tmp 61), (.tmp 63)], argTypes := #[72, 72] }) none,
    sop (some 6) (.assign (.tmp 64)) none]
theorem xr48_15 : Xr 48 87 r48_15 o48_15 [] := execI_reg' (by kernel_rfl)
noncomputable def r48_16 : Code := navF Try.f48 [1, 1, 1, 0, 1, 0, 0, 1, 0, 0, 1, 0, 1, 0, 0, 1, 0, 0, 1, 1, 1, 1]
noncomputable def o48_16 : List Oper := [sop (some 65) (.move (.tmp 6)) none,
    sop (some 66) (.move (.tmp 8)) none,
    sop (some 67) (.binOp .quo 3 (.tmp 66) (.const (.int .i64 4)) 3) none,
    sop (some 68) (.move (.tmp 3)) none,
    sop (some 69) (.binOp .rem 3 (.tmp 67) (.tmp 68) 3) none,
    sop (some 70) (.move (.tmp 8)) none,
    sop (some 71) (.binOp .quo 3 (.tmp 70) (.const (.int .i64 4)) 3) none,
    sop (some 72) (.move (.tmp 3)) none,
    sop (some 73) (.binOp .quo 3 (.tmp 71) (.tmp 72) 3) none,
    sop (some 74) (.fieldAddr 34 (.tmp 4) 1) none,
    sop (some 75) (.load 3 (.tmp 74)) none,
    sop (some 76) (.binOp .rem 3 (.tmp 73) (.tmp 75) 3) none,
    sop (some 77) (.build 55 #[(0, (.tmp 69)), (1, (.tmp 76))]) none,
    sop (some 78) (.buildSlice 72 1 #[(0, (.tmp 77))]) none,
    sop (some 79) (.call { callee := (.builtin .append), args := #[(.tmp 65), (.tmp 78)], argTypes := #[72, 72] }) none,
    sop (some 6) (.assign (.tmp 79)) none]
theorem xr48_16 : Xr 48 87 r48_16 o48_16 [] := execI_reg' (by kernel_rfl)
noncomputable def r48_9 : Code := navF Try.f48 [1, 1, 1, 0, 1, 0, 0, 1, 0, 0, 1, 0, 1, 0, 0, 1, 1]
noncomputable def o48_9 : List Oper := [sop (some 35) (.move (.tmp 7)) none,
    sop (some 36) (.binOp .add 3 (.tmp 35) (.const (.int .i64 1)) 3) none,
    sop (some 7) (.assign (.tmp 36)) none]
theorem xr48_9 : Xr 48 87 r48_9 o48_9 [] := execI_reg' (by kernel_rfl)
theorem cl48_1 : l48_1 = (.seq (.seq r48_8 (.cond (.tmp 34) .skip (.exit 2))) (.seq (.block 3 (.seq r48_10 (.seq (.seq r48_11 (.seq r48_12 (.cond (.tmp 47) r48_13 .skip))) (.seq r48_14 (.cond (.tmp 60) r48_15 r48_16))))) r48_9)) := by kernel_rfl
noncomputable def r48_17 : Code := navF Try.f48 [1, 1, 1, 0, 1, 0, 0, 1, 0, 0, 1, 1]
noncomputable def o48_17 : List Oper := [sop (some 80) (.fieldAddr 34 (.tmp 4) 2) none,
    sop (some 81) (.load 32 (.tmp 80)) none,
    sop (some 82) (.move (.tmp 6)) none,
    sop (some 83) (.buildSlice 32 1 #[(0, (.tmp 82))]) none,
    sop (some 84) (.call { callee := (.builtin .append), args := #[(.tmp 81), (.tmp 83)], argTypes := #[32, 32] }) none,
    sop (some 85) (.fieldAddr 34 (.tmp 4) 2) none,
    sop none (.store 32 (.tmp 85) (.tmp 84)) none]
theorem xr48_17 : Xr 48 87 r48_17 o48_17 [] := execI_reg' (by kernel_rfl)
noncomputable def r48_5 : Code := navF Try.f48 [1, 1, 1, 0, 1, 0, 0, 1, 1]
noncomputable def o48_5 : List Oper := [sop (some 29) (.move (.tmp 5)) none,
    sop (some 30) (.binOp .add 3 (.tmp 29) (.const (.int .i64 1)) 3) none,
    sop (some 5) (.assign (.tmp 30)) none]
theorem xr48_5 : Xr 48 87 r48_5 o48_5 [] := execI_reg' (by kernel_rfl)
theorem cl48_0 : l48_0 = (.seq (.seq r48_4 (.cond (.tmp 28) .skip (.exit 0))) (.seq (.block 1 (.seq r48_6 (.seq (.seq r48_7 (.block 2 (.loop l48_1))) r48_17))) r48_5)) := by kernel_rfl
noncomputable def r48_18 : Code := navF Try.f48 [1, 1, 1, 1, 0]
noncomputable def o48_18 : List Oper := [sop (some 86) (.load 34 (.tmp 4)) none,
    sop none (.store 34 (.tmp 2) (.tmp 86)) none]
theorem xr48_18 : Xr 48 87 r48_18 o48_18 [] := execI_reg' (by kernel_rfl)
noncomputable def b48 : Code := (.seq r48_0 (.seq r48_1 (.seq r48_2 (.seq (.seq r48_3 (.block 0 (.loop l48_0))) (.seq r48_18 .ret)))))
theorem body48 : Try.f48.body = some b48 := by kernel_rfl
theorem fn48 : E.fn 48 = some Try.f48 := by kernel_rfl
theorem run48 (args : List D) (h : H) (hl : args.length ≤ 87) : bodyI E 48 args h = resOf E [(.cell 2 34)] (execI E 48 87 b48 ⟨argA args, h⟩) := bodyI_res fn48 body48 rfl rfl args h hl
noncomputable def r18_0 : Code := navF Try.f18 [0]
noncomputable def o18_0 : List Oper := [sop (some 2) (.box 59 (.tmp 0)) none,
    sop (some 4) (.assign (.const (.slice none 0 0))) none]
theorem xr18_0 : Xr 18 30 r18_0 o18_0 [] := execI_reg' (by kernel_rfl)
noncomputable def r18_1 : Code := navF Try.f18 [1, 0]
noncomputable def o18_1 : List Oper := [sop (some 5) (.assign (.const (.slice none 0 0))) none]
theorem xr18_1 : Xr 18 30 r18_1 o18_1 [] := execI_reg' (by kernel_rfl)
noncomputable def r18_2 : Code := navF Try.f18 [1, 1, 0, 0]
noncomputable def o18_2 : List Oper := [sop (some 6) (.assign (.const (.int .i64 0))) none]
theorem xr18_2 : Xr 18 30 r18_2 o18_2 [] := execI_reg' (by kernel_rfl)
noncomputable def l18_0 : Code := navF Try.f18 [1, 1, 0, 1, 0, 0]
noncomputable def r18_3 : Code := navF Try.f18 [1, 1, 0, 1, 0, 0, 0, 0]
noncomputable def o18_3 : List Oper := [sop (some 7) (.move (.tmp 6)) none,
    sop (some 8) (.fieldAddr 59 (.tmp 2) 0) none,
    sop (some 9) (.load 22 (.tmp 8)) none,
    sop (some 10) (.call { callee := (.builtin .len), args := #[(.tmp 9)], argTypes := #[22] }) none,
    sop (some 11) (.binOp .lss 3 (.tmp 7) (.tmp 10) 3) none,
    sop (some 12) (.move (.tmp 11)) none,
    sop (some 13) (.move (.tmp 6)) (some (5, true)),
    sop (some 14) (.binOp .lss 3 (.tmp 13) (.const (.int .i64 12)) 3) (some (5, true)),
    sop (some 15) (.pick (.tmp 12) (.tmp 14) (.const (.bool false))) none]
theorem xr18_3 : Xr 18 30 r18_3 o18_3 [] := execI_reg' (by kernel_rfl)
noncomputable def r18_5 : Code := navF Try.f18 [1, 1, 0, 1, 0, 0, 1, 0, 0]
noncomputable def o18_5 : List Oper := [sop (some 18) (.move (.tmp 5)) none,
    sop (some 19) (.fieldAddr 59 (.tmp 2) 0) none,
    sop (some 20) (.load 22 (.tmp 19)) none,
    sop (some 21) (.move (.tmp 6)) none,
    sop (some 22) (.indexAddr 22 (.tmp 20) (.tmp 21)) none,
    sop (some 23) (.load 5 (.tmp 22)) none,
    sop (some 24) (.convert 5 3 (.tmp 23)) none,
    sop (some 25) (.move (.tmp 1)) none,
    sop (some 26) (.binOp .rem 3 (.tmp 24) (.tmp 25) 3) none,
    sop (some 27) (.buildSlice 62 1 #[(0, (.tmp 26))]) none,
    sop (some 28) (.call { callee := (.builtin .append), args := #[(.tmp 18), (.tmp 27)], argTypes := #[62, 62] }) none,
    sop (some 5) (.assign (.tmp 28)) none]
theorem xr18_5 : Xr 18 30 r18_5 o18_5 [] := execI_reg' (by kernel_rfl)
noncomputable def r18_4 : Code := navF Try.f18 [1, 1, 0, 1, 0, 0, 1, 1]
noncomputable def o18_4 : List Oper := [sop (some 16) (.move (.tmp 6)) none,
    sop (some 17) (.binOp .add 3 (.tmp 16) (.const (.int .i64 1)) 3) none,
    sop (some 6) (.assign (.tmp 17)) none]
theorem xr18_4 : Xr 18 30 r18_4 o18_4 [] := execI_reg' (by kernel_rfl)
theorem cl18_0 : l18_0 = (.seq (.seq r18_3 (.cond (.tmp 15) .skip (.exit 0))) (.seq (.block 1 r18_5) r18_4)) := by kernel_rfl
noncomputable def r18_6 : Code := navF Try.f18 [1, 1, 1, 0]
noncomputable def o18_6 : List Oper := [sop (some 29) (.move (.tmp 5)) none,
    sop (some 4) (.assign (.tmp 29)) none]
theorem xr18_6 : Xr 18 30 r18_6 o18_6 [] := execI_reg' (by kernel_rfl)
noncomputable def b18 : Code := (.seq r18_0 (.seq r18_1 (.seq (.seq r18_2 (.block 0 (.loop l18_0))) (.seq r18_6 .ret))))
theorem body18 : Try.f18.body = some b18 := by kernel_rfl
theorem fn18 : E.fn 18 = some Try.f18 := by kernel_rfl
theorem run18 (args : List D) (h : H) (hl : args.length ≤ 30) : bodyI E 18 args h = resOf E [(.tmp 4)] (execI E 18 30 b18 ⟨argA args, h⟩) := bodyI_res fn18 body18 rfl rfl args h hl
noncomputable def r49_0 : Code := navF Try.f49 [0]
noncomputable def o49_0 : List Oper := [sop (some 1) (.box 34 (.tmp 0)) none,
    sop (some 2) (.alloc 34) none]
theorem xr49_0 : Xr 49 30 r49_0 o49_0 [] := execI_reg' (by kernel_rfl)
noncomputable def r49_1 : Code := navF Try.f49 [1, 0]
noncomputable def o49_1 : List Oper := [sop (some 5) (.fieldAddr 34 (.tmp 1) 0) none,
    sop (some 6) (.load 3 (.tmp 5)) none,
    sop (some 7) (.fieldAddr 34 (.tmp 1) 1) none,
    sop (some 8) (.load 3 (.tmp 7)) none,
    sop (some 9) (.build 34 #[(0, (.tmp 6)), (1, (.tmp 8))]) none,
    sop (some 3) (.alloc 34) none,
    sop none (.store 34 (.tmp 3) (.tmp 9)) none]
theorem xr49_1 : Xr 49 30 r49_1 o49_1 [] := execI_reg' (by kernel_rfl)
noncomputable def r49_2 : Code := navF Try.f49 [1, 1, 0, 0]
noncomputable def o49_2 : List Oper := [sop (some 4) (.assign (.const (.int .i64 0))) none]
theorem xr49_2 : Xr 49 30 r49_2 o49_2 [] := execI_reg' (by kernel_rfl)
noncomputable def l49_0 : Code := navF Try.f49 [1, 1, 0, 1, 0, 0]
noncomputable def r49_3 : Code := navF Try.f49 [1, 1, 0, 1, 0, 0, 0, 0]
noncomputable def o49_3 : List Oper := [sop (some 10) (.move (.tmp 4)) none,
    sop (some 11) (.fieldAddr 34 (.tmp 1) 2) none,
    sop (some 12) (.load 32 (.tmp 11)) none,
    sop (some 13) (.call { callee := (.builtin .len), args := #[(.tmp 12)], argTypes := #[32] }) none,
    sop (some 14) (.binOp .lss 3 (.tmp 10) (.tmp 13) 3) none]
theorem xr49_3 : Xr 49 30 r49_3 o49_3 [] := execI_reg' (by kernel_rfl)
noncomputable def r49_5 : Code := navF Try.f49 [1, 1, 0, 1, 0, 0, 1, 0, 0]
noncomputable def o49_5 : List Oper := [sop (some 17) (.fieldAddr 34 (.tmp 3) 2) none,
    sop (some 18) (.load 32 (.tmp 17)) none,
    sop (some 19) (.buildSlice 72 0 #[]) none,
    sop (some 20) (.fieldAddr 34 (.tmp 1) 2) none,
    sop (some 21) (.load 32 (.tmp 20)) none,
    sop (some 22) (.move (.tmp 4)) none,
    sop (some 23) (.indexAddr 32 (.tmp 21) (.tmp 22)) none,
    sop (some 24) (.load 72 (.tmp 23)) none,
    sop (some 25) (.call { callee := (.builtin .append), args := #[(.tmp 19), (.tmp 24)], argTypes := #[72, 72] }) none,
    sop (some 26) (.buildSlice 32 1 #[(0, (.tmp 25))]) none,
    sop (some 27) (.call { callee := (.builtin .append), args := #[(.tmp 18), (.tmp 26)], argTypes := #[32, 32] }) none,
    sop (some 28) (.fieldAddr 34 (.tmp 3) 2) none,
    sop none (.store 32 (.tmp 28) (.tmp 27)) none]
theorem xr49_5 : Xr 49 30 r49_5 o49_5 [(1, 2), (1, 4), (2, 4), (1, 7), (2, 7), (1, 8), (1, 9)] := execI_reg' (by kernel_rfl)
noncomputable def r49_4 : Code := navF Try.f49 [1, 1, 0, 1, 0, 0, 1, 1]
noncomputable def o49_4 : List Oper := [sop (some 15) (.move (.tmp 4)) none,
    sop (some 16) (.binOp .add 3 (.tmp 15) (.const (.int .i64 1)) 3) none,
    sop (some 4) (.assign (.tmp 16)) none]
theorem xr49_4 : Xr 49 30 r49_4 o49_4 [] := execI_reg' (by kernel_rfl)
theorem cl49_0 : l49_0 = (.seq (.seq r49_3 (.cond (.tmp 14) .skip (.exit 0))) (.seq (.block 1 r49_5) r49_4)) := by kernel_rfl
noncomputable def r49_6 : Code := navF Try.f49 [1, 1, 1, 0]
noncomputable def o49_6 : List Oper := [sop (some 29) (.load 34 (.tmp 3)) none,
    sop none (.store 34 (.tmp 2) (.tmp 29)) none]
theorem xr49_6 : Xr 49 30 r49_6 o49_6 [] := execI_reg' (by kernel_rfl)
noncomputable def b49 : Code := (.seq r49_0 (.seq r49_1 (.seq (.seq r49_2 (.block 0 (.loop l49_0))) (.seq r49_6 .ret))))
theorem body49 : Try.f49.body = some b49 := by kernel_rfl
theorem fn49 : E.fn 49 = some Try.f49 := by kernel_rfl
theorem run49 (args : List D) (h : H) (hl : args.length ≤ 30) : bodyI E 49 args h = resOf E [(.cell 2 34)] (execI E 49 30 b49 ⟨argA args, h⟩) := bodyI_res fn49 body49 rfl rfl args h hl
noncomputable def r50_0 : Code := navF Try.f50 [0]
noncomputable def o50_0 : List Oper := [sop (some 1) (.box 34 (.tmp 0)) none,
    sop (some 2) (.assign (.const (.int .i64 0))) none]
theorem xr50_0 : Xr 50 95 r50_0 o50_0 [] := execI_reg' (by kernel_rfl)
noncomputable def r50_1 : Code := navF Try.f50 [1, 0, 0]
noncomputable def o50_1 : List Oper := [sop (some 6) (.fieldAddr 34 (.tmp 1) 0) none,
    sop (some 7) (.load 3 (.tmp 6)) none,
    sop (some 8) (.binOp .gtr 3 (.tmp 7) (.const (.int .i64 16)) 3) none,
    sop (some 9) (.move (.tmp 8)) none,
    sop (some 10) (.fieldAddr 34 (.tmp 1) 1) (some (3, false)),
    sop (some 11) (.load 3 (.tmp 10)) (some (3, false)),
    sop (some 12) (.binOp .gtr 3 (.tmp 11) (.const (.int .i64 16)) 3) (some (3, false)),
    sop (some 13) (.pick (.tmp 9) (.const (.bool true)) (.tmp 12)) none,
    sop (some 14) (.move (.tmp 13)) none,
    sop (some 15) (.fieldAddr 34 (.tmp 1) 2) (some (8, false)),
    sop (some 16) (.load 32 (.tmp 15)) (some (8, false)),
    sop (some 17) (.call { callee := (.builtin .len), args := #[(.tmp 16)], argTypes := #[32] }) (some (8, false)),
    sop (some 18) (.binOp .gtr 3 (.tmp 17) (.const (.int .i64 64)) 3) (some (8, false)),
    sop (some 19) (.pick (.tmp 14) (.const (.bool true)) (.tmp 18)) none]
theorem xr50_1 : Xr 50 95 r50_1 o50_1 [] := execI_reg' (by kernel_rfl)
noncomputable def r50_2 : Code := navF Try.f50 [1, 0, 1, 0, 0]
noncomputable def r50_3 : Code := navF Try.f50 [1, 1, 0, 0]
noncomputable def o50_3 : List Oper := [sop (some 20) (.fieldAddr 34 (.tmp 1) 0) none,
    sop (some 21) (.load 3 (.tmp 20)) none,
    sop (some 22) (.binOp .lss 3 (.tmp 21) (.const (.int .i64 1)) 3) none,
    sop (some 23) (.move (.tmp 22)) none,
    sop (some 24) (.fieldAddr 34 (.tmp 1) 1) (some (3, false)),
    sop (some 25) (.load 3 (.tmp 24)) (some (3, false)),
    sop (some 26) (.binOp .lss 3 (.tmp 25) (.const (.int .i64 1)) 3) (some (3, false)),
    sop (some 27) (.pick (.tmp 23) (.const (.bool true)) (.tmp 26)) none,
    sop (some 28) (.move (.tmp 27)) none,
    sop (some 29) (.fieldAddr 34 (.tmp 1) 2) (some (8, false)),
    sop (some 30) (.load 32 (.tmp 29)) (some (8, false)),
    sop (some 31) (.call { callee := (.builtin .len), args := #[(.tmp 30)], argTypes := #[32] }) (some (8, false)),
    sop (some 32) (.binOp .eql 3 (.tmp 31) (.const (.int .i64 0)) 3) (some (8, false)),
    sop (some 33) (.pick (.tmp 28) (.const (.bool true)) (.tmp 32)) none]
theorem xr50_3 : Xr 50 95 r50_3 o50_3 [] := execI_reg' (by kernel_rfl)
noncomputable def r50_4 : Code := navF Try.f50 [1, 1, 0, 1, 0, 0]
noncomputable def r50_5 : Code := navF Try.f50 [1, 1, 1, 0, 0]
noncomputable def o50_5 : List Oper := [sop (some 3) (.assign (.const (.int .i64 0))) none]
theorem xr50_5 : Xr 50 95 r50_5 o50_5 [] := execI_reg' (by kernel_rfl)
noncomputable def l50_0 : Code := navF Try.f50 [1, 1, 1, 0, 1, 0, 0]
noncomputable def r50_6 : Code := navF Try.f50 [1, 1, 1, 0, 1, 0, 0, 0, 0]
noncomputable def o50_6 : List Oper := [sop (some 34) (.move (.tmp 3)) none,
    sop (some 35) (.fieldAddr 34 (.tmp 1) 2) none,
    sop (some 36) (.load 32 (.tmp 35)) none,
    sop (some 37) (.call { callee := (.builtin .len), args := #[(.tmp 36)], argTypes := #[32] }) none,
    sop (some 38) (.binOp .lss 3 (.tmp 34) (.tmp 37) 3) none]
theorem xr50_6 : Xr 50 95 r50_6 o50_6 [] := execI_reg' (by kernel_rfl)
noncomputable def r50_8 : Code := navF Try.f50 [1, 1, 1, 0, 1, 0, 0, 1, 0, 0, 0, 0]
noncomputable def o50_8 : List Oper := [sop (some 41) (.fieldAddr 34 (.tmp 1) 2) none,
    sop (some 42) (.load 32 (.tmp 41)) none,
    sop (some 43) (.move (.tmp 3)) none,
    sop (some 44) (.indexAddr 32 (.tmp 42) (.tmp 43)) none,
    sop (some 45) (.load 72 (.tmp 44)) none,
    sop (some 46) (.call { callee := (.builtin .len), args := #[(.tmp 45)], argTypes := #[72] }) none,
    sop (some 47) (.fieldAddr 34 (.tmp 1) 0) none,
    sop (some 48) (.load 3 (.tmp 47)) none,
    sop (some 49) (.binOp .neq 3 (.tmp 46) (.tmp 48) 3) none]
theorem xr50_8 : Xr 50 95 r50_8 o50_8 [(1, 7), (4, 7), (5, 7)] := execI_reg' (by kernel_rfl)
noncomputable def r50_9 : Code := navF Try.f50 [1, 1, 1, 0, 1, 0, 0, 1, 0, 0, 0, 1, 0, 0]
noncomputable def r50_10 : Code := navF Try.f50 [1, 1, 1, 0, 1, 0, 0, 1, 0, 0, 1, 0]
noncomputable def o50_10 : List Oper := [sop (some 4) (.assign (.const (.int .i64 0))) none]
theorem xr50_10 : Xr 50 95 r50_10 o50_10 [] := execI_reg' (by kernel_rfl)
noncomputable def l50_1 : Code := navF Try.f50 [1, 1, 1, 0, 1, 0, 0, 1, 0, 0, 1, 1, 0, 0]
noncomputable def r50_11 : Code := navF Try.f50 [1, 1, 1, 0, 1, 0, 0, 1, 0, 0, 1, 1, 0, 0, 0, 0]
noncomputable def o50_11 : List Oper := [sop (some 50) (.move (.tmp 4)) none,
    sop (some 51) (.fieldAddr 34 (.tmp 1) 0) none,
    sop (some 52) (.load 3 (.tmp 51)) none,
    sop (some 53) (.binOp .lss 3 (.tmp 50) (.tmp 52) 3) none]
theorem xr50_11 : Xr 50 95 r50_11 o50_11 [] := execI_reg' (by kernel_rfl)
noncomputable def r50_13 : Code := navF Try.f50 [1, 1, 1, 0, 1, 0, 0, 1, 0, 0, 1, 1, 0, 0, 1, 0, 0, 0]
noncomputable def o50_13 : List Oper := [sop (some 56) (.fieldAddr 34 (.tmp 1) 2) none,
    sop (some 57) (.load 32 (.tmp 56)) none,
    sop (some 58) (.move (.tmp 3)) none,
    sop (some 59) (.indexAddr 32 (.tmp 57) (.tmp 58)) none,
    sop (some 60) (.load 72 (.tmp 59)) none,
    sop (some 61) (.move (.tmp 4)) none,
    sop (some 62) (.indexAddr 72 (.tmp 60) (.tmp 61)) none,
    sop (some 63) (.load 55 (.tmp 62)) none,
    sop (some 5) (.alloc 55) none,
    sop none (.store 55 (.tmp 5) (.tmp 63)) none]
theorem xr50_13 : Xr 50 95 r50_13 o50_13 [] := execI_reg' (by kernel_rfl)
noncomputable def r50_14 : Code := navF Try.f50 [1, 1, 1, 0, 1, 0, 0, 1, 0, 0, 1, 1, 0, 0, 1, 0, 0, 1, 0, 0]
noncomputable def o50_14 : List Oper := [sop (some 64) (.fieldAddr 55 (.tmp 5) 0) none,
    sop (some 65) (.load 3 (.tmp 64)) none,
    sop (some 66) (.binOp .eql 3 (.tmp 65) (.const (.int .i64 (-1))) 3) none,
    sop (some 67) (.move (.tmp 66)) none,
    sop (some 68) (.fieldAddr 55 (.tmp 5) 1) (some (3, true)),
    sop (some 69) (.load 3 (.tmp 68)) (some (3, true)),
    sop (some 70) (.binOp .eql 3 (.tmp 69) (.const (.int .i64 (-1))) 3) (some (3, true)),
    sop (some 71) (.pick (.tmp 67) (.tmp 70) (.const (.bool false))) none]
theorem xr50_14 : Xr 50 95 r50_14 o50_14 [] := execI_reg' (by kernel_rfl)
noncomputable def r50_15 : Code := navF Try.f50 [1, 1, 1, 0, 1, 0, 0, 1, 0, 0, 1, 1, 0, 0, 1, 0, 0, 1, 1, 0]
noncomputable def o50_15 : List Oper := [sop (some 72) (.fieldAddr 55 (.tmp 5) 0) none,
    sop (some 73) (.load 3 (.tmp 72)) none,
    sop (some 74) (.binOp .lss 3 (.tmp 73) (.const (.int .i64 0)) 3) none,
    sop (some 75) (.move (.tmp 74)) none,
    sop (some 76) (.fieldAddr 55 (.tmp 5) 0) (some (3, false)),
    sop (some 77) (.load 3 (.tmp 76)) (some (3, false)),
    sop (some 78) (.fieldAddr 34 (.tmp 1) 2) (some (3, false)),
    sop (some 79) (.load 32 (.tmp 78)) (some (3, false)),
    sop (some 80) (.call { callee := (.builtin .len), args := #[(.tmp 79)], argTypes := #[32] }) (some (3, false)),
    sop (some 81) (.binOp .geq 3 (.tmp 77) (.tmp 80) 3) (some (3, false)),
    sop (some 82) (.pick (.tmp 75) (.const (.bool true)) (.tmp 81)) none,
    sop (some 83) (.move (.tmp 82)) none,
    sop (some 84) (.fieldAddr 55 (.tmp 5) 1) (some (11, false)),
    sop (some 85) (.load 3 (.tmp 84)) (some (11, false)),
    sop (some 86) (.binOp .lss 3 (.tmp 85) (.const (.int .i64 0)) 3) (some (11, false)),
    sop (some 87) (.pick (.tmp 83) (.const (.bool true)) (.tmp 86)) none,
    sop (some 88) (.move (.tmp 87)) none,
    sop (some 89) (.fieldAddr 55 (.tmp 5) 1) (some (16, false)),
    sop (some 90) (.load 3 (.tmp 89)) (some (16, false)),
    sop (some 91) (.fieldAddr 34 (.tmp 1) 1) (some (16, false)),
    sop (some 92) (.load 3 (.tmp 91)) (some (16, false)),
    sop (some 93) (.binOp .geq 3 (.tmp 90) (.tmp 92) 3) (some (16, false)),
    sop (some 94) (.pick (.tmp 88) (.const (.bool true)) (.tmp 93)) none]
theorem xr50_15 : Xr 50 95 r50_15 o50_15 [] := execI_reg' (by kernel_rfl)
noncomputable def r50_16 : Code := navF Try.f50 [1, 1, 1, 0, 1, 0, 0, 1, 0, 0, 1, 1, 0, 0, 1, 0, 0, 1, 1, 1, 0, 0]
noncomputable def o50_16 : List Oper := [sop (some 2) (.assign (.const (.int .i64 1))) none]
theorem xr50_16 : Xr 50 95 r50_16 o50_16 [] := execI_reg' (by kernel_rfl)
noncomputable def r50_12 : Code := navF Try.f50 [1, 1, 1, 0, 1, 0, 0, 1, 0, 0, 1, 1, 0, 0, 1, 1]
noncomputable def o50_12 : List Oper := [sop (some 54) (.move (.tmp 4)) none,
    sop (some 55) (.binOp .add 3 (.tmp 54) (.const (.int .i64 1)) 3) none,
    sop (some 4) (.assign (.tmp 55)) none]
theorem xr50_12 : Xr 50 95 r50_12 o50_12 [] := execI_reg' (by kernel_rfl)
theorem cl50_1 : l50_1 = (.seq (.seq r50_11 (.cond (.tmp 53) .skip (.exit 2))) (.seq (.block 3 (.seq r50_13 (.seq (.seq r50_14 (.cond (.tmp 71) (.exit 3) .skip)) (.seq r50_15 (.cond (.tmp 94) (.seq r50_16 .ret) .skip))))) r50_12)) := by kernel_rfl
noncomputable def r50_7 : Code := navF Try.f50 [1, 1, 1, 0, 1, 0, 0, 1, 1]
noncomputable def o50_7 : List Oper := [sop (some 39) (.move (.tmp 3)) none,
    sop (some 40) (.binOp .add 3 (.tmp 39) (.const (.int .i64 1)) 3) none,
    sop (some 3) (.assign (.tmp 40)) none]
theorem xr50_7 : Xr 50 95 r50_7 o50_7 [] := execI_reg' (by kernel_rfl)
theorem cl50_0 : l50_0 = (.seq (.seq r50_6 (.cond (.tmp 38) .skip (.exit 0))) (.seq (.block 1 (.seq (.seq r50_8 (.cond (.tmp 49) (.seq r50_9 .ret) .skip)) (.seq r50_10 (.block 2 (.loop l50_1))))) r50_7)) := by kernel_rfl
noncomputable def r50_17 : Code := navF Try.f50 [1, 1, 1, 1, 0]
noncomputable def o50_17 : List Oper := [sop (some 2) (.assign (.const (.int .i64 0))) none]
theorem xr50_17 : Xr 50 95 r50_17 o50_17 [] := execI_reg' (by kernel_rfl)
noncomputable def b50 : Code := (.seq r50_0 (.seq (.seq r50_1 (.cond (.tmp 19) (.seq r50_2 .ret) .skip)) (.seq (.seq r50_3 (.cond (.tmp 33) (.seq r50_4 .ret) .skip)) (.seq (.seq r50_5 (.block 0 (.loop l50_0))) (.seq r50_17 .ret)))))
theorem body50 : Try.f50.body = some b50 := by kernel_rfl
theorem fn50 : E.fn 50 = some Try.f50 := by kernel_rfl
theorem run50 (args : List D) (h : H) (hl : args.length ≤ 95) : bodyI E 50 args h = resOf E [(.tmp 2)] (execI E 50 95 b50 ⟨argA args, h⟩) := bodyI_res fn50 body50 rfl rfl args h hl
noncomputable def r17_0 : Code := navF Try.f17 [0]
noncomputable def o17_0 : List Oper := [sop (some 1) (.box 57 (.tmp 0)) none,
    sop (some 2) (.alloc 34) none,
    sop (some 3) (.alloc 34) none]
theorem xr17_0 : Xr 17 144 r17_0 o17_0 [] := execI_reg' (by kernel_rfl)
noncomputable def r17_1 : Code := navF Try.f17 [1, 0]
noncomputable def o17_1 : List Oper := [sop (some 15) (.fieldAddr 57 (.tmp 1) 0) none,
    sop (some 16) (.load 53 (.tmp 15)) none,
    sop (some 17) (.call { callee := (.value (.func 48)), args := #[(.tmp 16)], argTypes := #[53] }) none,
    sop (some 4) (.alloc 34) none,
    sop none (.store 34 (.tmp 4) (.tmp 17)) none]
theorem xr17_1 : Xr 17 144 r17_1 o17_1 [] := execI_reg' (by kernel_rfl)
noncomputable def r17_2 : Code := navF Try.f17 [1, 1, 0]
noncomputable def o17_2 : List Oper := [sop (some 18) (.fieldAddr 34 (.tmp 4) 2) none,
    sop (some 19) (.load 32 (.tmp 18)) none,
    sop (some 20) (.call { callee := (.builtin .len), args := #[(.tmp 19)], argTypes := #[32] }) none,
    sop (some 5) (.assign (.tmp 20)) none]
theorem xr17_2 : Xr 17 144 r17_2 o17_2 [] := execI_reg' (by kernel_rfl)
noncomputable def r17_3 : Code := navF Try.f17 [1, 1, 1, 0, 0]
noncomputable def o17_3 : List Oper := [sop (some 21) (.fieldAddr 57 (.tmp 1) 2) none,
    sop (some 22) (.load 4 (.tmp 21)) none,
    sop (some 23) (.unOp .not 4 (.tmp 22)) none]
theorem xr17_3 : Xr 17 144 r17_3 o17_3 [] := execI_reg' (by kernel_rfl)
noncomputable def r17_4 : Code := navF Try.f17 [1, 1, 1, 0, 1, 0, 0]
noncomputable def o17_4 : List Oper := [sop (some 24) (.fieldAddr 57 (.tmp 1) 0) none,
    sop (some 25) (.fieldAddr 53 (.tmp 24) 1) none,
    sop (some 26) (.load 5 (.tmp 25)) none,
    sop (some 27) (.fieldAddr 57 (.tmp 1) 1) none,
    sop (some 28) (.fieldAddr 53 (.tmp 27) 1) none,
    sop none (.store 5 (.tmp 28) (.tmp 26)) none]
theorem xr17_4 : Xr 17 144 r17_4 o17_4 [] := execI_reg' (by kernel_rfl)
noncomputable def r17_5 : Code := navF Try.f17 [1, 1, 1, 0, 1, 0, 1, 0]
noncomputable def o17_5 : List Oper := [sop (some 29) (.load 34 (.tmp 4)) none,
    sop (some 30) (.fieldAddr 57 (.tmp 1) 1) none,
    sop (some 31) (.load 53 (.tmp 30)) none,
    sop (some 32) (.call { callee := (.value (.func 48)), args := #[(.tmp 31)], argTypes := #[53] }) none,
    sop none (.store 34 (.tmp 2) (.tmp 29)) none,
    sop none (.store 34 (.tmp 3) (.tmp 32)) none]
theorem xr17_5 : Xr 17 144 r17_5 o17_5 [(0, 2), (0, 3)] := execI_reg' (by kernel_rfl)
noncomputable def r17_6 : Code := navF Try.f17 [1, 1, 1, 1, 0]
noncomputable def o17_6 : List Oper := [sop (some 6) (.assign (.const (.slice none 0 0))) none]
theorem xr17_6 : Xr 17 144 r17_6 o17_6 [] := execI_reg' (by kernel_rfl)
noncomputable def r17_7 : Code := navF Try.f17 [1, 1, 1, 1, 1, 0, 0]
noncomputable def o17_7 : List Oper := [sop (some 7) (.assign (.const (.int .i64 0))) none]
theorem xr17_7 : Xr 17 144 r17_7 o17_7 [] := execI_reg' (by kernel_rfl)
noncomputable def l17_0 : Code := navF Try.f17 [1, 1, 1, 1, 1, 0, 1, 0, 0]
noncomputable def r17_8 : Code := navF Try.f17 [1, 1, 1, 1, 1, 0, 1, 0, 0, 0, 0]
noncomputable def o17_8 : List Oper := [sop (some 33) (.move (.tmp 7)) none,
    sop (some 34) (.move (.tmp 5)) none,
    sop (some 35) (.binOp .lss 3 (.tmp 33) (.tmp 34) 3) none]
theorem xr17_8 : Xr 17 144 r17_8 o17_8 [] := execI_reg' (by kernel_rfl)
noncomputable def r17_10 : Code := navF Try.f17 [1, 1, 1, 1, 1, 0, 1, 0, 0, 1, 0, 0]
noncomputable def o17_10 : List Oper := [sop (some 38) (.move (.tmp 6)) none,
    sop (some 39) (.move (.tmp 7)) none,
    sop (some 40) (.buildSlice 62 1 #[(0, (.tmp 39))]) none,
    sop (some 41) (.call { callee := (.builtin .append), args := #[(.tmp 38), (.tmp 40)], argTypes := #[62, 62] }) none,
    sop (some 6) (.assign (.tmp 41)) none]
theorem xr17_10 : Xr 17 144 r17_10 o17_10 [] := execI_reg' (by kernel_rfl)
noncomputable def r17_9 : Code := navF Try.f17 [1, 1, 1, 1, 1, 0, 1, 0, 0, 1, 1]
noncomputable def o17_9 : List Oper := [sop (some 36) (.move (.tmp 7)) none,
    sop (some 37) (.binOp .add 3 (.tmp 36) (.const (.int .i64 1)) 3) none,
    sop (some 7) (.assign (.tmp 37)) none]
theorem xr17_9 : Xr 17 144 r17_9 o17_9 [] := execI_reg' (by kernel_rfl)
theorem cl17_0 : l17_0 = (.seq (.seq r17_8 (.cond (.tmp 35) .skip (.exit 0))) (.seq (.block 1 r17_10) r17_9)) := by kernel_rfl
noncomputable def r17_11 : Code := navF Try.f17 [1, 1, 1, 1, 1, 1, 0, 0]
noncomputable def o17_11 : List Oper := [sop (some 42) (.move (.tmp 5)) none,
    sop (some 43) (.binOp .gtr 3 (.tmp 42) (.const (.int .i64 1)) 3) none]
theorem xr17_11 : Xr 17 144 r17_11 o17_11 [] := execI_reg' (by kernel_rfl)
noncomputable def r17_12 : Code := navF Try.f17 [1, 1, 1, 1, 1, 1, 0, 1, 0, 0]
noncomputable def o17_12 : List Oper := [sop (some 44) (.fieldAddr 57 (.tmp 1) 3) none,
    sop (some 45) (.indexAddr 31 (.tmp 44) (.const (.int .i64 0))) none,
    sop (some 46) (.load 5 (.tmp 45)) none,
    sop (some 47) (.convert 5 3 (.tmp 46)) none,
    sop (some 48) (.move (.tmp 5)) none,
    sop (some 49) (.binOp .sub 3 (.tmp 48) (.const (.int .i64 1)) 3) none,
    sop (some 50) (.binOp .rem 3 (.tmp 47) (.tmp 49) 3) none,
    sop (some 51) (.binOp .add 3 (.const (.int .i64 1)) (.tmp 50) 3) none,
    sop (some 52) (.fieldAddr 57 (.tmp 1) 3) none,
    sop (some 53) (.indexAddr 31 (.tmp 52) (.const (.int .i64 1))) none,
    sop (some 54) (.load 5 (.tmp 53)) none,
    sop (some 55) (.convert 5 3 (.tmp 54)) none,
    sop (some 56) (.move (.tmp 5)) none,
    sop (some 57) (.binOp .sub 3 (.tmp 56) (.const (.int .i64 1)) 3) none,
    sop (some 58) (.binOp .rem 3 (.tmp 55) (.tmp 57) 3) none,
    sop (some 59) (.binOp .add 3 (.const (.int .i64 1)) (.tmp 58) 3) none,
    sop (some 8) (.assign (.tmp 51)) none,
    sop (some 9) (.assign (.tmp 59)) none]
theorem xr17_12 : Xr 17 144 r17_12 o17_12 [(2, 10)] := execI_reg' (by kernel_rfl)
noncomputable def r17_13 : Code := navF Try.f17 [1, 1, 1, 1, 1, 1, 0, 1, 0, 1]
noncomputable def o17_13 : List Oper := [sop (some 60) (.move (.tmp 6)) none,
    sop (some 61) (.move (.tmp 8)) none,
    sop (some 62) (.move (.tmp 6)) none,
    sop (some 63) (.move (.tmp 9)) none,
    sop (some 64) (.move (.tmp 6)) none,
    sop (some 65) (.move (.tmp 9)) none,
    sop (some 66) (.indexAddr 62 (.tmp 64) (.tmp 65)) none,
    sop (some 67) (.load 3 (.tmp 66)) none,
    sop (some 68) (.move (.tmp 6)) none,
    sop (some 69) (.move (.tmp 8)) none,
    sop (some 70) (.indexAddr 62 (.tmp 68) (.tmp 69)) none,
    sop (some 71) (.load 3 (.tmp 70)) none,
    sop (some 72) (.indexAddr 62 (.tmp 60) (.tmp 61)) none,
    sop none (.store 3 (.tmp 72) (.tmp 67)) none,
    sop (some 73) (.indexAddr 62 (.tmp 62) (.tmp 63)) none,
    sop none (.store 3 (.tmp 73) (.tmp 71)) none]
theorem xr17_13 : Xr 17 144 r17_13 o17_13 [(7, 11)] := execI_reg' (by kernel_rfl)
noncomputable def r17_14 : Code := navF Try.f17 [1, 1, 1, 1, 1, 1, 1, 0]
noncomputable def o17_14 : List Oper := [sop (some 74) (.load 34 (.tmp 4)) none,
    sop (some 75) (.call { callee := (.value (.func 49)), args := #[(.tmp 74)], argTypes := #[34] }) none,
    sop (some 10) (.alloc 34) none,
    sop none (.store 34 (.tmp 10) (.tmp 75)) none]
theorem xr17_14 : Xr 17 144 r17_14 o17_14 [] := execI_reg' (by kernel_rfl)
noncomputable def r17_15 : Code := navF Try.f17 [1, 1, 1, 1, 1, 1, 1, 1, 0, 0]
noncomputable def o17_15 : List Oper := [sop (some 11) (.assign (.const (.int .i64 0))) none]
theorem xr17_15 : Xr 17 144 r17_15 o17_15 [] := execI_reg' (by kernel_rfl)
noncomputable def l17_1 : Code := navF Try.f17 [1, 1, 1, 1, 1, 1, 1, 1, 0, 1, 0, 0]
noncomputable def r17_16 : Code := navF Try.f17 [1, 1, 1, 1, 1, 1, 1, 1, 0, 1, 0, 0, 0, 0]
noncomputable def o17_16 : List Oper := [sop (some 76) (.move (.tmp 11)) none,
    sop (some 77) (.move (.tmp 5)) none,
    sop (some 78) (.binOp .lss 3 (.tmp 76) (.tmp 77) 3) none]
theorem xr17_16 : Xr 17 144 r17_16 o17_16 [] := execI_reg' (by kernel_rfl)
noncomputable def r17_18 : Code := navF Try.f17 [1, 1, 1, 1, 1, 1, 1, 1, 0, 1, 0, 0, 1, 0, 0, 0]
noncomputable def o17_18 : List Oper := [sop (some 12) (.assign (.const (.int .i64 0))) none]
theorem xr17_18 : Xr 17 144 r17_18 o17_18 [] := execI_reg' (by kernel_rfl)
noncomputable def l17_2 : Code := navF Try.f17 [1, 1, 1, 1, 1, 1, 1, 1, 0, 1, 0, 0, 1, 0, 0, 1, 0, 0]
noncomputable def r17_19 : Code := navF Try.f17 [1, 1, 1, 1, 1, 1, 1, 1, 0, 1, 0, 0, 1, 0, 0, 1, 0, 0, 0, 0]
noncomputable def o17_19 : List Oper := [sop (some 81) (.move (.tmp 12)) none,
    sop (some 82) (.fieldAddr 34 (.tmp 4) 0) none,
    sop (some 83) (.load 3 (.tmp 82)) none,
    sop (some 84) (.binOp .lss 3 (.tmp 81) (.tmp 83) 3) none]
theorem xr17_19 : Xr 17 144 r17_19 o17_19 [] := execI_reg' (by kernel_rfl)
noncomputable def r17_21 : Code := navF Try.f17 [1, 1, 1, 1, 1, 1, 1, 1, 0, 1, 0, 0, 1, 0, 0, 1, 0, 0, 1, 0, 0, 0]
noncomputable def o17_21 : List Oper := [sop (some 87) (.fieldAddr 34 (.tmp 4) 2) none,
    sop (some 88) (.load 32 (.tmp 87)) none,
    sop (some 89) (.move (.tmp 11)) none,
    sop (some 90) (.indexAddr 32 (.tmp 88) (.tmp 89)) none,
    sop (some 91) (.load 72 (.tmp 90)) none,
    sop (some 92) (.move (.tmp 12)) none,
    sop (some 93) (.indexAddr 72 (.tmp 91) (.tmp 92)) none,
    sop (some 94) (.load 55 (.tmp 93)) none,
    sop (some 13) (.alloc 55) none,
    sop none (.store 55 (.tmp 13) (.tmp 94)) none]
theorem xr17_21 : Xr 17 144 r17_21 o17_21 [] := execI_reg' (by kernel_rfl)
noncomputable def r17_22 : Code := navF Try.f17 [1, 1, 1, 1, 1, 1, 1, 1, 0, 1, 0, 0, 1, 0, 0, 1, 0, 0, 1, 0, 0, 1, 0, 0]
noncomputable def o17_22 : List Oper := [sop (some 95) (.fieldAddr 55 (.tmp 13) 0) none,
    sop (some 96) (.load 3 (.tmp 95)) none,
    sop (some 97) (.binOp .geq 3 (.tmp 96) (.const (.int .i64 0)) 3) none]
theorem xr17_22 : Xr 17 144 r17_22 o17_22 [] := execI_reg' (by kernel_rfl)
noncomputable def r17_23 : Code := navF Try.f17 [1, 1, 1, 1, 1, 1, 1, 1, 0, 1, 0, 0, 1, 0, 0, 1, 0, 0, 1, 0, 0, 1, 0, 1, 0]
noncomputable def o17_23 : List Oper := [sop (some 98) (.move (.tmp 6)) none,
    sop (some 99) (.fieldAddr 55 (.tmp 13) 0) none,
    sop (some 100) (.load 3 (.tmp 99)) none,
    sop (some 101) (.indexAddr 62 (.tmp 98) (.tmp 100)) none,
    sop (some 102) (.load 3 (.tmp 101)) none,
    sop (some 103) (.fieldAddr 55 (.tmp 13) 0) none,
    sop none (.store 3 (.tmp 103) (.tmp 102)) none]
theorem xr17_23 : Xr 17 144 r17_23 o17_23 [] := execI_reg' (by kernel_rfl)
noncomputable def r17_24 : Code := navF Try.f17 [1, 1, 1, 1, 1, 1, 1, 1, 0, 1, 0, 0, 1, 0, 0, 1, 0, 0, 1, 0, 0, 1, 1]
noncomputable def o17_24 : List Oper := [sop (some 104) (.fieldAddr 34 (.tmp 10) 2) none,
    sop (some 105) (.load 32 (.tmp 104)) none,
    sop (some 106) (.move (.tmp 6)) none,
    sop (some 107) (.move (.tmp 11)) none,
    sop (some 108) (.indexAddr 62 (.tmp 106) (.tmp 107)) none,
    sop (some 109) (.load 3 (.tmp 108)) none,
    sop (some 110) (.indexAddr 32 (.tmp 105) (.tmp 109)) none,
    sop (some 111) (.load 72 (.tmp 110)) none,
    sop (some 112) (.move (.tmp 12)) none,
    sop (some 113) (.load 55 (.tmp 13)) none,
    sop (some 114) (.indexAddr 72 (.tmp 111) (.tmp 112)) none,
    sop none (.store 55 (.tmp 114) (.tmp 113)) none]
theorem xr17_24 : Xr 17 144 r17_24 o17_24 [(1, 5), (1, 9), (5, 9), (7, 9)] := execI_reg' (by kernel_rfl)
noncomputable def r17_20 : Code := navF Try.f17 [1, 1, 1, 1, 1, 1, 1, 1, 0, 1, 0, 0, 1, 0, 0, 1, 0, 0, 1, 1]
noncomputable def o17_20 : List Oper := [sop (some 85) (.move (.tmp 12)) none,
    sop (some 86) (.binOp .add 3 (.tmp 85) (.const (.int .i64 1)) 3) none,
    sop (some 12) (.assign (.tmp 86)) none]
theorem xr17_20 : Xr 17 144 r17_20 o17_20 [] := execI_reg' (by kernel_rfl)
theorem cl17_2 : l17_2 = (.seq (.seq r17_19 (.cond (.tmp 84) .skip (.exit 4))) (.seq (.block 5 (.seq r17_21 (.seq (.seq r17_22 (.cond (.tmp 97) r17_23 .skip)) r17_24))) r17_20)) := by kernel_rfl
noncomputable def r17_17 : Code := navF Try.f17 [1, 1, 1, 1, 1, 1, 1, 1, 0, 1, 0, 0, 1, 1]
noncomputable def o17_17 : List Oper := [sop (some 79) (.move (.tmp 11)) none,
    sop (some 80) (.binOp .add 3 (.tmp 79) (.const (.int .i64 1)) 3) none,
    sop (some 11) (.assign (.tmp 80)) none]
theorem xr17_17 : Xr 17 144 r17_17 o17_17 [] := execI_reg' (by kernel_rfl)
theorem cl17_1 : l17_1 = (.seq (.seq r17_16 (.cond (.tmp 78) .skip (.exit 2))) (.seq (.block 3 (.seq r17_18 (.block 4 (.loop l17_2)))) r17_17)) := by kernel_rfl
noncomputable def r17_25 : Code := navF Try.f17 [1, 1, 1, 1, 1, 1, 1, 1, 1, 0]
noncomputable def o17_25 : List Oper := [sop (some 115) (.load 34 (.tmp 10)) none,
    sop (some 116) (.call { callee := (.value (.func 49)), args := #[(.tmp 115)], argTypes := #[34] }) none,
    sop (some 14) (.alloc 34) none,
    sop none (.store 34 (.tmp 14) (.tmp 116)) none]
theorem xr17_25 : Xr 17 144 r17_25 o17_25 [] := execI_reg' (by kernel_rfl)
noncomputable def r17_26 : Code := navF Try.f17 [1, 1, 1, 1, 1, 1, 1, 1, 1, 1, 0]
noncomputable def o17_26 : List Oper := [sop (some 117) (.fieldAddr 34 (.tmp 14) 2) none,
    sop (some 118) (.load 32 (.tmp 117)) none,
    sop (some 119) (.fieldAddr 57 (.tmp 1) 4) none,
    sop (some 120) (.indexAddr 31 (.tmp 119) (.const (.int .i64 0))) none,
    sop (some 121) (.load 5 (.tmp 120)) none,
    sop (some 122) (.convert 5 3 (.tmp 121)) none,
    sop (some 123) (.move (.tmp 5)) none,
    sop (some 124) (.binOp .rem 3 (.tmp 122) (.tmp 123) 3) none,
    sop (some 125) (.indexAddr 32 (.tmp 118) (.tmp 124)) none,
    sop (some 126) (.load 72 (.tmp 125)) none,
    sop (some 127) (.fieldAddr 57 (.tmp 1) 4) none,
    sop (some 128) (.indexAddr 31 (.tmp 127) (.const (.int .i64 1))) none,
    sop (some 129) (.load 5 (.tmp 128)) none,
    sop (some 130) (.convert 5 3 (.tmp 129)) none,
    sop (some 131) (.fieldAddr 34 (.tmp 4) 0) none,
    sop (some 132) (.load 3 (.tmp 131)) none,
    sop (some 133) (.binOp .rem 3 (.tmp 130) (.tmp 132) 3) none,
    sop (some 134) (.fieldAddr 57 (.tmp 1) 5) none,
    sop (some 135) (.load 55 (.tmp 134)) none,
    sop (some 136) (.indexAddr 72 (.tmp 126) (.tmp 133)) none,
    sop none (.store 55 (.tmp 136) (.tmp 135)) none]
theorem xr17_26 : Xr 17 144 r17_26 o17_26 [(1, 4), (1, 12), (4, 12), (9, 12), (1, 15), (4, 15), (9, 15), (12, 15), (1, 18), (4, 18), (9, 18), (12, 18), (15, 18)] := execI_reg' (by kernel_rfl)
noncomputable def r17_27 : Code := navF Try.f17 [1, 1, 1, 1, 1, 1, 1, 1, 1, 1, 1, 0, 0]
noncomputable def o17_27 : List Oper := [sop (some 137) (.load 34 (.tmp 14)) none,
    sop (some 138) (.call { callee := (.value (.func 50)), args := #[(.tmp 137)], argTypes := #[34] }) none,
    sop (some 139) (.binOp .eql 3 (.tmp 138) (.const (.int .i64 0)) 3) none]
theorem xr17_27 : Xr 17 144 r17_27 o17_27 [] := execI_reg' (by kernel_rfl)
noncomputable def r17_28 : Code := navF Try.f17 [1, 1, 1, 1, 1, 1, 1, 1, 1, 1, 1, 0, 1, 0, 0]
noncomputable def o17_28 : List Oper := [sop (some 140) (.load 34 (.tmp 4)) none,
    sop (some 141) (.load 34 (.tmp 14)) none,
    sop none (.store 34 (.tmp 2) (.tmp 140)) none,
    sop none (.store 34 (.tmp 3) (.tmp 141)) none]
theorem xr17_28 : Xr 17 144 r17_28 o17_28 [(0, 1), (1, 2)] := execI_reg' (by kernel_rfl)
noncomputable def r17_29 : Code := navF Try.f17 [1, 1, 1, 1, 1, 1, 1, 1, 1, 1, 1, 1, 0]
noncomputable def o17_29 : List Oper := [sop (some 142) (.load 34 (.tmp 4)) none,
    sop (some 143) (.load 34 (.tmp 10)) none,
    sop none (.store 34 (.tmp 2) (.tmp 142)) none,
    sop none (.store 34 (.tmp 3) (.tmp 143)) none]
theorem xr17_29 : Xr 17 144 r17_29 o17_29 [(0, 1), (1, 2)] := execI_reg' (by kernel_rfl)
noncomputable def b17 : Code := (.seq r17_0 (.seq r17_1 (.seq r17_2 (.seq (.seq r17_3 (.cond (.tmp 23) (.seq r17_4 (.seq r17_5 .ret)) .skip)) (.seq r17_6 (.seq (.seq r17_7 (.block 0 (.loop l17_0))) (.seq (.seq r17_11 (.cond (.tmp 43) (.seq r17_12 r17_13) .skip)) (.seq r17_14 (.seq (.seq r17_15 (.block 2 (.loop l17_1))) (.seq r17_25 (.seq r17_26 (.seq (.seq r17_27 (.cond (.tmp 139) (.seq r17_28 .ret) .skip)) (.seq r17_29 .ret)))))))))))))
theorem body17 : Try.f17.body = some b17 := by kernel_rfl
theorem fn17 : E.fn 17 = some Try.f17 := by kernel_rfl
theorem run17 (args : List D) (h : H) (hl : args.length ≤ 144) : bodyI E 17 args h = resOf E [(.cell 2 34), (.cell 3 34)] (execI E 17 144 b17 ⟨argA args, h⟩) := bodyI_res fn17 body17 rfl rfl args h hl
end Go.Eng.E3
namespace Go.Eng.E3
open Go Go.Eng Go.Proofs
set_option maxRecDepth 100000
attribute [local simp] execR runOps stepOp wantedD evalOp opd upd St.put Eff.apply upds looseOk FP.free FP.idle apart Eff.fp ofVal loadD storeD partD setPart indexAddrD isShift arith unD callOp mapO D.okc pickD buildable buildD placeD convD
set_option linter.unusedSimpArgs false
set_option maxHeartbeats 4000000
def drawW (es : List Int) (ins : Nat) (n : Nat) : List Int := (es.take n).map fun e => e.tmod ins
theorem mu18 : E.pol.mu 18 62 = false := by decide
structure I18 (es : List Int) (ins n : Nat) (k : Nat) (st : St) : Prop where
  le : k ≤ n
  h1 : st.A 1 = .int .i64 ins
  h2 : st.A 2 = .ptr 0 0 0
  h5 : ∃ tk, st.A 5 = .frz ((drawW es ins (n - k)).map (D.int .i64)) tk ∧ TokB st.h.blk tk 1 st.h.next ∧ (tk = .nil ↔ n - k = 0)
  h6 : st.A 6 = .int .i64 ((n - k : Nat) : Int)
  hb : st.h.blk 0 = .live 1 [.agg [.frz (es.map (D.int .u8)) .unk]]
  hn : 1 ≤ st.h.next
theorem spec18 {es : List Int} {ins : Nat} (he : ∀ e ∈ es, 0 ≤ e ∧ e < 256) (hi1 : 1 ≤ ins) (hi2 : ins ≤ 16) :
    bodyR 18 [.agg [.frz (es.map (D.int .u8)) .unk], .int .i64 ins] = some (.frz ((drawW es ins (min es.length 12)).map (D.int .i64)) (tkA (drawW es ins (min es.length 12)))) := by
  refine bodyR_V (run18 _ _ (by simp)) ?_
  unfold b18
  refine .then xr18_0 (by simp [o18_0, builtinD, lenD, pD, argA]; rfl) ?_
  refine .then xr18_1 (by simp [o18_1, builtinD, lenD, pD, argA]; rfl) ?_
  refine .assoc (.then xr18_2 (by simp [o18_2, builtinD, lenD, pD, argA]; rfl) ?_)
  obtain ⟨n, hn⟩ : ∃ n, n = min es.length 12 := ⟨_, rfl⟩
  rw [← hn]
  refine .seq (.block (V.count (I18 es ins n) ?_ ?_ n _ ⟨Nat.le_refl _, by simp [upd, argA], by simp [upd], ⟨.nil, by simp [upd, drawW], .inl rfl, by simp⟩, by simp [upd], by simp [upd, upds], by simp⟩))
  · rintro k ⟨A, h⟩ ⟨le, h1, h2, ⟨tk, h5, ht, htn⟩, h6, hb, hN⟩
    have hlt : n - (k + 1) < n := by omega
    generalize hi : n - (k + 1) = i at *
    have hk' : n - k = i + 1 := by omega
    have hwr : IntKind.i64.wrap ((i : Int) + 1) = ((i + 1 : Nat) : Int) := by rw [wrap_id] <;> omega
    have hil : i < es.length := by omega
    have hi12 : i < 12 := by omega
    have hi12I : (i : Int) < 12 := by omega
    have hilI : (i : Int) < es.length := by omega
    have hei := he _ (List.getElem_mem hil)
    have hins0 : ¬ (ins : Int) = 0 := by omega
    have hinsN : ¬ ins = 0 := by omega
    have htm : es[i].tmod ins = es[i] % ins := Int.tmod_eq_emod_of_nonneg hei.1
    have w1 : IntKind.i64.wrap es[i] = es[i] := wrap_id (by omega) (by omega)
    have hwo : drawW es ins (i + 1) = drawW es ins i ++ [es[i].tmod ins] := by
      unfold drawW; rw [List.take_succ_eq_append_getElem hil, List.map_append]; rfl
    have hwl : (drawW es ins i).length ≤ 12 := by simp [drawW]; omega
    generalize drawW es ins i = out at *
    simp only at h1 h2 h5 h6 hb hN ht
    rw [cl18_0]
    refine .assoc (.then xr18_3 (by simp [o18_3, builtinD, lenD, pD, argA, h2, h6, hb, hilI, hil, hi12I, hi12]; rfl) ?_)
    refine .head (v := true) (by simp [opd, upd, hil, hi12]) (fun _ => ?_) (fun hf => by cases hf)
    have ht2 : TokB h.blk tk 1 (h.next + 9) := ht.mono (by omega) (fun b _ hb => hb)
    have ha : ∀ s (x : Int), builtinD E.T (E.pol.mu 18) s h.blk .append [62, 62] [.frz (out.map (D.int .i64)) tk, .frz [.int .i64 x] .exact] = some { v := .frz (out.map (D.int .i64) ++ [.int .i64 x]) (.own s 1), wr := tokWr tk s, rd := tokRd tk } := fun s x => by
      have := app62 (mu := E.pol.mu 18) (s := s) (blk := h.blk) (xs := out) (tk := tk) (tk' := .exact) (x := x) mu18 ht2 (by omega)
      simpa using this
    have hk0 : ∀ s, ¬ 0 = s → upds h.blk (tokWr tk s) 0 = h.blk 0 := fun s hs => tokWr_keep ht2 (by rw [hb]; simp) hs
    refine .seq (.block (.reg xr18_5 (by simp [o18_5, pD, argA, h1, h2, h5, h6, hb, hilI, hil, hins0, hinsN, convD, w1, ha, mu18, mapK, snapDepth, snap_int, kills]; rfl) ?_))
    refine .reg xr18_4 (by simp [o18_4, builtinD, lenD, pD, argA, h6]; rfl) ⟨by omega, ?_, ?_, ⟨.own (h.next + 9 + 10) 1, ?_, ?_, by simp; omega⟩, ?_, ?_, ?_⟩
    · simp [upd, h1]
    · simp [upd, h2]
    · simp [upd, hk', hwo]
    · exact TokB.grow (by simp <;> omega)
    · simp [upd, hk', hwr]
    · simpa [upds] using (hk0 (h.next + 9 + 10) (by omega)).trans hb
    · simp <;> omega
  · rintro ⟨A, h⟩ ⟨le, h1, h2, ⟨tk, h5, ht, htn⟩, h6, hb, hN⟩
    simp only at h1 h2 h5 h6 hb hN ht
    rw [Nat.sub_zero] at h5 h6 htn
    rw [cl18_0]
    have hc : (decide (n < es.length) && decide (n < 12)) = false := by
      simp only [Bool.and_eq_false_iff, decide_eq_false_iff_not]; omega
    by_cases hne : n < es.length
    · have hn12 : ¬ n < 12 := by omega
      have hn12I : ¬ (n : Int) < 12 := by omega
      have hneI : (n : Int) < es.length := by omega
      refine .assoc (.then xr18_3 (by simp [o18_3, builtinD, lenD, pD, argA, h2, h6, hb, hne, hn12, hn12I, hneI]; rfl) ?_)
      refine .head (v := false) (by simp [opd, upd, hn12, hne]) (fun hf => by cases hf) (fun _ => ?_)
      refine .then xr18_6 (by simp [o18_6, builtinD, lenD, pD, argA, h5]; rfl) (.ret ⟨_, by simp [resultsD, mapO, resultD, upd]; rfl, ?_⟩)
      rw [show snapDepth = 7 + 2 from rfl, snap_ints]
      have : Tok.fade true tk = tkA (drawW es ins n) := by
        rcases ht with rfl | ⟨o, rfl, _, _⟩
        · have := htn.1 rfl; omega
        · cases hq : drawW es ins n with
          | nil => have : (drawW es ins n).length = n := by simp [drawW]; omega
                   rw [hq] at this; simp at this; omega
          | cons _ _ => rfl
      simp [this]
    · have hneI : ¬ (n : Int) < es.length := by omega
      refine .assoc (.then xr18_3 (by simp [o18_3, builtinD, lenD, pD, argA, h2, h6, hb, hne, hneI]; rfl) ?_)
      refine .head (v := false) (by simp [opd, upd, hne]) (fun hf => by cases hf) (fun _ => ?_)
      refine .then xr18_6 (by simp [o18_6, builtinD, lenD, pD, argA, h5]; rfl) (.ret ⟨_, by simp [resultsD, mapO, resultD, upd]; rfl, ?_⟩)
      rw [show snapDepth = 7 + 2 from rfl, snap_ints]
      have : Tok.fade true tk = tkA (drawW es ins n) := by
        rcases ht with rfl | ⟨o, rfl, _, _⟩
        · have := htn.1 rfl; subst this; rfl
        · have hq : n ≠ 0 := fun e => by have := htn.2 e; cases this
          cases hq' : drawW es ins n with
          | nil => have : (drawW es ins n).length = n := by simp [drawW]; omega
                   rw [hq'] at this; simp at this; omega
          | cons _ _ => rfl
      simp [this]
end Go.Eng.E3
namespace Go.Eng.E3
open Go Go.Eng Go.Proofs
set_option maxRecDepth 100000
attribute [local simp] execR runOps stepOp wantedD evalOp opd upd St.put Eff.apply upds looseOk FP.free FP.idle apart Eff.fp ofVal loadD storeD partD setPart indexAddrD isShift arith unD callOp mapO D.okc pickD buildable buildD placeD convD
set_option linter.unusedSimpArgs false
set_option maxHeartbeats 4000000
structure Shape (m : M) : Prop where
  i1 : 1 ≤ m.ins
  i2 : m.ins ≤ 16
  o1 : 1 ≤ m.outs
  o2 : m.outs ≤ 16
  r1 : 1 ≤ m.rows.length
  r2 : m.rows.length ≤ 64
  len : ∀ r ∈ m.rows, r.length = m.ins
structure F50 (c : M) (st : St) : Prop where
  h1 : st.A 1 = .ptr 0 0 0
  hb : st.h.blk 0 = .live 3 [encM c]
  hn : 1 ≤ st.h.next
structure J50 (c : M) (s : Nat) (hs : s < c.rows.length) (j : Nat) (st : St) : Prop where
  le : j ≤ c.ins
  f : F50 c st
  h3 : st.A 3 = .int .i64 s
  h4 : st.A 4 = .int .i64 ((c.ins - j : Nat) : Int)
  ok : ∀ e ∈ c.rows[s].take (c.ins - j), EdgeOk c e
def Ret50 (c : M) (st : St) : Prop := ∃ r : Int, st.A 2 = .int .i64 r ∧ (r = 0 → Valid c)
theorem loop50b {c : M} (hv : Shape c) {s : Nat} (hs : s < c.rows.length) {Q : Po} (hr : ∀ q, Ret50 c q → Q.r q) (hQ : ∀ q, J50 c s hs 0 q → Q.x 2 q) (j : Nat) (q : St) (hI : J50 c s hs j q) : V E 50 95 (.loop l50_1) q Q := by
  have i2 := hv.i2
  have r2 := hv.r2
  refine V.count (J50 c s hs) ?_ ?_ j q hI
  · rintro j ⟨A, h⟩ ⟨le, ⟨h1, hb, hn⟩, h3, h4, ok⟩
    have hlt : c.ins - (j + 1) < c.ins := by omega
    generalize hi : c.ins - (j + 1) = i at *
    have hk' : c.ins - j = i + 1 := by omega
    have hwr : IntKind.i64.wrap ((i : Int) + 1) = ((i + 1 : Nat) : Int) := by rw [wrap_id] <;> omega
    have hrl : c.rows[s].length = c.ins := hv.len _ (List.getElem_mem hs)
    have hil : i < c.rows[s].length := by omega
    have htk : c.rows[s].take (i + 1) = c.rows[s].take i ++ [c.rows[s][i]] := List.take_succ_eq_append_getElem hil
    obtain ⟨t, o, he⟩ : ∃ t o, c.rows[s][i] = (t, o) := ⟨_, _, rfl⟩
    have he1 : c.rows[s][i].1 = t := by rw [he]
    have he2 : c.rows[s][i].2 = o := by rw [he]
    simp only at h1 h3 h4 hb hn
    have hb0 : ∀ j, (0 = h.next + j) = False := fun j => by simp; omega
    have hb1 : (0 = h.next) = False := by simp; omega
    rw [cl50_1]
    refine .assoc (.then xr50_11 (by simp [o50_11, builtinD, lenD, pD, argA, h1, h4, hb, encM]; rfl) ?_)
    refine .head (by simp [opd, upd]; rfl) (fun _ => ?_) (fun hf => by simp [hlt] at hf)
    have next : ∀ (A2 : Nat → D) (h2 : H), (∀ t, t < 5 → A2 t = A t) → h2.blk 0 = h.blk 0 → h.next ≤ h2.next → EdgeOk c (t, o) → V E 50 95 r50_12 ⟨A2, h2⟩ (Q.upto (J50 c s hs j)) := by
      intro A2 h2 hA hbk hnx hok
      have g4 := (hA 4 (by omega)).trans h4
      refine .reg xr50_12 (by simp [o50_12, builtinD, lenD, pD, argA, g4]; rfl) ⟨by omega, ⟨?_, ?_, ?_⟩, ?_, ?_, ?_⟩
      · simp [upd, hA, h1]
      · simpa [upds] using hbk.trans hb
      · simp <;> omega
      · simp [upd, hA, h3]
      · simp [upd, hk', hwr]
      · rw [hk', htk]
        intro e hem
        rcases List.mem_append.1 hem with hem | hem
        · exact ok e hem
        · simp at hem; subst hem; rw [he]; exact hok
    have bad : ∀ (A2 : Nat → D) (h2 : H) (Q' : Po), (∀ q, Ret50 c q → Q'.r q) → V E 50 95 (.seq r50_16 .ret) ⟨A2, h2⟩ Q' := by
      intro A2 h2 Q' hq
      refine .then xr50_16 (by simp [o50_16, builtinD, lenD, pD, argA]; rfl) (.ret (hq _ ⟨1, by simp [upd], fun e => absurd e (by decide)⟩))
    refine .seq (.block (.then xr50_13 (by simp [o50_13, builtinD, lenD, pD, argA, h1, h3, h4, hb, encM, hs, hrl, hlt, hil, rowD, hb0, hb1, he1, he2]; rfl) ?_))
    have e2 : ∀ x y, upd (upd h.blk (h.next + 4 + 8) x) (h.next + 4 + 8) y (h.next + 4 + 8) = y := fun x y => by simp
    have e3 : ∀ x y, upd (upd h.blk (h.next + 4 + 8) x) (h.next + 4 + 8) y 0 = h.blk 0 := fun x y => by
      simp [upd, show 0 ≠ h.next + 4 + 8 by omega]
    generalize hbk : upd (upd h.blk (h.next + 4 + 8) (.live 2 [.agg [.int .i64 0, .int .i64 0]])) (h.next + 4 + 8) (.live 2 [.agg [.int .i64 t, .int .i64 o]]) = blk1 at *
    have e2' : blk1 (h.next + 4 + 8) = .live 2 [.agg [.int .i64 t, .int .i64 o]] := by rw [← hbk]; exact e2 _ _
    have e3' : blk1 0 = .live 3 [encM c] := by rw [← hbk, e3]; exact hb
    have more : ∀ (A2 : Nat → D) (nx : Nat), (∀ t, t < 5 → A2 t = A t) → A2 5 = .ptr (h.next + 4 + 8) 0 0 → h.next ≤ nx → V E 50 95 (.seq r50_15 (.cond (.tmp 94) (.seq r50_16 .ret) .skip)) ⟨A2, ⟨nx, blk1⟩⟩ ((Q.upto (J50 c s hs j)).upto (fun s' => V E 50 95 r50_12 s' (Q.upto (J50 c s hs j))) |>.within 3) := by
      intro A2 nx hA h5 hnx
      have g1 := (hA 1 (by omega)).trans h1
      by_cases t0 : t < 0
      · refine .then xr50_15 (by simp [o50_15, builtinD, lenD, pD, argA, g1, h5, e2', e3', encM, t0]; rfl) ?_
        exact .cond (v := true) (by simp [opd, upd]) (fun _ => bad _ _ _ hr) (fun x => by cases x)
      · by_cases t1 : (c.rows.length : Int) ≤ t
        · refine .then xr50_15 (by simp [o50_15, builtinD, lenD, pD, argA, g1, h5, e2', e3', encM, t0, t1]; rfl) ?_
          exact .cond (v := true) (by simp [opd, upd]) (fun _ => bad _ _ _ hr) (fun x => by cases x)
        · by_cases o0 : o < 0
          · refine .then xr50_15 (by simp [o50_15, builtinD, lenD, pD, argA, g1, h5, e2', e3', encM, t0, t1, o0]; rfl) ?_
            exact .cond (v := true) (by simp [opd, upd]) (fun _ => bad _ _ _ hr) (fun x => by cases x)
          · by_cases o1 : (c.outs : Int) ≤ o
            · refine .then xr50_15 (by simp [o50_15, builtinD, lenD, pD, argA, g1, h5, e2', e3', encM, t0, t1, o0, o1]; rfl) ?_
              exact .cond (v := true) (by simp [opd, upd]) (fun _ => bad _ _ _ hr) (fun x => by cases x)
            · refine .then xr50_15 (by simp [o50_15, builtinD, lenD, pD, argA, g1, h5, e2', e3', encM, t0, t1, o0, o1]; rfl) ?_
              refine .cond (v := false) (by simp [opd, upd]) (fun x => by cases x) (fun _ => .skip ?_)
              refine next _ _ (fun t ht => ?_) (by simpa using e3'.trans hb.symm) (by simp; omega) (.inr ⟨by simp only; omega, by simp only; omega, by simp only; omega, by simp only; omega⟩)
              rw [← hA t ht]
              simp [upd, show ∀ c, 72 ≤ c → ¬ t = c from fun c h => by omega]
    by_cases t1 : t = -1
    · by_cases o1 : o = -1
      · refine .assoc (.then xr50_14 (by simp [o50_14, builtinD, lenD, pD, argA, e2', t1, o1]; rfl) ?_)
        refine .seq (.cond (v := true) (by simp [opd, upd]) (fun _ => .exit ?_) (fun x => by cases x))
        refine next _ _ (fun t ht => ?_) (by simpa using e3'.trans hb.symm) (by simp; omega) (.inl (by rw [t1, o1]))
        simp [upd, show t ≠ 5 by omega, show ∀ c, 50 ≤ c → ¬ t = c from fun c h => by omega]
      · have o1' : (o == -1) = false := by simp [o1]
        refine .assoc (.then xr50_14 (by simp [o50_14, builtinD, lenD, pD, argA, e2', t1, o1']; rfl) ?_)
        refine .seq (.cond (v := false) (by simp [opd, upd, o1]) (fun x => by cases x) (fun _ => .skip ?_))
        refine more _ _ (fun t ht => ?_) (by simp [upd]) (by omega)
        simp [upd, show t ≠ 5 by omega, show ∀ c, 50 ≤ c → ¬ t = c from fun c h => by omega]
    · have t1' : (t == -1) = false := by simp [t1]
      refine .assoc (.then xr50_14 (by simp [o50_14, builtinD, lenD, pD, argA, e2', t1']; rfl) ?_)
      refine .seq (.cond (v := false) (by simp [opd, upd]) (fun x => by cases x) (fun _ => .skip ?_))
      refine more _ _ (fun t ht => ?_) (by simp [upd]) (by omega)
      simp [upd, show t ≠ 5 by omega, show ∀ c, 50 ≤ c → ¬ t = c from fun c h => by omega]
  · rintro ⟨A, h⟩ ⟨le, ⟨h1, hb, hn⟩, h3, h4, ok⟩
    simp only at h1 h3 h4 hb hn
    rw [cl50_1]
    refine .assoc (.then xr50_11 (by simp [o50_11, builtinD, lenD, pD, argA, h1, h4, hb, encM]; rfl) ?_)
    refine .head (by simp [opd, upd]; rfl) (fun hf => by simp at hf) (fun _ => hQ _ ⟨by omega, ⟨?_, ?_, ?_⟩, ?_, ?_, ok⟩)
    · simp [upd, h1]
    · simpa [upds] using hb
    · simp <;> omega
    · simp [upd, h3]
    · simp [upd, h4]
structure I50 (c : M) (k : Nat) (st : St) : Prop where
  le : k ≤ c.rows.length
  f : F50 c st
  h3 : st.A 3 = .int .i64 ((c.rows.length - k : Nat) : Int)
  ok : ∀ r ∈ c.rows.take (c.rows.length - k), ∀ e ∈ r, EdgeOk c e
theorem spec50 {c : M} (hv : Shape c) : ∃ r : Int, bodyR 50 [encM c] = some (.int .i64 r) ∧ (r = 0 → Valid c) := by
  have i1 := hv.i1
  have i2 := hv.i2
  have o1 := hv.o1
  have o2 := hv.o2
  have r1 := hv.r1
  have r2 := hv.r2
  have q1 : ¬ (16 : Int) < c.ins := by omega
  have q2 : ¬ (16 : Int) < c.outs := by omega
  have q3 : ¬ (64 : Int) < c.rows.length := by omega
  have q4 : ¬ (c.ins : Int) < 1 := by omega
  have q5 : ¬ (c.outs : Int) < 1 := by omega
  have q6 : ¬ (c.rows.length : Int) = 0 := by omega
  have q7 : ¬ c.rows.length = 0 := by omega
  have q8 : ¬ c.rows = [] := fun e => by rw [e] at r1; simp at r1
  have key : V E 50 95 b50 ⟨argA [encM c], H.empty⟩ ⟨fun _ => False, Ret50 c, fun _ _ => False, fun _ _ => False⟩ := by
    unfold b50
    refine .then xr50_0 (by simp [o50_0, builtinD, lenD, pD, argA, encM]; rfl) ?_
    refine .assoc (.then xr50_1 (by simp [o50_1, builtinD, lenD, pD, argA, encM, q1, q2, q3]; rfl) ?_)
    refine .seq (.cond (v := false) (by simp [opd, upd]) (fun ht => by cases ht) (fun _ => .skip ?_))
    refine .assoc (.then xr50_3 (by simp [o50_3, builtinD, lenD, pD, argA, encM, q4, q5, q6, q7, q8]; rfl) ?_)
    refine .seq (.cond (v := false) (by simp [opd, upd, q6, q7, q8]) (fun ht => by cases ht) (fun _ => .skip ?_))
    refine .assoc (.then xr50_5 (by simp [o50_5, builtinD, lenD, pD, argA]; rfl) ?_)
    refine .seq (.block (V.count (I50 c) ?_ ?_ c.rows.length _ ⟨Nat.le_refl _, ⟨?_, ?_, ?_⟩, ?_, ?_⟩))
    · rintro k ⟨A, h⟩ ⟨le, ⟨h1, hb, hn⟩, h3, ok⟩
      have hlt : c.rows.length - (k + 1) < c.rows.length := by omega
      generalize hi : c.rows.length - (k + 1) = i at *
      have hk' : c.rows.length - k = i + 1 := by omega
      have hwr : IntKind.i64.wrap ((i : Int) + 1) = ((i + 1 : Nat) : Int) := by rw [wrap_id] <;> omega
      have hrl : c.rows[i].length = c.ins := hv.len _ (List.getElem_mem hlt)
      have htk : c.rows.take (i + 1) = c.rows.take i ++ [c.rows[i]] := List.take_succ_eq_append_getElem hlt
      simp only at h1 h3 hb hn
      rw [cl50_0]
      refine .assoc (.then xr50_6 (by simp [o50_6, builtinD, lenD, pD, argA, h1, h3, hb, encM]; rfl) ?_)
      refine .head (by simp [opd, upd]; rfl) (fun _ => ?_) (fun hf => by simp [hlt] at hf)
      refine .seq (.block (.assoc (.then xr50_8 (by simp [o50_8, builtinD, lenD, pD, argA, h1, h3, hb, encM, hlt, rowD, hrl]; rfl) ?_)))
      refine .seq (.cond (v := false) (by simp [opd, upd]) (fun ht => by cases ht) (fun _ => .skip ?_))
      refine .then xr50_10 (by simp [o50_10, builtinD, lenD, pD, argA]; rfl) ?_
      refine .block (loop50b hv hlt (fun q hq => hq) (fun q hq => ?_) c.ins _ ⟨Nat.le_refl _, ⟨?_, ?_, ?_⟩, ?_, ?_, ?_⟩)
      · obtain ⟨A1, h1'⟩ := q
        obtain ⟨_, ⟨g1, gb, gn⟩, g3, g4, gok⟩ := hq
        simp only at g1 g3 g4 gb gn
        show V E 50 95 r50_7 _ _
        refine .reg xr50_7 (by simp [o50_7, builtinD, lenD, pD, argA, g3]; rfl) ⟨by omega, ⟨?_, ?_, ?_⟩, ?_, ?_⟩
        · simp [upd, g1]
        · simpa [upds] using gb
        · simp <;> omega
        · simp [upd, hk', hwr]
        · rw [hk', htk]
          intro r hr
          rcases List.mem_append.1 hr with hr | hr
          · exact ok r hr
          · simp at hr; subst hr
            rw [Nat.sub_zero, ← hrl, List.take_length] at gok
            exact gok
      · simp [upd, h1]
      · simpa [upds] using hb
      · simp <;> omega
      · simp [upd, h3]
      · simp [upd]
      · simp
    · rintro ⟨A, h⟩ ⟨le, ⟨h1, hb, hn⟩, h3, ok⟩
      simp only at h1 h3 hb hn
      rw [cl50_0]
      refine .assoc (.then xr50_6 (by simp [o50_6, builtinD, lenD, pD, argA, h1, h3, hb, encM]; rfl) ?_)
      refine .head (by simp [opd, upd]; rfl) (fun hf => by simp at hf) (fun _ => ?_)
      refine .then xr50_17 (by simp [o50_17, builtinD, lenD, pD, argA]; rfl) (.ret ⟨0, by simp [upd], fun _ => ⟨i1, i2, o1, o2, r1, r2, hv.len, ?_⟩⟩)
      rw [Nat.sub_zero, List.take_length] at ok
      exact ok
    · simp [upd]
    · simp [upd, upds, encM]
    · simp
    · simp [upd]
    · simp
  obtain ⟨x, s', e1, e2⟩ := key
  cases x with
  | normal => exact e2.elim
  | exit i => exact e2.elim
  | goto l => exact e2.elim
  | ret =>
    obtain ⟨r, hr, hv'⟩ := e2
    refine ⟨r, ?_, hv'⟩
    exact bodyR_V (run50 _ _ (by simp)) ⟨_, _, e1, ⟨_, by simp [resultsD, mapO, resultD, hr]; rfl, by simp [snap, snapDepth]⟩⟩
end Go.Eng.E3
namespace Go.Eng.E3
open Go Go.Eng Go.Proofs
set_option maxRecDepth 100000
attribute [local simp] execR runOps stepOp wantedD evalOp opd upd St.put Eff.apply upds looseOk FP.free FP.idle apart Eff.fp ofVal loadD storeD partD setPart indexAddrD isShift arith unD callOp mapO D.okc pickD buildable buildD placeD convD
set_option linter.unusedSimpArgs false
def rowE (n c : Nat) : D := .sl c 2 0 n false
def MatE (h : H) (v : D) (mk : List (List (Int × Int))) (n lo hi : Nat) : Prop :=
  (mk = [] ∧ v = .frz [] .nil) ∨ ∃ (b : Nat) (bs : List Nat) (_ : Unit), v = .sl b 1 0 mk.length false ∧ h.blk b = .live 1 (bs.map (rowE n)) ∧ bs.length = mk.length ∧ lo ≤ b ∧ b < hi ∧
    (∀ c ∈ bs, lo ≤ c ∧ c < hi ∧ c ≠ b) ∧ bs.Nodup ∧ ∀ (i c : Nat) (r : List (Int × Int)), bs[i]? = some c → mk[i]? = some r → h.blk c = .live 2 (r.map pD) ∧ r.length = n
theorem MatE.frame {h h' : H} {v : D} {mk : List (List (Int × Int))} {n lo hi : Nat} (m : MatE h v mk n lo hi) (e : ∀ b, lo ≤ b → b < hi → h'.blk b = h.blk b) : MatE h' v mk n lo hi := by
  rcases m with m | ⟨b, bs, ex, h1, h2, h3, h4, h5, h6, h7, h8⟩
  · exact .inl m
  · refine .inr ⟨b, bs, ex, h1, by rw [e b h4 h5]; exact h2, h3, h4, h5, h6, h7, fun i c r hc hr => ?_⟩
    obtain ⟨q1, q2, _⟩ := h6 c (List.mem_of_getElem? hc)
    rw [e c q1 q2]
    exact h8 i c r hc hr
theorem MatE.wide {h : H} {v : D} {mk : List (List (Int × Int))} {n lo hi hi' : Nat} (m : MatE h v mk n lo hi) (e : hi ≤ hi') : MatE h v mk n lo hi' := by
  rcases m with m | ⟨b, bs, ex, h1, h2, h3, h4, h5, h6, h7, h8⟩
  · exact .inl m
  · exact .inr ⟨b, bs, ex, h1, h2, h3, h4, by omega, fun c hc => ⟨(h6 c hc).1, by have := (h6 c hc).2.1; omega, (h6 c hc).2.2⟩, h7, h8⟩
theorem MatE.nx {h : H} {v : D} {mk : List (List (Int × Int))} {n lo hi hi' : Nat} (m : MatE h v mk n lo hi) (k : Nat) (e : hi ≤ hi') : MatE ⟨k, h.blk⟩ v mk n lo hi' := (m.frame fun _ _ _ => rfl).wide e
theorem MatE.snap {h : H} {v : D} {mk : List (List (Int × Int))} {n lo hi : Nat} (m : MatE h v mk n lo hi) (kp : Bool) (k : Nat) : ∃ (ks : List Nat) (tk : Tok), Eng.snap kp h.blk (k + 4) v = some (.frz (mk.map rowD) tk, ks) ∧ (kp = false ∨ mk ≠ [] → tk = .unk) := by
  rcases m with ⟨rfl, rfl⟩ | ⟨b, bs, ex, rfl, h2, h3, h4, h5, h6, h7, h8⟩
  · exact ⟨[], _, rfl, fun hk => Or.elim hk (fun e => by rw [e]; rfl) (fun e => absurd rfl e)⟩
  · have hrow : ∀ (i c : Nat) (r : List (Int × Int)), bs[i]? = some c → mk[i]? = some r → ∃ q, Eng.snap false h.blk (k + 3) (rowE n c) = some (rowD r, q) := fun i c r hc hr => by
      obtain ⟨e1, e2⟩ := h8 i c r hc hr
      refine ⟨[c], ?_⟩
      show (match (h.blk c).row with | some (e, xs) => (if e = 2 ∧ 0 + n ≤ xs.length then (match mapK (Eng.snap false h.blk (k + 2)) ((xs.drop 0).take n) with | some (ys, k) => some (D.frz ys (if false && false then .exact else .unk), c :: k) | none => none) else none) | none => none) = _
      rw [e1]
      simp only [row_live, List.length_map, List.drop_zero]
      rw [if_pos ⟨trivial, by omega⟩, List.take_of_length_le (by simp; omega), mapK_map r fun x _ => snap_pD false h.blk k x]
      rfl
    obtain ⟨q, hq⟩ := mapK_two (f := Eng.snap false h.blk (k + 3)) (g := rowE n) (u := rowD) bs mk h3 hrow
    refine ⟨b :: q, .unk, ?_, fun _ => rfl⟩
    show (match (h.blk b).row with | some (e, xs) => (if e = 1 ∧ 0 + mk.length ≤ xs.length then (match mapK (Eng.snap false h.blk (k + 3)) ((xs.drop 0).take mk.length) with | some (ys, k) => some (D.frz ys (if kp && false then .exact else .unk), b :: k) | none => none) else none) | none => none) = _
    rw [h2]
    simp only [row_live, List.length_map, List.drop_zero]
    rw [if_pos ⟨trivial, by omega⟩, List.take_of_length_le (by simp; omega), hq]
    simp only [Bool.and_false, Bool.false_eq_true, if_false]
theorem MatE.lower {h : H} {v : D} {mk : List (List (Int × Int))} {n lo lo' hi : Nat} (m : MatE h v mk n lo hi) (e : lo' ≤ lo) : MatE h v mk n lo' hi := by
  rcases m with m | ⟨b, bs, ex, h1, h2, h3, h4, h5, h6, h7, h8⟩
  · exact .inl m
  · exact .inr ⟨b, bs, ex, h1, h2, h3, by omega, h5, fun c hc => ⟨by have := (h6 c hc).1; omega, (h6 c hc).2⟩, h7, h8⟩
theorem MatE.push {h h' : H} {v : D} {mk : List (List (Int × Int))} {n lo hi s c : Nat} {r : List (Int × Int)} (m : MatE h v mk n lo hi) (hh : lo ≤ hi) (hc : hi ≤ c) (hs : hi ≤ s) (hcs : c ≠ s) (hr : r.length = n) (hb : h'.blk c = .live 2 (r.map pD))
    (hrest : ∀ b, lo ≤ b → b < hi → v ≠ .sl b 1 0 mk.length false → h'.blk b = h.blk b)
    (hsb : h'.blk s = .live 1 ((match v with | .sl b _ _ _ _ => (match h.blk b with | .live _ xs => xs | _ => []) | _ => []) ++ [rowE n c])) : MatE h' (.sl s 1 0 (mk.length + 1) false) (mk ++ [r]) n lo (max c s + 1) := by
  rcases m with ⟨rfl, rfl⟩ | ⟨b, bs, ex, rfl, h2, h3, h4, h5, h6, h7, h8⟩
  · refine .inr ⟨s, [c], (), rfl, hsb, rfl, by omega, by omega, fun x hx => ?_, by simp, fun i x y hx hy => ?_⟩
    · simp at hx; subst hx; exact ⟨by omega, by omega, hcs⟩
    · cases i with
      | zero => simp at hx hy; subst hx; subst hy; exact ⟨hb, hr⟩
      | succ i => simp at hx
  · have hcn : c ∉ bs := fun hx => by have := (h6 c hx).2.1; omega
    refine .inr ⟨s, bs ++ [c], (), by simp, ?_, by simp [h3], by omega, by omega, fun x hx => ?_, ?_, fun i x y hx hy => ?_⟩
    · rw [hsb]; simp only [h2]; simp
    · rcases List.mem_append.1 hx with hx | hx
      · have := h6 x hx; exact ⟨this.1, by omega, by omega⟩
      · simp at hx; subst hx; exact ⟨by omega, by omega, hcs⟩
    · rw [List.nodup_append]
      exact ⟨h7, by simp, fun a ha b hb e => by simp at hb; subst hb; subst e; exact hcn ha⟩
    · rcases Nat.lt_or_ge i bs.length with hi | hi
      · rw [List.getElem?_append_left hi] at hx
        rw [List.getElem?_append_left (by omega)] at hy
        have hq := h8 i x y hx hy
        have hm := h6 x (List.mem_of_getElem? hx)
        rw [hrest x hm.1 hm.2.1 (fun he => by injection he with he1; exact hm.2.2 he1.symm)]
        exact hq
      · rw [List.getElem?_append_right hi] at hx
        rw [List.getElem?_append_right (by omega), ← h3] at hy
        cases hj : i - bs.length with
        | zero => rw [hj] at hx hy; simp at hx hy; subst hx; subst hy; exact ⟨hb, hr⟩
        | succ j => rw [hj] at hx; simp at hx
theorem MatE.put {h h' : H} {b ln n lo hi i c : Nat} {bs : List Nat} {mk : List (List (Int × Int))} {r : List (Int × Int)} (m : MatE h (.sl b 1 0 ln false) mk n lo hi) (hbs : h.blk b = .live 1 (bs.map (rowE n))) (hc : bs[i]? = some c) (hi' : i < mk.length)
    (hr : r.length = n) (hb : h'.blk c = .live 2 (r.map pD)) (hrest : ∀ x, x ≠ c → h'.blk x = h.blk x) : MatE h' (.sl b 1 0 ln false) (mk.set i r) n lo hi := by
  rcases m with ⟨_, hv⟩ | ⟨b', bs', ex', hv, h2, h3, h4, h5, h6, h7, h8⟩
  · cases hv
  · injection hv with e1 _ _ e2 _
    subst e1; subst e2
    have : bs' = bs := by
      rw [hbs] at h2
      injection h2 with _ h2
      have inj : ∀ (x y : List Nat), x.map (rowE n) = y.map (rowE n) → x = y := by
        intro x
        induction x with
        | nil => intro y hy; cases y with
          | nil => rfl
          | cons _ _ => simp at hy
        | cons a x ih => intro y hy; cases y with
          | nil => simp at hy
          | cons d y =>
            rw [List.map_cons, List.map_cons] at hy
            injection hy with hy1 hy2
            injection hy1 with hy1
            rw [hy1, ih y hy2]
      exact (inj _ _ h2).symm
    subst this
    have hcb : c ≠ b := (h6 c (List.mem_of_getElem? hc)).2.2
    refine .inr ⟨b, bs', (), by simp, by rw [hrest b (fun e => hcb e.symm)]; exact h2, by simp [h3], h4, h5, h6, h7, fun j x y hx hy => ?_⟩
    by_cases hj : j = i
    · subst hj
      rw [List.getElem?_set_self hi'] at hy
      rw [hc] at hx
      cases hx; cases hy
      exact ⟨hb, hr⟩
    · rw [List.getElem?_set_ne (fun e => hj e.symm)] at hy
      have hne : x ≠ c := fun e => by
        subst e
        have i1 : j < bs'.length := (List.getElem?_eq_some_iff.1 hx).1
        have := (List.getElem?_inj i1 h7).1 (hx.trans hc.symm)
        exact hj this
      rw [hrest x hne]
      exact h8 j x y hx hy
end Go.Eng.E3
namespace Go.Eng.E3
open Go Go.Eng Go.Proofs
set_option maxRecDepth 100000
attribute [local simp] execR runOps stepOp wantedD evalOp opd upd St.put Eff.apply upds looseOk FP.free FP.idle apart Eff.fp ofVal loadD storeD partD setPart indexAddrD isShift arith unD callOp mapO D.okc pickD buildable buildD placeD convD
set_option linter.unusedSimpArgs false
set_option maxHeartbeats 4000000
def SrcE (h : H) (w : D) (rows : List (List (Int × Int))) (n N : Nat) : Prop := w = .frz (rows.map rowD) .unk ∨ ∃ lo, MatE h w rows n lo N
theorem SrcE.frame {h h' : H} {w : D} {rows : List (List (Int × Int))} {n N : Nat} (s : SrcE h w rows n N) (e : ∀ x, x < N → h'.blk x = h.blk x) : SrcE h' w rows n N := by
  rcases s with s | ⟨lo, s⟩
  · exact .inl s
  · exact .inr ⟨lo, s.frame fun b _ hb => e b hb⟩
theorem mu49a : E.pol.mu 49 72 = true := by decide
theorem mu49b : E.pol.mu 49 32 = true := by decide
theorem cells_pairs (l : List (Int × Int)) : ∀ z ∈ l.map pD, z.cells.length = 2 := fun z hz => by
  obtain ⟨p, _, rfl⟩ := List.mem_map.1 hz; rfl
theorem appS72 {mu : TypeId → Bool} {s a : Nat} {blk : Nat → Blk} {l : List (Int × Int)} {tk : Tok} (hmu : mu 72 = true) (hl : l.length ≤ 64) (hb : blk a = .live 2 []) :
    builtinD E.T mu s blk .append [72, 72] [.sl a 2 0 0 true, .frz (l.map pD) tk] = some { v := .sl s 2 0 l.length false, wr := [(a, .dead), (s, .live 2 (l.map pD))], rd := [a] } := by
  have hn : l.length * 16 * 2 ≤ maxAppend := by simp only [maxAppend]; omega
  have := cells_pairs l
  simp only [builtinD, ok_72, desc_72, if_true, appendD, elem_72, elemsD, hmu, hb, size_55, bytes_55]
  rw [if_pos ⟨trivial, trivial, trivial, by omega, this, by simpa using hn, by decide, by decide, by simp⟩]
  simp
theorem appS72' {mu : TypeId → Bool} {s a c n : Nat} {blk : Nat → Blk} {l : List (Int × Int)} (hmu : mu 72 = true) (hl : l.length = n) (hn : n ≤ 64) (hb : blk a = .live 2 []) (hc : blk c = .live 2 (l.map pD)) (hac : a ≠ c) :
    builtinD E.T mu s blk .append [72, 72] [.sl a 2 0 0 true, .sl c 2 0 n false] = some { v := .sl s 2 0 n false, wr := [(a, .dead), (s, .live 2 (l.map pD))], rd := [a, c] } := by
  subst hl
  have hn : l.length * 16 * 2 ≤ maxAppend := by simp only [maxAppend]; omega
  have := cells_pairs l
  have htk : List.take l.length (l.map pD) = l.map pD := List.take_of_length_le (by simp)
  have he : elemsD blk (.sl c 2 0 l.length false) = some (l.map pD, [c]) := by simp [elemsD, hc, htk]
  simp only [builtinD, ok_72, desc_72, if_true, appendD, elem_72, he, hmu, hb, size_55, bytes_55]
  rw [if_pos ⟨trivial, trivial, trivial, by omega, this, by simpa using hn, by decide, by decide, by simpa using hac⟩]
  simp
theorem appS32 {mu : TypeId → Bool} {s d : Nat} {blk : Nat → Blk} {v : D} (hmu : mu 32 = true) (hv : v.cells.length = 1) (hb : blk d = .live 1 [v]) :
    builtinD E.T mu s blk .append [32, 32] [.frz [] .nil, .sl d 1 0 1 true] = some { v := .sl s 1 0 1 false, wr := [(s, .live 1 [v])], rd := [d] } := by
  simp [builtinD, appendD, elemsD, hmu, hb, hv, maxAppend]
theorem appS32' {mu : TypeId → Bool} {s b d n : Nat} {blk : Nat → Blk} {xs : List D} {v : D} (hmu : mu 32 = true) (hv : v.cells.length = 1) (hd : blk d = .live 1 [v]) (hb : blk b = .live 1 xs) (hn : xs.length = n) (hl : n ≤ 64) (hne : b ≠ d) :
    builtinD E.T mu s blk .append [32, 32] [.sl b 1 0 n false, .sl d 1 0 1 true] = some { v := .sl s 1 0 (n + 1) false, wr := [(b, .dead), (s, .live 1 (xs ++ [v]))], rd := [b, d] } := by
  subst hn
  have : (xs.length + 1) * 24 * 2 ≤ 140737488355328 := by omega
  simp [builtinD, appendD, elemsD, hmu, hb, hd, hv, maxAppend, this, hne]
theorem push49 {A : Nat → D} {h : H} {rows out : List (List (Int × Int))} {ins outs : Int} {n N i : Nat} {w w' : D} (h1 : A 1 = .ptr N 0 0) (h3 : A 3 = .ptr (N + 7) 0 0) (h4 : A 4 = .int .i64 i)
    (hb1 : h.blk N = .live 3 [.agg [.int .i64 ins, .int .i64 outs, w]]) (hb3 : h.blk (N + 7) = .live 3 [.agg [.int .i64 ins, .int .i64 outs, w']]) (hm : MatE h w' out n (N + 9) h.next) (hsrc : SrcE h w rows n N)
    (hi : i < rows.length) (hr : rows.length ≤ 64) (hol : out.length = i) (hn : n ≤ 16) (hrl : ∀ r ∈ rows, r.length = n) (hN : N + 9 ≤ h.next) :
    ∃ A' h' w'', execR E (callI E) 49 o49_5 [(1, 2), (1, 4), (2, 4), (1, 7), (2, 7), (1, 8), (1, 9)] ⟨A, h⟩ = some ⟨A', h'⟩ ∧ (∀ t, t < 5 → A' t = A t) ∧ h'.next = h.next + 13 ∧ (∀ x, x < N + 9 → x ≠ N + 7 → h'.blk x = h.blk x) ∧ h'.blk (N + 7) = .live 3 [.agg [.int .i64 ins, .int .i64 outs, w'']] ∧ MatE h' w'' (out ++ [rows[i]]) n (N + 9) h'.next := by
  have hlen : rows[i].length = n := hrl _ (List.getElem_mem hi)
  have hiI : (i : Int) < rows.length := by omega
  have hlen64 : n ≤ 64 := by omega
  have hb0 : upd h.blk (h.next + 2) (Blk.live 2 []) (h.next + 2) = .live 2 [] := by simp
  have ap1 : ∀ (l : List (Int × Int)) tk s, l.length = n → builtinD E.T (E.pol.mu 49) s (upd h.blk (h.next + 2) (Blk.live 2 [])) .append [72, 72] [.sl (h.next + 2) 2 0 0 true, .frz (l.map pD) tk] = some { v := .sl s 2 0 n false, wr := [(h.next + 2, .dead), (s, .live 2 (l.map pD))], rd := [h.next + 2] } := fun l tk s hl => by
    have := appS72 (tk := tk) (s := s) mu49a (show l.length ≤ 64 by omega) hb0
    rw [hl] at this; exact this
  have ap2 : ∀ c s, c < N → h.blk c = .live 2 (rows[i].map pD) → builtinD E.T (E.pol.mu 49) s (upd h.blk (h.next + 2) (Blk.live 2 [])) .append [72, 72] [.sl (h.next + 2) 2 0 0 true, .sl c 2 0 n false] = some { v := .sl s 2 0 n false, wr := [(h.next + 2, .dead), (s, .live 2 (rows[i].map pD))], rd := [h.next + 2, c] } := fun c s hc hcb =>
    appS72' (s := s) mu49a hlen hlen64 hb0 (by rw [upd_ne _ _ _ _ (by omega)]; exact hcb) (by omega)
  have ap3 : ∀ (blk0 : Nat → Blk) (v : D) d s, v.cells.length = 1 → builtinD E.T (E.pol.mu 49) s (upd blk0 d (.live 1 [v])) .append [32, 32] [.frz [] .nil, .sl d 1 0 1 true] = some { v := .sl s 1 0 1 false, wr := [(s, .live 1 [v])], rd := [d] } := fun blk0 v d s hv => appS32 mu49b hv (by simp)
  have a1 : ∀ j, ¬ N = h.next + j := by omega
  have a2 : ∀ j, ¬ N + 7 = h.next + j := by omega
  have a3 : ∀ j, ¬ h.next + j = N := by omega
  have a4 : ∀ j, ¬ h.next + j = N + 7 := by omega
  have tail : ∀ t, t < 5 → t ≠ 17 ∧ t ≠ 18 ∧ t ≠ 19 ∧ t ≠ 20 ∧ t ≠ 21 ∧ t ≠ 22 ∧ t ≠ 23 ∧ t ≠ 24 ∧ t ≠ 25 ∧ t ≠ 26 ∧ t ≠ 27 ∧ t ≠ 28 := by omega
  have hm' := hm
  rcases hm with ⟨rfl, rfl⟩ | ⟨b, bs, ex, rfl, g2, g3, g4, g5, g6, g7, g8⟩
  · have pushE : ∀ (h' : H), h'.next = h.next + 13 → h'.blk (h.next + 8) = .live 2 (rows[i].map pD) → h'.blk (h.next + 10) = .live 1 [rowE n (h.next + 8)] → MatE h' (.sl (h.next + 10) 1 0 1 false) ([] ++ [rows[i]]) n (N + 9) h'.next := fun h' e1 e2 e3 =>
      .inr ⟨h.next + 10, [h.next + 8], (), by simp, e3, rfl, by omega, by omega, fun c hc => by simp at hc; subst hc; omega, by simp, fun j c r hc hr => by
        cases j with
        | zero => simp at hc hr; subst hc; subst hr; exact ⟨e2, hlen⟩
        | succ j => simp at hc⟩
    rcases hsrc with rfl | ⟨lo, ⟨e0, _⟩ | ⟨sb, sbs, _, rfl, s2, s3, s4, s5, s6, s7, s8⟩⟩
    · refine ⟨_, _, .sl (h.next + 10) 1 0 1 false, by simp [pD, argA, lenD, o49_5, h1, h3, h4, hb1, hb3, hi, hiI, rowD, hlen, hlen64, a1, a2, a3, a4, snapDepth, mapK, mu49a, mu49b, ap1, ap3]; exact ⟨rfl, rfl⟩, ?_, ?_, ?_, ?_, pushE _ rfl ?_ ?_⟩
      · intro t ht; obtain ⟨q1, q2, q3, q4, q5, q6, q7, q8, q9, q10, q11, q12⟩ := tail t ht
        simp [upd, q1, q2, q3, q4, q5, q6, q7, q8, q9, q10, q11, q12]
      · rfl
      · intro x hx hx7; have e : ∀ j, ¬ x = h.next + j := by omega
        simp [upds, upd, e, hx7]
      · simp [upds, upd]
      · simp [upds, upd, a3, a4]
      · simp [upds, upd, a3, a4, rowE]
    · rw [e0] at hi; simp at hi
    · have hsi : i < sbs.length := by omega
      have hcm := s6 _ (List.getElem_mem hsi)
      have hcb := (s8 i sbs[i] rows[i] (List.getElem?_eq_getElem hsi) (List.getElem?_eq_getElem hi)).1
      have c1 := hcm.2.1
      have c2 : ∀ j, ¬ sbs[i] = h.next + j := by omega
      have c3 : ∀ j, ¬ sb = h.next + j := by omega
      have c4 : ∀ j, ¬ h.next + j = sb := by omega
      have c5 : ∀ j, ¬ h.next + j = sbs[i] := by omega
      refine ⟨_, _, .sl (h.next + 10) 1 0 1 false, by simp [pD, argA, lenD, o49_5, h1, h3, h4, hb1, hb3, hi, hiI, s2, hsi, rowE, hlen, hlen64, a1, a2, a3, a4, c1, c2, c3, c4, c5, hcb, snapDepth, mapK, mu49a, mu49b, ap2, ap3]; exact ⟨rfl, rfl⟩, ?_, ?_, ?_, ?_, pushE _ rfl ?_ ?_⟩
      · intro t ht; obtain ⟨q1, q2, q3, q4, q5, q6, q7, q8, q9, q10, q11, q12⟩ := tail t ht
        simp [upd, q1, q2, q3, q4, q5, q6, q7, q8, q9, q10, q11, q12]
      · rfl
      · intro x hx hx7; have e : ∀ j, ¬ x = h.next + j := by omega
        simp [upds, upd, e, hx7]
      · simp [upds, upd]
      · simp [upds, upd, a3, a4]
      · simp [upds, upd, a3, a4, rowE]
  · subst hol
    have ap4 : ∀ (blk0 : Nat → Blk) (v : D) d s, v.cells.length = 1 → ¬ b = d → blk0 b = .live 1 (bs.map (rowE n)) → builtinD E.T (E.pol.mu 49) s (upd blk0 d (.live 1 [v])) .append [32, 32] [.sl b 1 0 out.length false, .sl d 1 0 1 true] = some { v := .sl s 1 0 (out.length + 1) false, wr := [(b, .dead), (s, .live 1 (bs.map (rowE n) ++ [v]))], rd := [b, d] } := fun blk0 v d s hv hbd hbb =>
      appS32' mu49b hv (by simp) (by rw [upd_ne _ _ _ _ hbd]; exact hbb) (by simpa using g3) (by omega) hbd
    have b1 : ∀ j, ¬ b = h.next + j := by omega
    have b2 : ¬ b = N + 7 := by omega
    have b3 : ¬ N + 7 = b := by omega
    have b4 : ¬ b = N := by omega
    have b5 : ¬ N = b := by omega
    have b6 : ∀ j, ¬ h.next + j = b := by omega
    have pushE : ∀ (h' : H), h'.next = h.next + 13 → (∀ x, x < h.next → x ≠ b → x ≠ N + 7 → h'.blk x = h.blk x) → h'.blk (h.next + 8) = .live 2 (rows[out.length].map pD) → h'.blk (h.next + 10) = .live 1 (bs.map (rowE n) ++ [rowE n (h.next + 8)]) → MatE h' (.sl (h.next + 10) 1 0 (out.length + 1) false) (out ++ [rows[out.length]]) n (N + 9) h'.next := fun h' e1 e0 e2 e3 => by
      refine (hm'.push (c := h.next + 8) (s := h.next + 10) (r := rows[out.length]) (by omega) (by omega) (by omega) (by omega) hlen e2 ?_ ?_).wide (by omega)
      · intro x hx hx2 hne
        exact e0 x (by omega) (fun e => hne (by rw [e])) (by omega)
      · rw [e3]; simp only [g2]
    rcases hsrc with rfl | ⟨lo, ⟨e0, _⟩ | ⟨sb, sbs, _, rfl, s2, s3, s4, s5, s6, s7, s8⟩⟩
    · refine ⟨_, _, .sl (h.next + 10) 1 0 (out.length + 1) false, by simp [pD, argA, lenD, o49_5, h1, h3, h4, hb1, hb3, hi, hiI, rowD, hlen, hlen64, a1, a2, a3, a4, b1, b2, b3, b4, b5, b6, g2, g3, snapDepth, mapK, mu49a, mu49b, ap1, ap4]; exact ⟨rfl, rfl⟩, ?_, ?_, ?_, ?_, pushE _ rfl ?_ ?_ ?_⟩
      · intro t ht; obtain ⟨q1, q2, q3, q4, q5, q6, q7, q8, q9, q10, q11, q12⟩ := tail t ht
        simp [upd, q1, q2, q3, q4, q5, q6, q7, q8, q9, q10, q11, q12]
      · rfl
      · intro x hx hx7; have e : ∀ j, ¬ x = h.next + j := by omega
        have e2 : ¬ x = b := by omega
        simp [upds, upd, e, hx7, e2]
      · simp [upds, upd]
      · intro x hx hxb hx7; have e : ∀ j, ¬ x = h.next + j := by omega
        simp [upds, upd, e, hx7, hxb]
      · simp [upds, upd, a3, a4, b6]
      · simp [upds, upd, a3, a4, rowE]
    · rw [e0] at hi; simp at hi
    · have hsi : out.length < sbs.length := by omega
      have hcm := s6 _ (List.getElem_mem hsi)
      have hcb := (s8 out.length sbs[out.length] rows[out.length] (List.getElem?_eq_getElem hsi) (List.getElem?_eq_getElem hi)).1
      have c1 := hcm.2.1
      have c2 : ∀ j, ¬ sbs[out.length] = h.next + j := by omega
      have c3 : ∀ j, ¬ sb = h.next + j := by omega
      have c4 : ∀ j, ¬ h.next + j = sb := by omega
      have c5 : ∀ j, ¬ h.next + j = sbs[out.length] := by omega
      refine ⟨_, _, .sl (h.next + 10) 1 0 (out.length + 1) false, by simp [pD, argA, lenD, o49_5, h1, h3, h4, hb1, hb3, hi, hiI, s2, hsi, rowE, hlen, hlen64, a1, a2, a3, a4, b1, b2, b3, b4, b5, b6, g2, g3, c1, c2, c3, c4, c5, hcb, snapDepth, mapK, mu49a, mu49b, ap2, ap4]; exact ⟨rfl, rfl⟩, ?_, ?_, ?_, ?_, pushE _ rfl ?_ ?_ ?_⟩
      · intro t ht; obtain ⟨q1, q2, q3, q4, q5, q6, q7, q8, q9, q10, q11, q12⟩ := tail t ht
        simp [upd, q1, q2, q3, q4, q5, q6, q7, q8, q9, q10, q11, q12]
      · rfl
      · intro x hx hx7; have e : ∀ j, ¬ x = h.next + j := by omega
        have e2 : ¬ x = b := by omega
        simp [upds, upd, e, hx7, e2]
      · simp [upds, upd]
      · intro x hx hxb hx7; have e : ∀ j, ¬ x = h.next + j := by omega
        simp [upds, upd, e, hx7, hxb]
      · simp [upds, upd, a3, a4, b6]
      · simp [upds, upd, a3, a4, rowE]
structure I49 (c : M) (w : D) (h0 : H) (k : Nat) (st : St) : Prop where
  le : k ≤ c.rows.length
  h1 : st.A 1 = .ptr h0.next 0 0
  h2 : st.A 2 = .ptr (h0.next + 1) 0 0
  h3 : st.A 3 = .ptr (h0.next + 7) 0 0
  h4 : st.A 4 = .int .i64 ((c.rows.length - k : Nat) : Int)
  hb1 : st.h.blk h0.next = .live 3 [.agg [.int .i64 c.ins, .int .i64 c.outs, w]]
  hb2 : ∃ z, st.h.blk (h0.next + 1) = .live 3 [.agg [.int .i64 0, .int .i64 0, z]]
  hb3 : ∃ w', st.h.blk (h0.next + 7) = .live 3 [.agg [.int .i64 c.ins, .int .i64 c.outs, w']] ∧ MatE st.h w' (c.rows.take (c.rows.length - k)) c.ins (h0.next + 9) st.h.next
  old : ∀ x, x < h0.next → st.h.blk x = h0.blk x
  hn : h0.next + 9 ≤ st.h.next
theorem call49 {c : M} (hv : Shape c) {w : D} {h : H} (hs : SrcE h w c.rows c.ins h.next) : ∃ h' w', callI E (.fn 49 []) [.agg [.int .i64 c.ins, .int .i64 c.outs, w]] h = some (.agg [.int .i64 c.ins, .int .i64 c.outs, w'], h', { full := true }) ∧ MatE h' w' c.rows c.ins h.next h'.next ∧ h.next ≤ h'.next ∧ ∀ x, x < h.next → h'.blk x = h.blk x := by
  have i2 := hv.i2
  have r2 := hv.r2
  have key := body_V (P := fun v h' => ∃ w', v = .agg [.int .i64 c.ins, .int .i64 c.outs, w'] ∧ MatE h' w' c.rows c.ins h.next h'.next ∧ h.next ≤ h'.next ∧ ∀ x, x < h.next → h'.blk x = h.blk x) (run49 [.agg [.int .i64 c.ins, .int .i64 c.outs, w]] h (by simp)) (by
    have n1 : ∀ j, ¬ h.next = h.next + 2 + j := by omega
    have n2 : ¬ h.next = h.next + 2 + 5 := by omega
    have n3 : ¬ h.next + 1 = h.next + 2 + 5 := by omega
    have n4 : h.next + 2 + 5 = h.next + 7 := by omega
    unfold b49
    refine .then xr49_0 (by simp [o49_0, builtinD, lenD, pD, argA]; rfl) ?_
    refine .then xr49_1 (by simp [o49_1, builtinD, lenD, pD, argA, buildable, buildD, placeD, n1, n2, n3]; rfl) ?_
    refine .assoc (.then xr49_2 (by simp [o49_2, builtinD, lenD, pD, argA]; rfl) ?_)
    refine .seq (.block (V.count (I49 c w h) ?_ ?_ c.rows.length _ ⟨Nat.le_refl _, ?_, ?_, ?_, ?_, ?_, ⟨.frz [] .nil, ?_⟩, ⟨.frz [] .nil, ?_, ?_⟩, ?_, ?_⟩))
    · rintro k ⟨A, h1⟩ ⟨le, q1, q2, q3, q4, qb1, ⟨z, qb2⟩, ⟨w', qb3, qm⟩, old, hn⟩
      have hlt : c.rows.length - (k + 1) < c.rows.length := by omega
      generalize hi : c.rows.length - (k + 1) = i at *
      have hk' : c.rows.length - k = i + 1 := by omega
      have hwr : IntKind.i64.wrap ((i : Int) + 1) = ((i + 1 : Nat) : Int) := by rw [wrap_id] <;> omega
      have htk : c.rows.take (i + 1) = c.rows.take i ++ [c.rows[i]] := List.take_succ_eq_append_getElem hlt
      simp only at q1 q2 q3 q4 qb1 qb2 qb3 qm old hn
      rw [cl49_0]
      have sl1 : ∀ w, lenD E.T h1.blk 32 w = lenD E.T h1.blk 32 w := fun _ => rfl
      have hlen : lenD E.T h1.blk 32 w = some { v := .int .i64 c.rows.length } := by
        rcases hs with rfl | ⟨lo, ⟨e0, _⟩ | ⟨sb, sbs, _, rfl, _⟩⟩
        · simp [lenD]
        · rw [e0] at hlt; simp at hlt
        · simp [lenD]
      refine .assoc (.then (xr49_3) (by simp [pD, argA, builtinD, hlen, q1, q4, qb1, o49_3]; rfl) ?_)
      refine .head (by simp [opd, upd]; rfl) (fun _ => ?_) (fun hf => by simp [hlt] at hf)
      obtain ⟨A', h', w'', e1, e2, e3, e4, e5, e6⟩ := push49 (A := upd (upd (upd (upd (upd A 10 (.int .i64 i)) 11 (.ptr h.next 0 2)) 12 w) 13 (.int .i64 c.rows.length)) 14 (.bool (decide (i < c.rows.length)))) (h := ⟨h1.next + 5, h1.blk⟩) (rows := c.rows) (out := c.rows.take i) (n := c.ins) (N := h.next) (i := i) (w := w) (w' := w') (by simp [upd, q1]) (by simp [upd, q3]) (by simp [upd, q4]) qb1 qb3 (qm.nx _ (by simp)) (hs.frame (fun x hx => old x hx)) hlt r2 (by simp; omega) i2 hv.len (by simp; omega)
      refine .seq (.block (.reg xr49_5 e1 ?_))
      show V E 49 30 r49_4 _ _
      have p1 := (e2 1 (by omega)).trans (show _ = D.ptr h.next 0 0 by simp [upd, q1])
      have p2 := (e2 2 (by omega)).trans (show _ = D.ptr (h.next + 1) 0 0 by simp [upd, q2])
      have p3 := (e2 3 (by omega)).trans (show _ = D.ptr (h.next + 7) 0 0 by simp [upd, q3])
      have p4 := (e2 4 (by omega)).trans (show _ = D.int .i64 i by simp [upd, q4])
      simp only at e3 e4
      refine .reg xr49_4 (by simp [o49_4, builtinD, lenD, pD, argA, p4]; rfl) ⟨by omega, ?_, ?_, ?_, ?_, ?_, ⟨z, ?_⟩, ⟨w'', ?_, ?_⟩, ?_, ?_⟩
      · simp [upd, p1]
      · simp [upd, p2]
      · simp [upd, p3]
      · simp [upd, hk', hwr]
      · simpa [upds] using (e4 h.next (by omega) (by omega)).trans qb1
      · simpa [upds] using (e4 (h.next + 1) (by omega) (by omega)).trans qb2
      · simpa [upds] using e5
      · rw [hk', htk]
        simpa [upds] using e6.nx (h'.next + 3) (hi' := h'.next + 3) (by omega)
      · intro x hx
        simpa [upds] using (e4 x (by omega) (by omega)).trans (old x hx)
      · simp; omega
    · rintro ⟨A, h1⟩ ⟨le, q1, q2, q3, q4, qb1, ⟨z, qb2⟩, ⟨w', qb3, qm⟩, old, hn⟩
      simp only at q1 q2 q3 q4 qb1 qb2 qb3 qm old hn
      have hr1 := hv.r1
      have hlen : lenD E.T h1.blk 32 w = some { v := .int .i64 c.rows.length } := by
        rcases hs with rfl | ⟨lo, ⟨e0, _⟩ | ⟨sb, sbs, _, rfl, _⟩⟩
        · simp [lenD]
        · rw [e0] at hr1; simp at hr1
        · simp [lenD]
      rw [cl49_0]
      refine .assoc (.then (xr49_3) (by simp [pD, argA, builtinD, hlen, q1, q4, qb1, o49_3]; rfl) ?_)
      refine .head (by simp [opd, upd]; rfl) (fun hf => by simp at hf) (fun _ => ?_)
      have m1 : ¬ h.next + 7 = h.next + 1 := by omega
      refine .then xr49_6 (by simp [o49_6, builtinD, lenD, pD, argA, q2, q3, qb2, qb3]; rfl) (.ret ⟨.agg [.int .i64 c.ins, .int .i64 c.outs, w'], ?_, w', rfl, ?_, ?_, ?_⟩)
      · simp [resultsD, mapO, resultD, upd, q2, loadD, upds, partD]
      · rw [Nat.sub_zero, List.take_length] at qm
        refine (qm.frame (h' := _) (fun b hb1 hb2 => ?_)).lower (lo' := h.next) (by omega) |>.wide (by simp; omega)
        simp [upds, upd, show ¬ b = h.next + 1 by omega]
      · simp; omega
      · intro x hx
        simpa [upds, upd, show ¬ x = h.next + 1 by omega] using old x hx
    · simp [upd]
    · simp [upd]
    · simp [upd, n4]
    · simp [upd]
    · simp [upd, upds, n1, n2, n4]
    · simp [upd, upds, n3]
    · simp [upd, upds, n4]
    · exact .inl ⟨by simp, rfl⟩
    · intro x hx
      simp [upd, upds, show ¬ x = h.next by omega, show ¬ x = h.next + 1 by omega, show ¬ x = h.next + 2 + 5 by omega]
    · simp <;> omega)
  obtain ⟨v, h', e, w', rfl, e2, e3, e4⟩ := key
  refine ⟨h', w', ?_, e2, e3, e4⟩
  rw [callI_fn, if_neg (by decide)]
  simp [e]
end Go.Eng.E3
namespace Go.Eng.E3
open Go Go.Eng Go.Proofs
set_option maxRecDepth 100000
attribute [local simp] execR runOps stepOp wantedD evalOp opd upd St.put Eff.apply upds looseOk FP.free FP.idle apart Eff.fp ofVal loadD storeD partD setPart indexAddrD isShift arith unD callOp mapO D.okc pickD buildable buildD placeD convD
set_option linter.unusedSimpArgs false
set_option maxHeartbeats 4000000
def EdgeIn (n o : Nat) (e : Int × Int) : Prop := e = (-1, -1) ∨ (0 ≤ e.1 ∧ e.1 < n ∧ 0 ≤ e.2 ∧ e.2 < o)
theorem mu48a : E.pol.mu 48 72 = false := by decide
theorem mu48b : E.pol.mu 48 32 = false := by decide
def drawnM (st ins outs : Int) (p : Bool) (es : List Int) : D := .agg [.int .u8 st, .int .u8 ins, .int .u8 outs, .bool p, .frz (es.map (D.int .u16)) .unk]
structure F48 (d : D) (n ni no : Nat) (rows : List (List (Int × Int))) (s N : Nat) (st : St) : Prop where
  h1 : st.A 1 = .ptr 0 0 0
  h2 : st.A 2 = .ptr 1 0 0
  h3 : st.A 3 = .int .i64 n
  h4 : st.A 4 = .ptr 19 0 0
  h5 : st.A 5 = .int .i64 s
  hb : st.h.blk 0 = .live 5 [d]
  hz : ∃ z, st.h.blk 1 = .live 3 [.agg [.int .i64 0, .int .i64 0, z]]
  hr : ∃ tr, st.h.blk 19 = .live 3 [.agg [.int .i64 ni, .int .i64 no, .frz (rows.map rowD) tr]] ∧ TokB st.h.blk tr 1 N ∧ (tr = .nil ↔ s = 0)
  hN : 20 ≤ N
  hn : N ≤ st.h.next
theorem F48.step {d : D} {n ni no : Nat} {rows : List (List (Int × Int))} {s N : Nat} {A A' : Nat → D} {h h' : H} (f : F48 d n ni no rows s N ⟨A, h⟩) (e : ∀ t, t < 6 → A' t = A t) (hn : h.next ≤ h'.next) (hb : ∀ b, b < N → h'.blk b = h.blk b) : F48 d n ni no rows s N ⟨A', h'⟩ := by
  obtain ⟨q1, q2, q3, q4, q5, q7, ⟨z, q8⟩, ⟨tr, q9, q10, q11⟩, q12, q13⟩ := f
  simp only at q1 q2 q3 q4 q5 q7 q8 q9 q10 q13
  refine ⟨(e 1 (by omega)).trans q1, (e 2 (by omega)).trans q2, (e 3 (by omega)).trans q3, (e 4 (by omega)).trans q4, (e 5 (by omega)).trans q5, (hb 0 (by omega)).trans q7, ⟨z, (hb 1 (by omega)).trans q8⟩, ⟨tr, (hb 19 (by omega)).trans q9, ?_, q11⟩, q12, by simp only; omega⟩
  exact q10.mono (Nat.le_refl _) (fun b hb1 hb2 => (hb b hb1).trans hb2)
structure J48 (d : D) (n ni no : Nat) (rows : List (List (Int × Int))) (s N : Nat) (j : Nat) (st : St) : Prop where
  le : j ≤ ni
  f : F48 d n ni no rows s N st
  h6 : ∃ (row : List (Int × Int)) (t6 : Tok), st.A 6 = .frz (row.map pD) t6 ∧ T7 st.h.blk t6 N st.h.next ∧ row.length = ni - j ∧ ∀ e ∈ row, EdgeIn n no e
  h7 : st.A 7 = .int .i64 ((ni - j : Nat) : Int)
theorem loop48b {st ins outs : Int} {p : Bool} {es : List Int} {n ni no : Nat} {rows : List (List (Int × Int))} {s N : Nat} (hn6 : 1 ≤ n ∧ n ≤ 6) (hni3 : 1 ≤ ni ∧ ni ≤ 3) (hno3 : 1 ≤ no ∧ no ≤ 3) (hs : s ≤ 6) (he : ∀ e ∈ es, 0 ≤ e ∧ e < 65536) {Q : Po} (hQ : ∀ q, J48 (drawnM st ins outs p es) n ni no rows s N 0 q → Q.x 2 q) (j : Nat) (q : St) (hI : J48 (drawnM st ins outs p es) n ni no rows s N j q) :
    V E 48 87 (.loop l48_1) q Q := by
  refine V.count (J48 (drawnM st ins outs p es) n ni no rows s N) ?_ ?_ j q hI
  · rintro j ⟨A, h⟩ ⟨le, f, ⟨row, t6, h6, ht, hrl, hre⟩, h7⟩
    have hlt : ni - (j + 1) < ni := by omega
    generalize hi : ni - (j + 1) = i at *
    have hk' : ni - j = i + 1 := by omega
    have hwr : IntKind.i64.wrap ((i : Int) + 1) = ((i + 1 : Nat) : Int) := by rw [wrap_id] <;> omega
    have hsn : s * ni ≤ 6 * 3 := Nat.mul_le_mul hs hni3.2
    have w1 : IntKind.i64.wrap ((s : Int) * (ni : Int)) = ((s * ni : Nat) : Int) := by rw [← Int.natCast_mul]; exact wrap_id (by omega) (by omega)
    have w2 : IntKind.i64.wrap (((s * ni : Nat) : Int) + (i : Int)) = ((s * ni + i : Nat) : Int) := by rw [wrap_id] <;> omega
    have f0 := f
    obtain ⟨q1, q2, q3, q4, q5, qb, ⟨z, qz⟩, ⟨tr, qr, qtr, qtn⟩, qN, qn⟩ := f0
    simp only at q1 q2 q3 q4 q5 qb qz qr qtr qn h6 h7 ht
    generalize hkk : s * ni + i = kk at *
    generalize s * ni = sn at *
    have app : ∀ (s' : Nat) (blk : Nat → Blk) (x : Int × Int), TokB blk t6 2 s' → builtinD E.T (E.pol.mu 48) s' blk .append [72, 72] [.frz (row.map pD) t6, .frz [.agg [.int .i64 x.1, .int .i64 x.2]] .exact] = some { v := .frz (row.map pD ++ [.agg [.int .i64 x.1, .int .i64 x.2]]) (.own s' 2), wr := tokWr t6 s', rd := tokRd t6 } := fun s' blk x hx => by
      have := app72 (mu := E.pol.mu 48) (s := s') (blk := blk) (xs := row) (tk := t6) (tk' := .exact) (x := x) mu48a hx (by omega)
      simpa [pD] using this
    have last : ∀ (A2 : Nat → D) (nx c : Nat) (x : Int × Int) (Q : Po), h.next ≤ c → c < nx → (∀ t, t < 6 → A2 t = A t) → A2 7 = A 7 → A2 6 = .frz (row.map pD ++ [.agg [.int .i64 x.1, .int .i64 x.2]]) (.own c 2) → EdgeIn n no x → (∀ q, J48 (drawnM st ins outs p es) n ni no rows s N j q → Q.n q) →
        V E 48 87 r48_9 ⟨A2, ⟨nx, upds h.blk (tokWr t6 c)⟩⟩ Q := by
      intro A2 nx c x Q hc1 hc2 he2 e7 e6 hx hq
      have g7 := e7.trans h7
      refine .reg xr48_9 (by simp [o48_9, builtinD, lenD, pD, argA, g7]; rfl) (hq _ ⟨by omega, ?_, ⟨row ++ [x], .own c 2, ?_, ?_, by simp [hrl]; omega, ?_⟩, ?_⟩)
      · refine f.step (fun t ht => by rw [← he2 t ht]; simp [upd, show t ≠ 35 by omega, show t ≠ 36 by omega, show t ≠ 7 by omega]) (by simp; omega) (fun b hb => ?_)
        simp only [upds]
        rcases ht with rfl | ⟨o, rfl, oo, oN, on⟩
        · simp [tokWr, upds, upd, show ¬ b = c by omega]
        · simp [tokWr, upds, upd, show ¬ b = c by omega, show ¬ b = o by omega]
      · simp [upd, e6, pD]
      · refine .inr ⟨_, rfl, ?_, by omega, by simp; omega⟩
        simp only [upds]
        rcases ht with rfl | ⟨o, rfl, oo, oN, on⟩ <;> simp [tokWr, upds, upd]
      · intro e hem
        rcases List.mem_append.1 hem with hem | hem
        · exact hre e hem
        · simp at hem; subst hem; exact hx
      · simp [upd, hk', hwr]
    have rest : ∀ (A2 : Nat → D) (nx : Nat) (v : Int) (Q : Po), h.next ≤ nx → (∀ t, t < 8 → A2 t = A t) → A2 8 = .int .i64 v → 0 ≤ v → v < 65536 → (∀ q, J48 (drawnM st ins outs p es) n ni no rows s N j q → Q.n q) →
        V E 48 87 (.seq r48_14 (.cond (.tmp 60) r48_15 r48_16)) ⟨A2, ⟨nx, h.blk⟩⟩ ((Q.upto fun s' => V E 48 87 r48_9 s' Q).within 3) := by
      intro A2 nx v Q hnx he2 e8 v0 v1 hq
      have e1 := (he2 1 (by omega)).trans q1
      have e3 := (he2 3 (by omega)).trans q3
      have e4 := (he2 4 (by omega)).trans q4
      have e6 := (he2 6 (by omega)).trans h6
      have hn0 : ¬ (n : Int) = 0 := by omega
      have hno0 : ¬ (no : Int) = 0 := by omega
      have hnN : ¬ n = 0 := by omega
      have hnoN : ¬ no = 0 := by omega
      have hd4 : v.tdiv 4 = v / 4 := Int.tdiv_eq_ediv_of_nonneg v0
      have hq0 : 0 ≤ v / 4 := by omega
      have w3 : IntKind.i64.wrap (v / 4) = v / 4 := wrap_id (by omega) (by omega)
      have hdn : (v / 4).tdiv n = v / 4 / n := Int.tdiv_eq_ediv_of_nonneg hq0
      have hdn0 : 0 ≤ v / 4 / (n : Int) := Int.ediv_nonneg hq0 (by omega)
      have hdn1 : v / 4 / (n : Int) ≤ v / 4 := Int.ediv_le_self _ hq0
      have w4 : IntKind.i64.wrap (v / 4 / (n : Int)) = v / 4 / (n : Int) := wrap_id (by omega) (by omega)
      have hm1 : (v / 4).tmod n = v / 4 % n := Int.tmod_eq_emod_of_nonneg hq0
      have hm2 : (v / 4 / (n : Int)).tmod no = v / 4 / (n : Int) % no := Int.tmod_eq_emod_of_nonneg hdn0
      have hx : EdgeIn n no (v / 4 % n, v / 4 / (n : Int) % no) := .inr ⟨Int.emod_nonneg _ hn0, Int.emod_lt_of_pos _ (by omega), Int.emod_nonneg _ hno0, Int.emod_lt_of_pos _ (by omega)⟩
      have tk1 : ∀ k, TokB h.blk t6 2 (nx + k) := fun k => ht.tok.mono (by omega) (fun b _ hb => hb)
      have ha : ∀ k (x y : Int), builtinD E.T (E.pol.mu 48) (nx + k) h.blk .append [72, 72] [.frz (row.map pD) t6, .frz [.agg [.int .i64 x, .int .i64 y]] .exact] = some { v := .frz (row.map pD ++ [.agg [.int .i64 x, .int .i64 y]]) (.own (nx + k) 2), wr := tokWr t6 (nx + k), rd := tokRd t6 } := fun k x y => app (nx + k) h.blk (x, y) (tk1 k)
      have none15 : ∀ (A3 : Nat → D) (k : Nat), (∀ t, t < 9 → A3 t = A2 t) → V E 48 87 r48_15 ⟨A3, ⟨nx + k, h.blk⟩⟩ ((Q.upto fun s' => V E 48 87 r48_9 s' Q).within 3) := fun A3 k h3' => by
        have g6 := (h3' 6 (by omega)).trans e6
        refine .reg xr48_15 (by simp [o48_15, pD, argA, g6, Nat.add_assoc, ha, mu48a, mapK, snapDepth, snap_int, snap, kills, buildable, buildD, placeD]; rfl) ?_
        refine last _ _ (nx + (k + 3)) (-1, -1) Q (by omega) (by omega) (fun t ht => ?_) ?_ ?_ (.inl rfl) hq
        · rw [← he2 t (by omega), ← h3' t (by omega)]; simp [upd, show t ≠ 6 by omega, show ∀ c, 61 ≤ c → ¬ t = c from fun c h => by omega]
        · rw [← he2 7 (by omega), ← h3' 7 (by omega)]; simp [upd]
        · simp [upd]
      have some16 : ∀ (A3 : Nat → D) (k : Nat), (∀ t, t < 9 → A3 t = A2 t) → V E 48 87 r48_16 ⟨A3, ⟨nx + k, h.blk⟩⟩ ((Q.upto fun s' => V E 48 87 r48_9 s' Q).within 3) := fun A3 k h3' => by
        have g6 := (h3' 6 (by omega)).trans e6
        have g8 := (h3' 8 (by omega)).trans e8
        have g3 := (h3' 3 (by omega)).trans e3
        have g4 := (h3' 4 (by omega)).trans e4
        refine .reg xr48_16 (by simp [o48_16, pD, argA, g6, g8, g3, g4, qr, hn0, hno0, hnN, hnoN, hd4, w3, hdn, w4, hm1, hm2, Nat.add_assoc, ha, mu48a, mapK, snapDepth, snap_int, snap, kills, buildable, buildD, placeD]; rfl) ?_
        refine last _ _ (nx + (k + 14)) (v / 4 % n, v / 4 / (n : Int) % no) Q (by omega) (by omega) (fun t ht => ?_) ?_ ?_ hx hq
        · rw [← he2 t (by omega), ← h3' t (by omega)]; simp [upd, show t ≠ 6 by omega, show ∀ c, 65 ≤ c → ¬ t = c from fun c h => by omega]
        · rw [← he2 7 (by omega), ← h3' 7 (by omega)]; simp [upd]
        · simp [upd]
      cases p with
      | false =>
        refine .then xr48_14 (by simp [o48_14, builtinD, lenD, pD, argA, e1, e8, qb, drawnM]; rfl) ?_
        refine .cond (v := false) (by simp [opd, upd]) (fun x => by cases x) (fun _ => ?_)
        exact some16 _ 7 (fun t ht => by simp [upd, show ∀ c, 54 ≤ c → ¬ t = c from fun c h => by omega])
      | true =>
        refine .then xr48_14 (by simp [o48_14, builtinD, lenD, pD, argA, e1, e8, qb, drawnM]; rfl) ?_
        refine .cond (v := (v.tmod 4 == 3)) (by simp [opd, upd]) (fun _ => ?_) (fun _ => ?_)
        · exact none15 _ 7 (fun t ht => by simp [upd, show ∀ c, 54 ≤ c → ¬ t = c from fun c h => by omega])
        · exact some16 _ 7 (fun t ht => by simp [upd, show ∀ c, 54 ≤ c → ¬ t = c from fun c h => by omega])
    rw [cl48_1]
    refine .assoc (.then xr48_8 (by simp [o48_8, builtinD, lenD, pD, argA, q4, qr, h7]; rfl) ?_)
    refine .head (by simp [opd, upd]; rfl) (fun _ => ?_) (fun hf => by simp [hlt] at hf)
    refine .seq (.block (.then xr48_10 (by simp [o48_10, builtinD, lenD, pD, argA]; rfl) ?_))
    refine .assoc (.then xr48_11 (by simp [o48_11, builtinD, lenD, pD, argA, q4, q5, qr, h7, w1, w2]; rfl) ?_)
    refine .assoc (.then xr48_12 (by simp [o48_12, builtinD, lenD, pD, argA, q1, qb, drawnM]; rfl) ?_)
    by_cases hke : kk < es.length
    · have hei := he _ (List.getElem_mem hke)
      have hkI : (kk : Int) < es.length := by omega
      have w5 : IntKind.i64.wrap es[kk] = es[kk] := wrap_id (by omega) (by omega)
      refine .seq (.cond (v := true) (by simp [opd, upd, hke]) (fun _ => ?_) (fun x => by cases x))
      refine .reg xr48_13 (by simp [o48_13, builtinD, lenD, pD, argA, q1, qb, drawnM, hke, hkI, convD, w5]; rfl) ?_
      refine rest _ _ es[kk] _ (by omega) (fun t ht => ?_) (by simp [upd]) hei.1 hei.2 (fun q hq => hq)
      simp [upd, show t ≠ 8 by omega, show t ≠ 9 by omega, show ∀ c, 31 ≤ c → ¬ t = c from fun c h => by omega]
    · refine .seq (.cond (v := false) (by simp [opd, upd]; omega) (fun x => by cases x) (fun _ => .skip ?_))
      refine rest _ _ 0 _ (by omega) (fun t ht => ?_) (by simp [upd]) (by omega) (by omega) (fun q hq => hq)
      simp [upd, show t ≠ 8 by omega, show t ≠ 9 by omega, show ∀ c, 31 ≤ c → ¬ t = c from fun c h => by omega]
  · rintro ⟨A, h⟩ ⟨le, f, ⟨row, t6, h6, ht, hrl, hre⟩, h7⟩
    have f0 := f
    obtain ⟨q1, q2, q3, q4, q5, qb, ⟨z, qz⟩, ⟨tr, qr, qtr, qtn⟩, qN, qn⟩ := f0
    simp only at q4 qr h6 h7 ht
    rw [cl48_1]
    refine .assoc (.then xr48_8 (by simp [o48_8, builtinD, lenD, pD, argA, q4, qr, h7]; rfl) ?_)
    refine .head (by simp [opd, upd]; rfl) (fun hf => by simp at hf) (fun _ => hQ _ ⟨by omega, ?_, ⟨row, t6, ?_, ?_, hrl, hre⟩, ?_⟩)
    · exact f.step (fun t ht => by simp [upd, show ∀ c, 31 ≤ c → ¬ t = c from fun c h => by omega]) (by simp) (fun _ _ => rfl)
    · simp [upd, h6]
    · rcases ht with x | ⟨o, x1, x2, x3, x4⟩
      · exact .inl x
      · exact .inr ⟨o, x1, x2, x3, by simp only; omega⟩
    · simp [upd, h7]
end Go.Eng.E3
namespace Go.Eng.E3
open Go Go.Eng Go.Proofs
set_option maxRecDepth 100000
attribute [local simp] execR runOps stepOp wantedD evalOp opd upd St.put Eff.apply upds looseOk FP.free FP.idle apart Eff.fp ofVal loadD storeD partD setPart indexAddrD isShift arith unD callOp mapO D.okc pickD buildable buildD placeD convD
set_option linter.unusedSimpArgs false
set_option maxHeartbeats 4000000
structure I48 (d : D) (n ni no : Nat) (k : Nat) (q : St) : Prop where
  le : k ≤ n
  ex : ∃ rows : List (List (Int × Int)), rows.length = n - k ∧ (∀ r ∈ rows, r.length = ni ∧ ∀ e ∈ r, EdgeIn n no e) ∧ F48 d n ni no rows (n - k) q.h.next q
theorem spec48 {st ins outs : Int} {p : Bool} {es : List Int} (h1 : 0 ≤ st ∧ st < 256) (h2 : 0 ≤ ins ∧ ins < 256) (h3 : 0 ≤ outs ∧ outs < 256) (he : ∀ e ∈ es, 0 ≤ e ∧ e < 65536) :
    ∃ m : M, Valid m ∧ m.rows.length ≤ 6 ∧ (m.ins : Int) = 1 + ins % 3 ∧ (m.outs : Int) = 1 + outs % 3 ∧ bodyR 48 [drawnM st ins outs p es] = some (encM m) := by
  obtain ⟨n, hn⟩ : ∃ n : Nat, (n : Int) = 1 + st.tmod 6 := ⟨(1 + st.tmod 6).toNat, by rw [Int.tmod_eq_emod_of_nonneg h1.1]; omega⟩
  obtain ⟨ni, hni⟩ : ∃ n : Nat, (n : Int) = 1 + ins.tmod 3 := ⟨(1 + ins.tmod 3).toNat, by rw [Int.tmod_eq_emod_of_nonneg h2.1]; omega⟩
  obtain ⟨no, hno⟩ : ∃ n : Nat, (n : Int) = 1 + outs.tmod 3 := ⟨(1 + outs.tmod 3).toNat, by rw [Int.tmod_eq_emod_of_nonneg h3.1]; omega⟩
  have hn6 : 1 ≤ n ∧ n ≤ 6 := by rw [Int.tmod_eq_emod_of_nonneg h1.1] at hn; omega
  have hni3 : 1 ≤ ni ∧ ni ≤ 3 := by rw [Int.tmod_eq_emod_of_nonneg h2.1] at hni; omega
  have hno3 : 1 ≤ no ∧ no ≤ 3 := by rw [Int.tmod_eq_emod_of_nonneg h3.1] at hno; omega
  have w1 : IntKind.i64.wrap (st.tmod 6) = st.tmod 6 := wrap_id (by omega) (by omega)
  have w2 : IntKind.i64.wrap (ins.tmod 3) = ins.tmod 3 := wrap_id (by omega) (by omega)
  have w3 : IntKind.i64.wrap (outs.tmod 3) = outs.tmod 3 := wrap_id (by omega) (by omega)
  have w4 : IntKind.i64.wrap (1 + st.tmod 6) = (n : Int) := by rw [hn]; exact wrap_id (by omega) (by omega)
  have w5 : IntKind.i64.wrap (1 + ins.tmod 3) = (ni : Int) := by rw [hni]; exact wrap_id (by omega) (by omega)
  have w6 : IntKind.i64.wrap (1 + outs.tmod 3) = (no : Int) := by rw [hno]; exact wrap_id (by omega) (by omega)
  have key : V E 48 87 b48 ⟨argA [drawnM st ins outs p es], H.empty⟩ ⟨fun _ => False, fun s => ∃ rows : List (List (Int × Int)), rows.length = n ∧ (∀ r ∈ rows, r.length = ni ∧ ∀ e ∈ r, EdgeIn n no e) ∧ s.A 2 = .ptr 1 0 0 ∧ ∃ tr, s.h.blk 1 = .live 3 [.agg [.int .i64 ni, .int .i64 no, .frz (rows.map rowD) tr]] ∧ ∃ o, tr = .own o 1, fun _ _ => False, fun _ _ => False⟩ := by
    unfold b48
    refine .then xr48_0 (by simp [o48_0, builtinD, lenD, pD, argA, drawnM]; rfl) ?_
    refine .then xr48_1 (by simp [o48_1, builtinD, lenD, pD, argA, convD, w1, w4]; rfl) ?_
    refine .then xr48_2 (by simp [o48_2, builtinD, lenD, pD, argA, convD, w2, w3, w5, w6, buildable, buildD, placeD]; rfl) ?_
    refine .assoc (.then xr48_3 (by simp [o48_3, builtinD, lenD, pD, argA]; rfl) ?_)
    refine .seq (.block (V.count (I48 (drawnM st ins outs p es) n ni no) ?_ ?_ n _ ⟨Nat.le_refl _, [], by simp, by simp, ⟨?_, ?_, ?_, ?_, ?_, ?_, ⟨.frz [] .nil, ?_⟩, ⟨.nil, ?_, .inl rfl, by simp⟩, ?_, ?_⟩⟩))
    · rintro k ⟨A, h⟩ ⟨le, rows, hrl, hre, f⟩
      have hlt : n - (k + 1) < n := by omega
      generalize hi : n - (k + 1) = i at *
      have hk' : n - k = i + 1 := by omega
      have hwr : IntKind.i64.wrap ((i : Int) + 1) = ((i + 1 : Nat) : Int) := by rw [wrap_id] <;> omega
      have h3' := f.h3
      have h5' := f.h5
      simp only at h3' h5' f
      rw [cl48_0]
      refine .assoc (.then xr48_4 (by simp [o48_4, builtinD, lenD, pD, argA, h3', h5']; rfl) ?_)
      refine .head (by simp [opd, upd]; rfl) (fun _ => ?_) (fun hf => by simp [hlt] at hf)
      refine .seq (.block (.then xr48_6 (by simp [o48_6, builtinD, lenD, pD, argA]; rfl) ?_))
      refine .assoc (.then xr48_7 (by simp [o48_7, builtinD, lenD, pD, argA]; rfl) ?_)
      refine .seq (.block (loop48b (st := st) (ins := ins) (outs := outs) (p := p) (es := es) (rows := rows) (s := i) (N := h.next) hn6 hni3 hno3 (by omega) he ?_ ni _ ⟨Nat.le_refl _, ?_, ⟨[], .nil, ?_, .inl rfl, by simp, by simp⟩, ?_⟩))
      · rintro ⟨A1, h1'⟩ ⟨_, f1, ⟨row, t6, g6, gt, grl, gre⟩, g7⟩
        obtain ⟨q1, q2, q3, q4, q5, qb, ⟨z, qz⟩, ⟨tr, qr, qtr, qtn⟩, qN, qn⟩ := f1
        simp only at g6 gt q1 q2 q3 q4 q5 qb qz qr qtr qn
        have htr1 : TokB h1'.blk tr 1 h1'.next := qtr.mono qn (fun b _ hb => hb)
        have hsn : ∀ blk, snap false blk 9 (.frz (row.map pD) t6) = some (.frz (row.map pD) .unk, []) := fun blk => by
          rw [show (9 : Nat) = 6 + 3 from rfl, snap_pairs]
          rcases gt with rfl | ⟨o, rfl, _, _, _⟩ <;> rfl
        have ha : ∀ s, builtinD E.T (E.pol.mu 48) s h1'.blk .append [32, 32] [.frz (rows.map rowD) tr, .frz [.frz (row.map pD) .unk] .exact] = some { v := .frz (rows.map rowD ++ [rowD row]) (.own s 1), wr := tokWr tr s, rd := tokRd tr } := fun s => by
          have := app32 (mu := E.pol.mu 48) (s := s) (blk := h1'.blk) (xs := rows) (tk := tr) (tk' := .exact) (x := row) mu48b htr1 (by omega)
          simpa using this
        have hk13 : ∀ s, ¬ 19 = s → upds h1'.blk (tokWr tr s) 19 = h1'.blk 19 := fun s hs => tokWr_keep htr1 (by rw [qr]; simp) hs
        have hk0 : ∀ s, ¬ 0 = s → upds h1'.blk (tokWr tr s) 0 = h1'.blk 0 := fun s hs => tokWr_keep htr1 (by rw [qb]; simp) hs
        have hk1 : ∀ s, ¬ 1 = s → upds h1'.blk (tokWr tr s) 1 = h1'.blk 1 := fun s hs => tokWr_keep htr1 (by rw [qz]; simp) hs
        have e13 := (hk13 (h1'.next + 4) (by omega)).trans qr
        show V E 48 87 r48_17 _ _
        refine .reg xr48_17 (by simp [o48_17, pD, argA, q4, qr, g6, ha, hsn, e13, mu48b, mapK, snapDepth, kills]; rfl) ?_
        show V E 48 87 r48_5 _ _
        refine .reg xr48_5 (by simp [o48_5, builtinD, lenD, pD, argA, q5]; rfl) ⟨by omega, rows ++ [row], by simp [hrl, hk'], ?_, ⟨?_, ?_, ?_, ?_, ?_, ?_, ⟨z, ?_⟩, ⟨.own (h1'.next + 4) 1, ?_, ?_, by simp; omega⟩, ?_, ?_⟩⟩
        · intro r hr
          rcases List.mem_append.1 hr with hr | hr
          · exact hre r hr
          · simp at hr; subst hr; exact ⟨by omega, gre⟩
        · simp [upd, q1]
        · simp [upd, q2]
        · simp [upd, q3]
        · simp [upd, q4]
        · simp [upd, hk', hwr]
        · simpa [upd, upds] using (hk0 (h1'.next + 4) (by omega)).trans qb
        · simpa [upd, upds] using (hk1 (h1'.next + 4) (by omega)).trans qz
        · simp [upd, upds]
        · refine .inr ⟨_, rfl, ?_, by simp <;> omega⟩
          have hg := TokB.grow (blk := h1'.blk) (tk := tr) (e := 1) (s := h1'.next + 4) (nx := h1'.next + 5) (by omega)
          rcases hg with hg | ⟨o, hg1, hg2, _⟩
          · cases hg
          · cases hg1
            simpa [upd, upds, show ¬ h1'.next + 4 = 19 by omega] using hg2
        · simp <;> omega
        · simp
      · exact f.step (fun t ht => by simp [upd, show t ≠ 6 by omega, show t ≠ 7 by omega, show ∀ c, 26 ≤ c → ¬ t = c from fun c h => by omega]) (by simp only; omega) (fun _ _ => rfl)
      · simp [upd]
      · simp [upd]
    · rintro ⟨A, h⟩ ⟨le, rows, hrl, hre, f⟩
      obtain ⟨q1, q2, q3, q4, q5, qb, ⟨z, qz⟩, ⟨tr, qr, qtr, qtn⟩, qN, qn⟩ := f
      simp only at q1 q2 q3 q4 q5 qb qz qr qtr qn
      rw [cl48_0]
      refine .assoc (.then xr48_4 (by simp [o48_4, builtinD, lenD, pD, argA, q3, q5]; rfl) ?_)
      refine .head (by simp [opd, upd]; rfl) (fun hf => by simp at hf) (fun _ => ?_)
      refine .then xr48_18 (by simp [o48_18, builtinD, lenD, pD, argA, q2, q4, qr, qz]; rfl) (.ret ⟨rows, by simpa using hrl, hre, by simp [upd, q2], tr, by simp [upd, upds], ?_⟩)
      rcases qtr with rfl | ⟨o, rfl, _, _⟩
      · have := qtn.1 rfl; omega
      · exact ⟨o, rfl⟩
    · simp [upd]
    · simp [upd]
    · simp [upd]
    · simp [upd]
    · simp [upd]
    · simp [upd, upds, drawnM]
    · simp [upd, upds]
    · simp [upd, upds]
    · simp
    · simp
  obtain ⟨x, s', e1, e2⟩ := key
  cases x with
  | normal => exact e2.elim
  | exit i => exact e2.elim
  | goto l => exact e2.elim
  | ret =>
    obtain ⟨rows, hrl, hre, a2, tr, hb, o, rfl⟩ := e2
    refine ⟨⟨ni, no, rows⟩, ⟨by simp only; omega, by simp only; omega, by simp only; omega, by simp only; omega, by simp only; omega, by simp only; omega, fun r hr => (hre r hr).1, fun r hr e hem => ?_⟩, by simp only; omega, ?_, ?_, ?_⟩
    · have := (hre r hr).2 e hem
      unfold EdgeOk
      rw [hrl]
      exact this
    · simp only; rw [hni, Int.tmod_eq_emod_of_nonneg h2.1]
    · simp only; rw [hno, Int.tmod_eq_emod_of_nonneg h3.1]
    · refine bodyR_V (run48 _ _ (by simp)) ⟨_, _, e1, ⟨.agg [.int .i64 ni, .int .i64 no, .frz (rows.map rowD) (.own o 1)], by simp [resultsD, mapO, resultD, a2, loadD, hb, partD], ?_⟩⟩
      show Option.map _ (match mapK (snap true s'.h.blk 8) [.int .i64 ni, .int .i64 no, .frz (rows.map rowD) (.own o 1)] with | some (ys, k) => some (D.agg ys, k) | none => none) = _
      have : snap true s'.h.blk 8 (.frz (rows.map rowD) (.own o 1)) = some (.frz (rows.map rowD) .unk, []) := by
        show (match mapK (snap false s'.h.blk 7) (rows.map rowD) with | some (ys, k) => some (D.frz ys (Tok.fade true (.own o 1)), k) | none => none) = _
        rw [mapK_map rows fun x _ => snap_rowD false s'.h.blk 4 x]
        rfl
      simp only [mapK, this]
      rfl
end Go.Eng.E3
namespace Go.Eng.E3
open Go Go.Eng Go.Proofs
set_option maxRecDepth 100000
attribute [local simp] execR runOps stepOp wantedD evalOp opd upd St.put Eff.apply upds looseOk FP.free FP.idle apart Eff.fp ofVal loadD storeD partD setPart indexAddrD isShift arith unD callOp mapO D.okc pickD buildable buildD placeD convD
set_option linter.unusedSimpArgs false
set_option linter.unusedVariables false
set_option maxHeartbeats 4000000
def IL (h : H) (v : D) (l : List Int) (lo hi : Nat) : Prop := (l = [] ∧ v = .frz [] .nil) ∨ ∃ b ex, v = .sl b 1 0 l.length ex ∧ h.blk b = .live 1 (l.map (D.int .i64)) ∧ lo ≤ b ∧ b < hi
theorem IL.frame {h h' : H} {v : D} {l : List Int} {lo hi hi' : Nat} (m : IL h v l lo hi) (e : ∀ b, lo ≤ b → b < hi → h'.blk b = h.blk b) (hh : hi ≤ hi') : IL h' v l lo hi' := by
  rcases m with m | ⟨b, ex, h1, h2, h3, h4⟩
  · exact .inl m
  · exact .inr ⟨b, ex, h1, by rw [e b h3 h4]; exact h2, h3, by omega⟩
theorem app62s0 {mu : TypeId → Bool} {s c : Nat} {blk : Nat → Blk} {x : D} {ex : Bool} (hmu : mu 62 = true) (hc : blk c = .live 1 [x]) (hx : x.cells.length = 1) :
    builtinD E.T mu s blk .append [62, 62] [.frz [] .nil, .sl c 1 0 1 ex] = some { v := .sl s 1 0 1 false, wr := [(s, .live 1 [x])], rd := [c] } := by
  simp only [builtinD, ok_62, desc_62, if_true, appendD, elem_62, elemsD, hc, row_live, hmu, size_3, bytes_3]
  simp [hx, maxAppend]
theorem app62s1 {mu : TypeId → Bool} {s b c n : Nat} {blk : Nat → Blk} {x : D} {ex ex' : Bool} {xs : List D} (hc : blk c = .live 1 [x]) (hx : x.cells.length = 1) (hb : blk b = .live 1 xs) (hn : n = xs.length) (hbc : b ≠ c) (hl : n < 2 ^ 39) :
    builtinD E.T mu s blk .append [62, 62] [.sl b 1 0 n ex', .sl c 1 0 1 ex] = some { v := .sl s 1 0 (n + 1) false, wr := [(b, .dead), (s, .live 1 (xs ++ [x]))], rd := [b, c] } := by
  have hle : (n + 1) * 8 * 2 ≤ maxAppend := by unfold maxAppend; omega
  simp only [builtinD, ok_62, desc_62, if_true, appendD, elem_62, elemsD, hc, hb, row_live, size_3, bytes_3]
  simp [hx, hle, hn, hbc]
  omega
structure F17 (a : M) (d : D) (to : List Int) (T : Nat) (st : St) : Prop where
  h1 : st.A 1 = .ptr 0 0 0
  h2 : st.A 2 = .ptr 1 0 0
  h3 : st.A 3 = .ptr 2 0 0
  h4 : st.A 4 = .ptr 6 0 0
  h5 : st.A 5 = .int .i64 a.rows.length
  b0 : st.h.blk 0 = .live 17 [d]
  b1 : ∃ z, st.h.blk 1 = .live 3 [.agg [.int .i64 0, .int .i64 0, z]]
  b2 : ∃ z, st.h.blk 2 = .live 3 [.agg [.int .i64 0, .int .i64 0, z]]
  b6 : st.h.blk 6 = .live 3 [encM a]
  ht : IL st.h (st.A 6) to 7 T
  rg : ∀ x ∈ to, 0 ≤ x ∧ x < a.rows.length
  hT : 8 ≤ T
  hn : T ≤ st.h.next
theorem F17.step {a : M} {d : D} {to : List Int} {T T' : Nat} {A A' : Nat → D} {h h' : H} (f : F17 a d to T ⟨A, h⟩) (e : ∀ t, t < 7 → A' t = A t) (hb : ∀ b, b < T → h'.blk b = h.blk b) (ht : T ≤ T') (hn : T' ≤ h'.next) : F17 a d to T' ⟨A', h'⟩ := by
  obtain ⟨q1, q2, q3, q4, q5, r0, ⟨z1, r1⟩, ⟨z2, r2⟩, r6, m, rg, hT, hn'⟩ := f
  simp only at q1 q2 q3 q4 q5 r0 r1 r2 r6 m hn'
  refine ⟨(e 1 (by omega)).trans q1, (e 2 (by omega)).trans q2, (e 3 (by omega)).trans q3, (e 4 (by omega)).trans q4, (e 5 (by omega)).trans q5, (hb 0 (by omega)).trans r0, ⟨z1, (hb 1 (by omega)).trans r1⟩, ⟨z2, (hb 2 (by omega)).trans r2⟩, (hb 6 (by omega)).trans r6, ?_, rg, by omega, hn⟩
  simp only [e 6 (by omega)]
  exact m.frame (fun b _ hb' => hb b hb') ht
theorem mu17 : E.pol.mu 17 62 = true := by decide
structure I17a (a : M) (d : D) (k : Nat) (st : St) : Prop where
  le : k ≤ a.rows.length
  ex : ∃ to, F17 a d to st.h.next st ∧ to.length = a.rows.length - k
  h7 : st.A 7 = .int .i64 ((a.rows.length - k : Nat) : Int)
theorem loop17a {a : M} (hv : Valid a) {d : D} {Q : Po} (hQ : ∀ st, I17a a d 0 st → Q.x 0 st) (k : Nat) (st : St) (hI : I17a a d k st) : V E 17 144 (.loop l17_0) st Q := by
  have r2 := hv.r2
  refine V.count (I17a a d) ?_ ?_ k st hI
  · rintro k ⟨A, h⟩ ⟨le, ⟨to, f, hl⟩, h7⟩
    have hlt : a.rows.length - (k + 1) < a.rows.length := by omega
    generalize hi : a.rows.length - (k + 1) = i at *
    have hk' : a.rows.length - k = i + 1 := by omega
    have hwr : IntKind.i64.wrap ((i : Int) + 1) = ((i + 1 : Nat) : Int) := by rw [wrap_id] <;> omega
    obtain ⟨h1, h2, h3, h4, h5, b0, b1, b2, b6, ht, rg, hT, hn⟩ := id f
    simp only at h1 h2 h3 h4 h5 b0 b1 b2 b6 ht hT h7
    rw [cl17_0]
    refine .assoc (.then xr17_8 (by simp [o17_8, builtinD, lenD, pD, argA, h5, h7, hlt]; rfl) ?_)
    refine .head (v := true) (by simp [opd, upd]) (fun _ => ?_) (fun q => by cases q)
    have fin : ∀ (A2 : Nat → D) (h2 : H), (∀ t, t < 6 ∨ t = 7 → A2 t = A t) → (∀ b, b < h.next → (∀ n ex, A 6 ≠ .sl b 1 0 n ex) → h2.blk b = h.blk b) → h.next ≤ h2.next → IL h2 (A2 6) (to ++ [(i : Int)]) 7 h2.next → V E 17 144 r17_9 ⟨A2, h2⟩ (Q.upto (I17a a d k)) := by
      intro A2 h2' eA eb hnx hil
      have nb : ∀ b, b < 7 → h2'.blk b = h.blk b := fun b hb => by
        refine eb b (by omega) (fun n ex e => ?_)
        rcases ht with ⟨_, e'⟩ | ⟨tb, ex', e', _, q, _⟩
        · rw [e'] at e; cases e
        · rw [e'] at e; injection e with e1; omega
      have e7 := (eA 7 (by omega)).trans h7
      obtain ⟨z1, b1⟩ := b1
      obtain ⟨z2, b2⟩ := b2
      refine .reg xr17_9 (by simp [o17_9, builtinD, lenD, pD, argA, e7]; rfl) ⟨by omega, ⟨to ++ [(i : Int)], ⟨?_, ?_, ?_, ?_, ?_, ?_, ⟨z1, ?_⟩, ⟨z2, ?_⟩, ?_, ?_, ?_, ?_, Nat.le_refl _⟩, by simp [hl, hk']⟩, ?_⟩
      · simp [upd, eA, h1]
      · simp [upd, eA, h2]
      · simp [upd, eA, h3]
      · simp [upd, eA, h4]
      · simp [upd, eA, h5]
      · simpa [upds] using (nb 0 (by omega)).trans b0
      · simpa [upds] using (nb 1 (by omega)).trans b1
      · simpa [upds] using (nb 2 (by omega)).trans b2
      · simpa [upds] using (nb 6 (by omega)).trans b6
      · rcases hil with ⟨e1, _⟩ | ⟨tb, ex, e1, e2, e3, e4⟩
        · simp at e1
        · exact .inr ⟨tb, ex, by simpa [upd] using e1, by simpa [upds] using e2, e3, by simp; omega⟩
      · intro x hx
        rcases List.mem_append.1 hx with hx | hx
        · exact rg x hx
        · simp at hx; subst hx; omega
      · simp; omega
      · simp [upd, hk', hwr]
    refine .seq (.block ?_)
    have n1 : ∀ j, ¬ h.next + 3 + 2 = h.next + 3 + 3 + j := by omega
    rcases ht with ⟨rfl, h6⟩ | ⟨tb, ex, h6, e2, e3, e4⟩
    · refine .reg xr17_10 (by simp [o17_10, pD, argA, h6, h7, mu17, show List.range 1 = [0] from rfl, app62s0 mu17]; exact ⟨rfl, rfl⟩) (fin _ _ (fun t ht => ?_) (fun b hb _ => ?_) (by simp; omega) (.inr ⟨h.next + 3 + 3, false, by simp [upd], by simp [upds, upd], by omega, by simp⟩))
      · rcases ht with ht | rfl
        · simp [upd, show t ≠ 6 by omega, show ∀ c, 33 ≤ c → ¬ t = c from fun c h => by omega]
        · simp [upd]
      · simp [upds, upd, show ¬ b = h.next + 3 + 2 by omega, show ¬ b = h.next + 3 + 3 by omega]
    · have n2 : ¬ tb = h.next + 3 + 2 := by omega
      have n3 : ¬ tb = h.next + 3 + 3 := by omega
      have ap : ∀ (blk : Nat → Blk) s c, blk c = .live 1 [.int .i64 i] → blk tb = .live 1 (to.map (D.int .i64)) → tb ≠ c → builtinD E.T (E.pol.mu 17) s blk .append [62, 62] [.sl tb 1 0 to.length ex, .sl c 1 0 1 true] = some { v := .sl s 1 0 (to.length + 1) false, wr := [(tb, .dead), (s, .live 1 (to.map (D.int .i64) ++ [.int .i64 i]))], rd := [tb, c] } := fun blk s c q1 q2 q3 => app62s1 q1 rfl q2 (by simp) q3 (by omega)
      refine .reg xr17_10 (by simp [o17_10, pD, argA, h6, h7, mu17, show List.range 1 = [0] from rfl, ap, e2, n2]; exact ⟨rfl, rfl⟩) (fin _ _ (fun t ht => ?_) (fun b hb hne => ?_) (by simp; omega) (.inr ⟨h.next + 3 + 3, false, by simp [upd], by simp [upds, upd], by omega, by simp⟩))
      · rcases ht with ht | rfl
        · simp [upd, show t ≠ 6 by omega, show ∀ c, 33 ≤ c → ¬ t = c from fun c h => by omega]
        · simp [upd]
      · have : ¬ b = tb := fun e => hne to.length ex (by rw [h6, e])
        simp [upds, upd, show ¬ b = h.next + 3 + 2 by omega, show ¬ b = h.next + 3 + 3 by omega, this]
  · rintro ⟨A, h⟩ ⟨le, ⟨to, f, hl⟩, h7⟩
    have h5 := f.h5
    simp only at h5 h7
    rw [cl17_0]
    refine .assoc (.then xr17_8 (by simp [o17_8, builtinD, lenD, pD, argA, h5, h7]; rfl) ?_)
    refine .head (v := false) (by simp [opd, upd]) (fun q => by cases q) (fun _ => hQ _ ⟨by omega, ⟨to, ?_, hl⟩, by simp [upd, h7]⟩)
    exact f.step (fun t ht => by simp [upd, show ∀ c, 33 ≤ c → ¬ t = c from fun c h => by omega]) (fun _ _ => rfl) (by simp) (Nat.le_refl _)
structure G17 (a : M) (d : D) (to : List Int) (lo hi c10 : Nat) (rows : List (List (Int × Int))) (st : St) : Prop where
  f : F17 a d to lo st
  tl : to.length = a.rows.length
  h10 : st.A 10 = .ptr c10 0 0
  b10 : ∃ b, st.h.blk c10 = .live 3 [.agg [.int .i64 a.ins, .int .i64 a.outs, .sl b 1 0 a.rows.length false]] ∧ MatE st.h (.sl b 1 0 a.rows.length false) rows a.ins lo hi
  lh : lo ≤ hi
  hc : c10 < lo
  cn : hi ≤ st.h.next
  rl : rows.length = a.rows.length
  rk : ∀ r ∈ rows, r.length = a.ins
  ok : ∀ r ∈ rows, ∀ e ∈ r, EdgeOk a e
theorem G17.step {a : M} {d : D} {to : List Int} {lo hi c10 : Nat} {rows : List (List (Int × Int))} {A A' : Nat → D} {h h' : H} (g : G17 a d to lo hi c10 rows ⟨A, h⟩) (e : ∀ t, t < 7 ∨ t = 10 → A' t = A t) (hb : ∀ b, b < h.next → h'.blk b = h.blk b) (hn : h.next ≤ h'.next) : G17 a d to lo hi c10 rows ⟨A', h'⟩ := by
  obtain ⟨f, tl, h10, ⟨b, b10, m⟩, lh, hc, cn, rl, rk, ok⟩ := g
  simp only at h10 b10 m cn
  refine ⟨f.step (fun t ht => e t (.inl ht)) (fun b hb' => hb b (by omega)) (Nat.le_refl _) (by omega), tl, (e 10 (.inr rfl)).trans h10, ⟨b, (hb c10 (by omega)).trans b10, m.frame (fun b _ hb' => hb b (by omega))⟩, lh, hc, by simp only; omega, rl, rk, ok⟩
structure J17 (a : M) (d : D) (to : List Int) (lo hi c10 s k : Nat) (st : St) : Prop where
  le : k ≤ a.ins
  g : ∃ rows, G17 a d to lo hi c10 rows st
  h11 : st.A 11 = .int .i64 s
  h12 : st.A 12 = .int .i64 ((a.ins - k : Nat) : Int)
theorem loop17c {a : M} (hv : Valid a) {d : D} {to : List Int} {lo hi c10 s : Nat} (hs : s < a.rows.length) {Q : Po} (hQ : ∀ st, J17 a d to lo hi c10 s 0 st → Q.x 4 st) (k : Nat) (st : St) (hI : J17 a d to lo hi c10 s k st) : V E 17 144 (.loop l17_2) st Q := by
  have i2 := hv.i2
  refine V.count (J17 a d to lo hi c10 s) ?_ ?_ k st hI
  · rintro k ⟨A, h⟩ ⟨le, ⟨rows, g⟩, h11, h12⟩
    have hlt : a.ins - (k + 1) < a.ins := by omega
    generalize hi' : a.ins - (k + 1) = i at *
    have hk' : a.ins - k = i + 1 := by omega
    have hwr : IntKind.i64.wrap ((i : Int) + 1) = ((i + 1 : Nat) : Int) := by rw [wrap_id] <;> omega
    obtain ⟨f, tl, h10, ⟨b, b10, m⟩, lh, hc, cn, rl, rk, ok⟩ := id g
    obtain ⟨h1, h2, h3, h4, h5, b0, b1, b2, b6, ht, rg, hT, hn⟩ := id f
    simp only at h10 b10 m cn h1 h2 h3 h4 h5 b0 b1 b2 b6 ht hn h11 h12
    have hsl : i < a.rows[s].length := by rw [hv.len _ (List.getElem_mem hs)]; exact hlt
    have hxok := hv.ok _ (List.getElem_mem hs) _ (List.getElem_mem hsl)
    obtain ⟨x, hx⟩ : ∃ x, a.rows[s][i] = x := ⟨_, rfl⟩
    rw [hx] at hxok
    rcases ht with ⟨e0, _⟩ | ⟨tb, ex, h6, e2, e3, e4⟩
    · rw [e0] at tl; simp at tl; omega
    obtain ⟨t, hts, htb⟩ : ∃ t : Nat, to[s]'(by omega) = (t : Int) ∧ t < a.rows.length := by
      have := rg _ (List.getElem_mem (show s < to.length by omega))
      exact ⟨(to[s]'(by omega)).toNat, by omega, by omega⟩
    have htl : s < to.length := by omega
    have hslI : (s : Int) < a.rows.length := by omega
    have hslI2 : (s : Int) < to.length := by omega
    have htI : (t : Int) < a.rows.length := by omega
    have hilI : (i : Int) < a.ins := by omega
    rw [cl17_2]
    refine .assoc (.then xr17_19 (by simp [o17_19, builtinD, lenD, pD, argA, h4, h12, b6, encM, hlt]; rfl) ?_)
    refine .head (v := true) (by simp [opd, upd]) (fun _ => ?_) (fun q => by cases q)
    have rest : ∀ (A2 : Nat → D) (h2 : H) (c : Nat) (y : Int × Int), (∀ t, t < 7 ∨ t = 10 ∨ t = 11 ∨ t = 12 → A2 t = A t) → A2 13 = .ptr c 0 0 → h2.blk c = .live 2 [.agg [.int .i64 y.1, .int .i64 y.2]] → (∀ b, b < h.next → h2.blk b = h.blk b) → h.next ≤ c → c < h2.next → EdgeOk a y →
        V E 17 144 r17_24 ⟨A2, h2⟩ (((Q.upto (J17 a d to lo hi c10 s k)).upto fun s' => V E 17 144 r17_20 s' (Q.upto (J17 a d to lo hi c10 s k))).within 5) := by
      intro A2 h2' c y eA e13 ec eb k1 k2 hy
      have g2 := g.step (A' := A2) (h' := h2') (fun t ht => eA t (by omega)) eb (by omega)
      obtain ⟨f', tl', h10', ⟨b', b10', m'⟩, lh', hc', cn', rl', rk', ok'⟩ := g2
      simp only at h10' b10' m' cn'
      have e6 := (eA 6 (by omega)).trans h6
      have e11 := (eA 11 (by omega)).trans h11
      have e12 := (eA 12 (by omega)).trans h12
      have et := (eb tb (by omega)).trans e2
      have m0 := m'
      rcases m0 with ⟨e0, ev⟩ | ⟨b2', bs, _, ev, g2, g3, g4, g5, g6, g7, g8⟩
      · cases ev
      injection ev with ev1 _ _ _ _
      subst ev1
      have htbs : t < bs.length := by omega
      have htr : t < rows.length := by omega
      obtain ⟨w1, w2⟩ := g8 t bs[t] rows[t] (List.getElem?_eq_getElem htbs) (List.getElem?_eq_getElem htr)
      obtain ⟨w3, w4, w5⟩ := g6 _ (List.getElem_mem htbs)
      have hti : i < rows[t].length := by omega
      have n1 : ¬ c = b' := by omega
      have n2 : ¬ c = bs[t] := by omega
      have n3 : ¬ bs[t] = c10 := by omega
      have n4 : ¬ b' = c10 := by omega
      refine .reg xr17_24 (by simp [o17_24, builtinD, lenD, pD, argA, h10', b10', e6, e11, e12, e13, ec, et, htl, hslI2, hts, htb, htI, g2, htbs, rowE, hilI, w1, hti, hlt]; rfl) ?_
      show V E 17 144 r17_20 _ _
      have hput : MatE ⟨h2'.next + 12, upd h2'.blk bs[t] (.live 2 ((rows[t].map pD).set i (.agg [.int .i64 y.1, .int .i64 y.2])))⟩ (.sl b' 1 0 a.rows.length false) (rows.set t (rows[t].set i y)) a.ins lo hi := by
        refine m'.put g2 (List.getElem?_eq_getElem htbs) htr (by simpa using w2) ?_ (fun x hx => upd_ne _ _ _ _ hx)
        simp [List.map_set, pD]
      refine .reg xr17_20 (by simp [o17_20, builtinD, lenD, pD, argA, e12]; rfl) ⟨by omega, ⟨rows.set t (rows[t].set i y), ?_, tl, ?_, ⟨b', ?_, ?_⟩, lh, hc, ?_, by simpa using rl, ?_, ?_⟩, ?_, ?_⟩
      · refine f'.step (fun t ht => by simp [upd, show t ≠ 12 by omega, show ∀ c, 85 ≤ c → ¬ t = c from fun c h => by omega]) (fun x hx => ?_) (Nat.le_refl _) (by simp; omega)
        simp [upds, upd, show ¬ x = bs[t] by omega]
      · simp [upd, h10']
      · simp [upds, upd, show ¬ c10 = bs[t] from fun e => n3 e.symm, b10']
      · refine hput.frame (fun x _ _ => ?_)
        simp [upds, upd]
      · simp; omega
      · intro r hr
        rcases List.mem_or_eq_of_mem_set hr with hr | rfl
        · exact rk r hr
        · simpa using w2
      · intro r hr e he
        rcases List.mem_or_eq_of_mem_set hr with hr | rfl
        · exact ok r hr e he
        · rcases List.mem_or_eq_of_mem_set he with he | rfl
          · exact ok _ (List.getElem_mem htr) e he
          · exact hy
      · simp [upd, e11]
      · simp [upd, hk', hwr]
    refine .seq (.block (.then xr17_21 (by simp [o17_21, builtinD, lenD, pD, argA, h4, h11, h12, b6, encM, hs, hslI, hsl, hx, rowD]; rfl) ?_))
    refine .assoc (.then xr17_22 (by simp [o17_22, builtinD, lenD, pD, argA]; rfl) ?_)
    by_cases c1 : 0 ≤ x.1
    · have hxb : x.1 < (to.length : Int) := by rcases hxok with rfl | q; exact absurd c1 (by decide); omega
      have hxn : x.1.toNat < to.length := by omega
      have n1 : ¬ tb = h.next + 4 + 8 := by omega
      refine .seq (.cond (v := true) (by simp [opd, upd, c1]) (fun _ => ?_) (fun q => by cases q))
      refine .reg xr17_23 (by simp [o17_23, builtinD, lenD, pD, argA, h6, e2, c1, hxb, hxn, n1]; rfl) ?_
      refine rest _ _ (h.next + 4 + 8) (to[x.1.toNat], x.2) (fun t ht => ?_) (by simp [upd]) (by simp [upds, upd]) (fun b hb => ?_) (by omega) (by simp) ?_
      · simp [upd, show ∀ c, 13 ≤ c → ¬ t = c from fun c h => by omega]
      · simp [upds, upd, show ¬ b = h.next + 4 + 8 by omega]
      · have := rg _ (List.getElem_mem hxn)
        rcases hxok with rfl | q
        · exact absurd c1 (by decide)
        · exact .inr ⟨this.1, this.2, q.2.2.1, q.2.2.2⟩
    · refine .seq (.cond (v := false) (by simp [opd, upd]; omega) (fun q => by cases q) (fun _ => .skip ?_))
      refine rest _ _ (h.next + 4 + 8) x (fun t ht => ?_) (by simp [upd]) (by simp [upds, upd]) (fun b hb => ?_) (by omega) (by simp) hxok
      · simp [upd, show ∀ c, 13 ≤ c → ¬ t = c from fun c h => by omega]
      · simp [upds, upd, show ¬ b = h.next + 4 + 8 by omega]
  · rintro ⟨A, h⟩ ⟨le, ⟨rows, g⟩, h11, h12⟩
    have h4 := g.f.h4
    have b6 := g.f.b6
    simp only at h4 b6 h11 h12
    rw [cl17_2]
    refine .assoc (.then xr17_19 (by simp [o17_19, builtinD, lenD, pD, argA, h4, h12, b6, encM]; rfl) ?_)
    refine .head (v := false) (by simp [opd, upd]) (fun q => by cases q) (fun _ => hQ _ ⟨by omega, ⟨rows, ?_⟩, by simp [upd, h11], by simp [upd, h12]⟩)
    exact g.step (fun t ht => by simp [upd, show ∀ c, 81 ≤ c → ¬ t = c from fun c h => by omega]) (fun _ _ => rfl) (by simp)
end Go.Eng.E3
namespace Go.Eng.E3
open Go Go.Eng Go.Proofs
set_option maxRecDepth 100000
attribute [local simp] execR runOps stepOp wantedD evalOp opd upd St.put Eff.apply upds looseOk FP.free FP.idle apart Eff.fp ofVal loadD storeD partD setPart indexAddrD isShift arith unD callOp mapO D.okc pickD buildable buildD placeD convD
set_option linter.unusedSimpArgs false
set_option linter.unusedVariables false
set_option maxHeartbeats 4000000
structure K17 (a : M) (d : D) (to : List Int) (lo hi c10 k : Nat) (st : St) : Prop where
  le : k ≤ a.rows.length
  g : ∃ rows, G17 a d to lo hi c10 rows st
  h11 : st.A 11 = .int .i64 ((a.rows.length - k : Nat) : Int)
theorem loop17b {a : M} (hv : Valid a) {d : D} {to : List Int} {lo hi c10 : Nat} {Q : Po} (hQ : ∀ st, K17 a d to lo hi c10 0 st → Q.x 2 st) (k : Nat) (st : St) (hI : K17 a d to lo hi c10 k st) : V E 17 144 (.loop l17_1) st Q := by
  have r2 := hv.r2
  refine V.count (K17 a d to lo hi c10) ?_ ?_ k st hI
  · rintro k ⟨A, h⟩ ⟨le, ⟨rows, g⟩, h11⟩
    have hlt : a.rows.length - (k + 1) < a.rows.length := by omega
    generalize hi' : a.rows.length - (k + 1) = i at *
    have hk' : a.rows.length - k = i + 1 := by omega
    have hwr : IntKind.i64.wrap ((i : Int) + 1) = ((i + 1 : Nat) : Int) := by rw [wrap_id] <;> omega
    have h5 := g.f.h5
    simp only at h5 h11
    rw [cl17_1]
    refine .assoc (.then xr17_16 (by simp [o17_16, builtinD, lenD, pD, argA, h5, h11, hlt]; rfl) ?_)
    refine .head (v := true) (by simp [opd, upd]) (fun _ => ?_) (fun q => by cases q)
    refine .seq (.block (.then xr17_18 (by simp [o17_18, builtinD, lenD, pD, argA]; rfl) ?_))
    refine .block (loop17c (d := d) (to := to) (lo := lo) (hi := hi) (c10 := c10) hv hlt ?_ a.ins _ ⟨Nat.le_refl _, ⟨rows, ?_⟩, ?_, ?_⟩)
    · rintro ⟨A2, h2⟩ ⟨_, ⟨rows2, g2⟩, e11, e12⟩
      simp only at e11
      show V E 17 144 r17_17 _ _
      refine .reg xr17_17 (by simp [o17_17, builtinD, lenD, pD, argA, e11]; rfl) ⟨by omega, ⟨rows2, ?_⟩, ?_⟩
      · exact g2.step (fun t ht => by simp [upd, show t ≠ 79 by omega, show t ≠ 80 by omega, show t ≠ 11 by omega]) (fun _ _ => rfl) (by simp)
      · simp [upd, hk', hwr]
    · exact g.step (fun t ht => by simp [upd, show t ≠ 12 by omega, show ∀ c, 76 ≤ c → ¬ t = c from fun c h => by omega]) (fun _ _ => rfl) (by simp; omega)
    · simp [upd, h11]
    · simp [upd]
  · rintro ⟨A, h⟩ ⟨le, ⟨rows, g⟩, h11⟩
    have h5 := g.f.h5
    simp only at h5 h11
    rw [cl17_1]
    refine .assoc (.then xr17_16 (by simp [o17_16, builtinD, lenD, pD, argA, h5, h11]; rfl) ?_)
    refine .head (v := false) (by simp [opd, upd]) (fun q => by cases q) (fun _ => hQ _ ⟨by omega, ⟨rows, ?_⟩, by simp [upd, h11]⟩)
    exact g.step (fun t ht => by simp [upd, show ∀ c, 76 ≤ c → ¬ t = c from fun c h => by omega]) (fun _ _ => rfl) (by simp)
def drawnD (st ins outs : Int) (p : Bool) (es : List Int) (st' ins' outs' : Int) (p' : Bool) (es' : List Int) (al : Bool) (s0 s1 p0 p1 to out : Int) : D :=
  .agg [.int .u8 st, .int .u8 ins, .int .u8 outs, .bool p, .frz (es.map (D.int .u16)) .unk, .int .u8 st', .int .u8 ins', .int .u8 outs', .bool p', .frz (es'.map (D.int .u16)) .unk, .bool al, .int .u8 s0, .int .u8 s1, .int .u8 p0, .int .u8 p1, .int .i64 to, .int .i64 out]
def Res17 (a : M) (st : St) : Prop := ∃ b : M, Valid b ∧ b.ins = a.ins ∧ st.A 2 = .ptr 1 0 0 ∧ st.A 3 = .ptr 2 0 0 ∧ st.h.blk 1 = .live 3 [encM a] ∧ ∃ v, st.h.blk 2 = .live 3 [.agg [.int .i64 b.ins, .int .i64 b.outs, v]] ∧ ∃ ks, snap true st.h.blk 7 v = some (.frz (b.rows.map rowD) .unk, ks)
theorem tail17 {a : M} (hv : Valid a) {st ins outs st' ins' outs' : Int} {p p' al : Bool} {es es' : List Int} {s0 s1 p0 p1 t0 o0 : Int} (hp0 : 0 ≤ p0 ∧ p0 < 256) (hp1 : 0 ≤ p1 ∧ p1 < 256) {to : List Int} {s : St} (f : F17 a (drawnD st ins outs p es st' ins' outs' p' es' al s0 s1 p0 p1 t0 o0) to s.h.next s) (tl : to.length = a.rows.length) {Q : Po} (hq : ∀ s, Res17 a s → Q.r s) :
    V E 17 144 (r17_14.seq ((r17_15.seq (.block 2 (.loop l17_1))).seq (r17_25.seq (r17_26.seq ((r17_27.seq (.cond (.tmp 139) (r17_28.seq .ret) .skip)).seq (r17_29.seq .ret)))))) s Q := by
  have r1 := hv.r1
  have r2 := hv.r2
  have i1 := hv.i1
  have i2 := hv.i2
  have sh : Shape a := ⟨hv.i1, hv.i2, hv.o1, hv.o2, hv.r1, hv.r2, hv.len⟩
  obtain ⟨A, h⟩ := s
  obtain ⟨h1, h2, h3, h4, h5, b0, b1, b2, b6, ht, rg, hT, hn⟩ := id f
  simp only at h1 h2 h3 h4 h5 b0 b1 b2 b6 ht hT
  obtain ⟨hc, w, c1, c2, c3, c4⟩ := call49 sh (w := .frz (a.rows.map rowD) .unk) (h := ⟨h.next + 4, h.blk⟩) (.inl rfl)
  simp only at c3 c4
  refine .then xr17_14 (by simp [o17_14, builtinD, lenD, pD, argA, h4, b6, encM, c1]; rfl) ?_
  have mw : ∃ b, w = .sl b 1 0 a.rows.length false := by
    rcases c2 with ⟨e, _⟩ | ⟨b, bs, _, e, _⟩
    · rw [e] at r1; simp at r1
    · exact ⟨b, e⟩
  obtain ⟨b, rfl⟩ := mw
  have m10 : ∀ j, ¬ h.next + 2 = hc.next + j := by omega
  refine .assoc (.then xr17_15 (by simp [o17_15, builtinD, lenD, pD, argA]; rfl) ?_)
  refine .seq (.block (loop17b (d := drawnD st ins outs p es st' ins' outs' p' es' al s0 s1 p0 p1 t0 o0) (to := to) (lo := h.next + 4) (hi := hc.next) (c10 := h.next + 2) hv ?_ a.rows.length _ ⟨Nat.le_refl _, ⟨a.rows, ?_, tl, ?_, ⟨b, ?_, ?_⟩, by omega, by omega, ?_, rfl, hv.len, hv.ok⟩, ?_⟩))
  · rintro ⟨A1, g1⟩ ⟨_, ⟨rows, g⟩, _⟩
    obtain ⟨f', _, h10, ⟨b', b10, m⟩, lh, hcl, cn, rl, rk, ok⟩ := g
    obtain ⟨e1, e2, e3, e4, e5, f0, ⟨z1, f1⟩, ⟨z2, f2⟩, f6, _, _, _, fn⟩ := id f'
    simp only at h10 b10 m cn e1 e2 e3 e4 e5 f0 f1 f2 f6 fn
    show V E 17 144 (r17_25.seq _) _ _
    have shb : Shape ⟨a.ins, a.outs, rows⟩ := ⟨hv.i1, hv.i2, hv.o1, hv.o2, by simp only; omega, by simp only; omega, rk⟩
    obtain ⟨hc2, w2, d1, d2, d3, d4⟩ := call49 shb (w := .sl b' 1 0 a.rows.length false) (h := ⟨g1.next + 4, g1.blk⟩) (.inr ⟨h.next + 4, m.nx _ (by simp only; omega)⟩)
    simp only at d1 d2 d3 d4
    refine .then xr17_25 (by simp [o17_25, builtinD, lenD, pD, argA, h10, b10, d1]; rfl) ?_
    rcases d2 with ⟨e, _⟩ | ⟨b2', bs, _, rfl, q2, q3, q4, q5, q6, q7, q8⟩
    · rw [e] at rl; simp at rl; omega
    have d2 : MatE hc2 (.sl b2' 1 0 rows.length false) rows a.ins (g1.next + 4) hc2.next := .inr ⟨b2', bs, (), rfl, q2, q3, q4, q5, q6, q7, q8⟩
    obtain ⟨i, hi⟩ : ∃ i : Nat, p0.tmod a.rows.length = (i : Int) := ⟨(p0.tmod a.rows.length).toNat, by rw [Int.toNat_of_nonneg (Int.tmod_nonneg _ hp0.1)]⟩
    obtain ⟨k, hk⟩ : ∃ k : Nat, p1.tmod a.ins = (k : Int) := ⟨(p1.tmod a.ins).toNat, by rw [Int.toNat_of_nonneg (Int.tmod_nonneg _ hp1.1)]⟩
    have hil : i < rows.length := by
      have := Int.tmod_lt_of_pos p0 (show (0 : Int) < a.rows.length by omega); omega
    have hkl : k < a.ins := by
      have := Int.tmod_lt_of_pos p1 (show (0 : Int) < a.ins by omega); omega
    have hw0 : IntKind.i64.wrap p0 = p0 := wrap_id (by omega) (by omega)
    have hw1 : IntKind.i64.wrap p1 = p1 := wrap_id (by omega) (by omega)
    have hz0 : ¬ (a.rows.length : Int) = 0 := by omega
    have hz1 : ¬ (a.ins : Int) = 0 := by omega
    have hz2 : ¬ a.rows = [] := fun e => by rw [e] at r1; simp at r1
    have hz3 : ¬ a.ins = 0 := by omega
    have hilI : (i : Int) < rows.length := by omega
    have hklI : (k : Int) < a.ins := by omega
    have hib : i < bs.length := by omega
    obtain ⟨w1, w2⟩ := q8 i bs[i] rows[i] (List.getElem?_eq_getElem hib) (List.getElem?_eq_getElem hil)
    obtain ⟨w3, w4, w5⟩ := q6 _ (List.getElem_mem hib)
    have hkr : k < rows[i].length := by omega
    have n0 : ¬ (0 : Nat) = g1.next + 2 := by omega
    have n1 : ¬ (6 : Nat) = g1.next + 2 := by omega
    have n2 : ¬ b2' = g1.next + 2 := by omega
    have n3 : ¬ bs[i] = g1.next + 2 := by omega
    have n4 : ¬ g1.next + 2 = bs[i] := by omega
    have k0 := (d4 0 (by omega)).trans f0
    have k6 := (d4 6 (by omega)).trans f6
    refine .then xr17_26 (by simp [o17_26, builtinD, lenD, pD, argA, e1, e4, e5, k0, k6, drawnD, encM, q2, hw0, hw1, hi, hk, hz0, hz1, hz2, hz3, hil, hilI, hib, rowE, hkl, hklI, hkr, w1, n0, n1, n2, n3]; rfl) ?_
    have hput : MatE ⟨hc2.next, upd hc2.blk bs[i] (.live 2 ((rows[i].map pD).set k (.agg [.int .i64 t0, .int .i64 o0])))⟩ (.sl b2' 1 0 rows.length false) (rows.set i (rows[i].set k (t0, o0))) a.ins (g1.next + 4) hc2.next := by
      refine d2.put q2 (List.getElem?_eq_getElem hib) hil (by simpa using w2) ?_ (fun x hx => upd_ne _ _ _ _ hx)
      simp [List.map_set, pD]
    have ok3 : ∀ r ∈ rows.set i (rows[i].set k (t0, o0)), r.length = a.ins := fun r hr => by
      rcases List.mem_or_eq_of_mem_set hr with hr | rfl
      · exact rk r hr
      · simpa using w2
    have sh3 : Shape ⟨a.ins, a.outs, rows.set i (rows[i].set k (t0, o0))⟩ := ⟨hv.i1, hv.i2, hv.o1, hv.o2, by simp only [List.length_set]; omega, by simp only [List.length_set]; omega, ok3⟩
    obtain ⟨r, hr, hrv⟩ := spec50 sh3
    have hnb : E.pol.args 50 = false := by decide
    have rest : ∀ (A2 : Nat → D) (g2 : H), A2 2 = .ptr 1 0 0 → A2 3 = .ptr 2 0 0 → A2 4 = .ptr 6 0 0 → A2 10 = .ptr (h.next + 2) 0 0 → A2 14 = .ptr (g1.next + 2) 0 0 → (∀ x, x < g1.next → g2.blk x = g1.blk x) → g2.blk (g1.next + 2) = .live 3 [.agg [.int .i64 a.ins, .int .i64 a.outs, .sl b2' 1 0 rows.length false]] → MatE g2 (.sl b2' 1 0 rows.length false) (rows.set i (rows[i].set k (t0, o0))) a.ins (g1.next + 4) hc2.next →
        V E 17 144 ((r17_27.seq (.cond (.tmp 139) (r17_28.seq .ret) .skip)).seq (r17_29.seq .ret)) ⟨A2, g2⟩ Q := by
      intro A2 g2 y2 y3 y4 y10 y14 yb yc ym
      obtain ⟨ks, tk, sn, stk⟩ := ym.snap (E.pol.args 50) 4
      have stk' : tk = .unk := stk (.inl hnb)
      subst stk'
      have c50 : callI E (.fn 50 []) [.agg [.int .i64 a.ins, .int .i64 a.outs, .sl b2' 1 0 rows.length false]] ⟨g2.next + 3, g2.blk⟩ = some (.int .i64 r, ⟨g2.next + 3, g2.blk⟩, if ks.isEmpty then {} else { rd := ks }) := by
        refine call_cap (cap := []) (xs := [encM ⟨a.ins, a.outs, rows.set i (rows[i].set k (t0, o0))⟩]) (by decide) ?_ hr (fun _ => rfl)
        have e1 : snap (E.pol.args 50) g2.blk 9 (.agg [.int .i64 a.ins, .int .i64 a.outs, .sl b2' 1 0 rows.length false]) = some (.agg [.int .i64 a.ins, .int .i64 a.outs, .frz ((rows.set i (rows[i].set k (t0, o0))).map rowD) .unk], ks) := by
          show (match mapK (snap (E.pol.args 50) g2.blk 8) [.int .i64 a.ins, .int .i64 a.outs, .sl b2' 1 0 rows.length false] with | some (ys, k) => some (D.agg ys, k) | none => none) = _
          simp only [mapK, sn]
          simp [snap_int]
        simp only [List.append_nil, mapK, snapDepth, e1]
        rfl
      have z6 := (yb 6 (by omega)).trans f6
      have z1' := (yb 1 (by omega)).trans f1
      have z2' := (yb 2 (by omega)).trans f2
      have z10 := (yb (h.next + 2) (by omega)).trans b10
      have p1 : ¬ g1.next + 2 = 1 := by omega
      have p2 : ¬ g1.next + 2 = 2 := by omega
      have p3 : ¬ h.next + 2 = 1 := by omega
      have p4 : ¬ h.next + 2 = 2 := by omega
      by_cases hr0 : r = 0
      · have hvc := hrv hr0
        refine .assoc (.then xr17_27 (by simp [o17_27, builtinD, lenD, pD, argA, y14, yc, c50, hr0]; rfl) ?_)
        refine .seq (.cond (v := true) (by simp [opd, upd]) (fun _ => ?_) (fun q => by cases q))
        refine .then xr17_28 (by simp [o17_28, builtinD, lenD, pD, argA, y2, y3, y4, y14, z6, z1', z2', yc, encM, p1, p2]; rfl) (.ret (hq _ ⟨_, hvc, rfl, ?_, ?_, ?_, .sl b2' 1 0 rows.length false, ?_, ?_⟩))
        · simp [upd, y2]
        · simp [upd, y3]
        · simp [upds, upd, encM]
        · simp [upds, upd]
        · obtain ⟨ks', tk', sn', stk'⟩ := (ym.frame (h' := ⟨g2.next + 3 + 1 + 4, upd (upd g2.blk 1 (.live 3 [encM a])) 2 (.live 3 [.agg [.int .i64 a.ins, .int .i64 a.outs, .sl b2' 1 0 rows.length false]])⟩) (fun x hx _ => by simp [upd, show ¬ x = 1 by omega, show ¬ x = 2 by omega])).snap true 3
          have : tk' = .unk := stk' (.inr (fun e => by have := congrArg List.length e; simp only [List.length_set, List.length_nil] at this; omega))
          subst this
          exact ⟨ks', by simpa [upds, encM] using sn'⟩
      · have hrb : (r == 0) = false := by simp [hr0]
        refine .assoc (.then xr17_27 (by simp [o17_27, builtinD, lenD, pD, argA, y14, yc, c50, hrb]; rfl) ?_)
        refine .seq (.cond (v := false) (by simp [opd, upd]) (fun q => by cases q) (fun _ => .skip ?_))
        have hvb : Valid ⟨a.ins, a.outs, rows⟩ := ⟨hv.i1, hv.i2, hv.o1, hv.o2, by simp only; omega, by simp only; omega, rk, fun r hr e he => by
          have := ok r hr e he
          unfold EdgeOk at *
          simpa [rl] using this⟩
        refine .then xr17_29 (by simp [o17_29, builtinD, lenD, pD, argA, y2, y3, y4, y10, z6, z1', z2', z10, encM, p3, p4]; rfl) (.ret (hq _ ⟨_, hvb, rfl, ?_, ?_, ?_, .sl b' 1 0 a.rows.length false, ?_, ?_⟩))
        · simp [upd, y2]
        · simp [upd, y3]
        · simp [upds, upd, encM]
        · simp [upds, upd]
        · have m2 : MatE g2 (.sl b' 1 0 a.rows.length false) rows a.ins (h.next + 4) hc.next := m.frame (fun x _ hx => yb x (by have : x < hc.next := hx; omega))
          obtain ⟨ks', tk', sn', stk'⟩ := (m2.frame (h' := ⟨g2.next + 3 + 4, upd (upd g2.blk 1 (.live 3 [encM a])) 2 (.live 3 [.agg [.int .i64 a.ins, .int .i64 a.outs, .sl b' 1 0 a.rows.length false]])⟩) (fun x hx _ => by simp [upd, show ¬ x = 1 by omega, show ¬ x = 2 by omega])).snap true 3
          have : tk' = .unk := stk' (.inr (fun e => by rw [e] at rl; simp at rl; omega))
          subst this
          exact ⟨ks', by simpa [upds, encM] using sn'⟩
    refine rest _ _ ?_ ?_ ?_ ?_ ?_ (fun x hx => ?_) ?_ ?_
    · simp [upd, e2]
    · simp [upd, e3]
    · simp [upd, e4]
    · simp [upd, h10]
    · simp [upd]
    · simp [upds, upd, show ¬ x = g1.next + 2 by omega, show ¬ x = bs[i] by omega, d4 x (by omega)]
    · simp [upds, upd, n4]
    · refine hput.frame (fun x hx _ => ?_)
      simp [upds, upd, show ¬ x = g1.next + 2 by omega]
  · refine f.step (fun t ht => by simp [upd, show t ≠ 74 by omega, show t ≠ 75 by omega, show t ≠ 10 by omega, show t ≠ 11 by omega]) (fun x hx => ?_) (by show h.next ≤ _; omega) (by simp; omega)
    have hx1 : x < h.next := hx
    have hx' := c4 x (by omega)
    simp [upds, upd, show ¬ x = h.next + 2 by omega, hx']
  · simp [upd]
  · simp [upds, upd]
  · refine (c2.frame (h' := _) (fun x hx _ => ?_))
    have hx2 : h.next + 4 ≤ x := hx
    simp [upds, upd, show ¬ x = h.next + 2 by omega]
  · simp
  · simp [upd]
theorem spec17 {st ins outs st' ins' outs' : Int} {p p' al : Bool} {es es' : List Int} {s0 s1 p0 p1 t0 o0 : Int} (h1 : 0 ≤ st ∧ st < 256) (h2 : 0 ≤ ins ∧ ins < 256) (h3 : 0 ≤ outs ∧ outs < 256) (he : ∀ e ∈ es, 0 ≤ e ∧ e < 65536)
    (h1' : 0 ≤ st' ∧ st' < 256) (h3' : 0 ≤ outs' ∧ outs' < 256) (he' : ∀ e ∈ es', 0 ≤ e ∧ e < 65536) (hs0 : 0 ≤ s0 ∧ s0 < 256) (hs1 : 0 ≤ s1 ∧ s1 < 256) (hp0 : 0 ≤ p0 ∧ p0 < 256) (hp1 : 0 ≤ p1 ∧ p1 < 256) :
    ∃ a b : M, Valid a ∧ Valid b ∧ a.ins = b.ins ∧ bodyR 17 [drawnD st ins outs p es st' ins' outs' p' es' al s0 s1 p0 p1 t0 o0] = some (.tup [encM a, encM b]) := by
  obtain ⟨a, va, ar, ai, ao, ab⟩ := spec48 (p := p) h1 h2 h3 he
  obtain ⟨x, vx, xr, xi, xo, xb⟩ := spec48 (p := p') h1' h2 h3' he'
  have r1 := va.r1
  have sn48 : ∀ (blk : Nat → Blk) (a b c : Int) (q : Bool) (l : List Int), snap (E.pol.args 48) blk snapDepth (drawnM a b c q l) = some (drawnM a b c q l, []) := fun blk a b c q l => by
    have e1 : snap (E.pol.args 48) blk (6 + 2) (.frz (l.map (D.int .u16)) .unk) = some (.frz (l.map (D.int .u16)) .unk, []) := by
      show (match mapK (snap false blk (6 + 1)) (l.map (D.int .u16)) with | some (ys, k) => some (D.frz ys _, k) | none => none) = _
      rw [mapK_map l fun x _ => rfl]
      rfl
    show (match mapK (snap (E.pol.args 48) blk (6 + 2)) [.int .u8 a, .int .u8 b, .int .u8 c, .bool q, .frz (l.map (D.int .u16)) .unk] with | some (ys, k) => some (D.agg ys, k) | none => none) = _
    simp only [mapK, e1]
    rfl
  have call48 : ∀ h, callI E (.fn 48 []) [.agg [.int .u8 st, .int .u8 ins, .int .u8 outs, .bool p, .frz (es.map (D.int .u16)) .unk]] h = some (.agg [.int .i64 a.ins, .int .i64 a.outs, .frz (a.rows.map rowD) .unk], h, {}) := fun h => call_pure (by decide) (snaps1 (sn48 _ _ _ _ _ _)) ab
  have call48' : ∀ h, callI E (.fn 48 []) [.agg [.int .u8 st', .int .u8 ins, .int .u8 outs', .bool p', .frz (es'.map (D.int .u16)) .unk]] h = some (.agg [.int .i64 x.ins, .int .i64 x.outs, .frz (x.rows.map rowD) .unk], h, {}) := fun h => call_pure (by decide) (snaps1 (sn48 _ _ _ _ _ _)) xb
  have key := body_V (P := fun v h => ∃ b : M, Valid b ∧ a.ins = b.ins ∧ (snap true h.blk snapDepth v).map (·.1) = some (.tup [encM a, encM b])) (run17 [drawnD st ins outs p es st' ins' outs' p' es' al s0 s1 p0 p1 t0 o0] H.empty (by simp)) (by
    have fin : ∀ s : St, Res17 a s → ∃ v, resultsD E [ResultVar.cell 2 34, ResultVar.cell 3 34] s = some v ∧ ∃ b : M, Valid b ∧ a.ins = b.ins ∧ (snap true s.h.blk snapDepth v).map (·.1) = some (.tup [encM a, encM b]) := by
      rintro s ⟨b, vb, hi, e2, e3, f1, v, f2, ks, fs⟩
      refine ⟨.tup [encM a, .agg [.int .i64 b.ins, .int .i64 b.outs, v]], ?_, b, vb, hi.symm, ?_⟩
      · simp [resultsD, mapO, resultD, e2, e3, loadD, f1, f2, partD, encM]
      · have e1 : snap true s.h.blk 8 (.agg [.int .i64 b.ins, .int .i64 b.outs, v]) = some (encM b, ks) := by
          show (match mapK (snap true s.h.blk 7) [.int .i64 b.ins, .int .i64 b.outs, v] with | some (ys, k) => some (D.agg ys, k) | none => none) = _
          simp only [mapK, fs]
          simp [snap_int, encM]
        show Option.map _ (match mapK (snap true s.h.blk 8) [encM a, .agg [.int .i64 b.ins, .int .i64 b.outs, v]] with | some (ys, k) => some (D.tup ys, k) | none => none) = _
        simp only [mapK, snap_encM, e1]
        rfl
    unfold b17
    refine .then xr17_0 (by simp [o17_0, builtinD, lenD, pD, argA, drawnD]; rfl) ?_
    refine .then xr17_1 (by simp [o17_1, builtinD, lenD, pD, argA, call48]; rfl) ?_
    refine .then xr17_2 (by simp [o17_2, builtinD, lenD, pD, argA]; rfl) ?_
    refine .assoc (.then xr17_3 (by simp [o17_3, builtinD, lenD, pD, argA]; rfl) ?_)
    cases al with
    | false =>
      refine .seq (.cond (v := true) (by simp [opd, upd]) (fun _ => ?_) (fun q => by cases q))
      refine .then xr17_4 (by simp [o17_4, builtinD, lenD, pD, argA]; rfl) ?_
      refine .then xr17_5 (by simp [o17_5, builtinD, lenD, pD, argA, call48']; rfl) (.ret (fin _ ⟨x, vx, by omega, ?_, ?_, ?_, .frz (x.rows.map rowD) .unk, ?_, [], ?_⟩))
      · simp [upd]
      · simp [upd]
      · simp [upds, upd, encM]
      · simp [upds, upd]
      · rw [show (7 : Nat) = 3 + 4 from rfl, snap_rows]
    | true =>
      refine .seq (.cond (v := false) (by simp [opd, upd]) (fun q => by cases q) (fun _ => .skip ?_))
      refine .then xr17_6 (by simp [o17_6, builtinD, lenD, pD, argA]; rfl) ?_
      refine .assoc (.then xr17_7 (by simp [o17_7, builtinD, lenD, pD, argA]; rfl) ?_)
      refine .seq (.block (loop17a (d := drawnD st ins outs p es st' ins' outs' p' es' true s0 s1 p0 p1 t0 o0) va ?_ a.rows.length _ ⟨Nat.le_refl _, ⟨[], ⟨?_, ?_, ?_, ?_, ?_, ?_, ⟨.frz [] .nil, ?_⟩, ⟨.frz [] .nil, ?_⟩, ?_, .inl ⟨rfl, ?_⟩, (fun x hx => by cases hx), ?_, Nat.le_refl _⟩, by simp⟩, ?_⟩))
      · rintro ⟨A, h⟩ ⟨_, ⟨to, f, hl⟩, h7⟩
        rw [Nat.sub_zero] at hl
        show V E 17 144 _ _ _
        obtain ⟨e1, e2, e3, e4, e5, f0, f1, f2, f6, ht, rg, hT, hn⟩ := id f
        simp only at e1 e2 e3 e4 e5 f0 f1 f2 f6 ht hT
        refine .assoc (.then xr17_11 (by simp [o17_11, builtinD, lenD, pD, argA, e5]; rfl) ?_)
        by_cases c1 : 1 < a.rows.length
        · have c1I : (1 : Int) < a.rows.length := by omega
          refine .seq (.cond (v := true) (by simp [opd, upd]; omega) (fun _ => ?_) (fun q => by cases q))
          have hsub : IntKind.i64.wrap ((a.rows.length : Int) - 1) = (a.rows.length : Int) - 1 := wrap_id (by omega) (by omega)
          have hw0 : IntKind.i64.wrap s0 = s0 := wrap_id (by omega) (by omega)
          have hw1 : IntKind.i64.wrap s1 = s1 := wrap_id (by omega) (by omega)
          have m0 := Int.tmod_nonneg ((a.rows.length : Int) - 1) hs0.1
          have m1 := Int.tmod_nonneg ((a.rows.length : Int) - 1) hs1.1
          have l0 := Int.tmod_lt_of_pos s0 (show (0 : Int) < (a.rows.length : Int) - 1 by omega)
          have l1 := Int.tmod_lt_of_pos s1 (show (0 : Int) < (a.rows.length : Int) - 1 by omega)
          obtain ⟨i, hi⟩ : ∃ i : Nat, 1 + s0.tmod ((a.rows.length : Int) - 1) = (i : Int) := ⟨(1 + s0.tmod ((a.rows.length : Int) - 1)).toNat, by omega⟩
          obtain ⟨k, hk⟩ : ∃ k : Nat, 1 + s1.tmod ((a.rows.length : Int) - 1) = (k : Int) := ⟨(1 + s1.tmod ((a.rows.length : Int) - 1)).toNat, by omega⟩
          have hwi : IntKind.i64.wrap (i : Int) = i := wrap_id (by omega) (by omega)
          have hwk : IntKind.i64.wrap (k : Int) = k := wrap_id (by omega) (by omega)
          have hz : ¬ (a.rows.length : Int) - 1 = 0 := by omega
          have hil : i < to.length := by omega
          have hkl : k < to.length := by omega
          have hilI : (i : Int) < to.length := by omega
          have hklI : (k : Int) < to.length := by omega
          refine .then xr17_12 (by simp [o17_12, builtinD, lenD, pD, argA, e1, e5, f0, drawnD, hsub, hw0, hw1, hz, hi, hk, hwi, hwk]; rfl) ?_
          rcases ht with ⟨e0, _⟩ | ⟨tb, ex, e6, g2, g3, g4⟩
          · rw [e0] at hil; simp at hil
          have rest : ∀ (A2 : Nat → D) (h2 : H), (∀ t, t < 7 → A2 t = A t) → A2 8 = .int .i64 i → A2 9 = .int .i64 k → (∀ x, x < h.next → h2.blk x = h.blk x) → h.next ≤ h2.next → V E 17 144 r17_13 ⟨A2, h2⟩ (Po.upto ⟨fun s => ∃ v, resultsD E [ResultVar.cell 2 34, ResultVar.cell 3 34] s = some v ∧ ∃ b : M, Valid b ∧ a.ins = b.ins ∧ (snap true s.h.blk snapDepth v).map (·.1) = some (.tup [encM a, encM b]), fun s => ∃ v, resultsD E [ResultVar.cell 2 34, ResultVar.cell 3 34] s = some v ∧ ∃ b : M, Valid b ∧ a.ins = b.ins ∧ (snap true s.h.blk snapDepth v).map (·.1) = some (.tup [encM a, encM b]), fun _ _ => False, fun _ _ => False⟩ (fun s' => V E 17 144 (r17_14.seq ((r17_15.seq (.block 2 (.loop l17_1))).seq (r17_25.seq (r17_26.seq ((r17_27.seq (.cond (.tmp 139) (r17_28.seq .ret) .skip)).seq (r17_29.seq .ret)))))) s' ⟨fun s => ∃ v, resultsD E [ResultVar.cell 2 34, ResultVar.cell 3 34] s = some v ∧ ∃ b : M, Valid b ∧ a.ins = b.ins ∧ (snap true s.h.blk snapDepth v).map (·.1) = some (.tup [encM a, encM b]), fun s => ∃ v, resultsD E [ResultVar.cell 2 34, ResultVar.cell 3 34] s = some v ∧ ∃ b : M, Valid b ∧ a.ins = b.ins ∧ (snap true s.h.blk snapDepth v).map (·.1) = some (.tup [encM a, encM b]), fun _ _ => False, fun _ _ => False⟩)) := by
            intro A2 h2' eA e8 e9 eb hnx
            have k6 := (eA 6 (by omega)).trans e6
            have kb := (eb tb (by omega)).trans g2
            have hcel : ∀ hh : k < ((List.map (D.int .i64) to).set i (.int .i64 to[k])).length, (((List.map (D.int .i64) to).set i (.int .i64 to[k]))[k]'hh).cells.length = 1 := by intro hh; rw [List.getElem_set]; split <;> simp
            refine .reg xr17_13 (by simp [o17_13, builtinD, lenD, pD, argA, k6, kb, e8, e9, hil, hkl, hilI, hklI, hcel]; rfl) ?_
            have f2' := f.step (A' := A2) (h' := h2') eA eb (Nat.le_refl _) hnx
            obtain ⟨q1, q2, q3, q4, q5, r0, ⟨z1, r1'⟩, ⟨z2, r2'⟩, r6, m, rg', hT', hn'⟩ := f2'
            simp only at q1 q2 q3 q4 q5 r0 r1' r2' r6 hn'
            have u0 : ¬ (0 : Nat) = tb := by omega
            have u1 : ¬ (1 : Nat) = tb := by omega
            have u2 : ¬ (2 : Nat) = tb := by omega
            have u6 : ¬ (6 : Nat) = tb := by omega
            refine tail17 va (st := st) (ins := ins) (outs := outs) (st' := st') (ins' := ins') (outs' := outs') (p := p) (p' := p') (al := true) (es := es) (es' := es') (s0 := s0) (s1 := s1) (t0 := t0) (o0 := o0) hp0 hp1 (to := (to.set i to[k]).set k to[i]) ⟨?_, ?_, ?_, ?_, ?_, ?_, ⟨z1, ?_⟩, ⟨z2, ?_⟩, ?_, .inr ⟨tb, ex, ?_, ?_, g3, ?_⟩, ?_, ?_, Nat.le_refl _⟩ (by simpa using hl) (fun s hs => ?_)
            rotate_right
            · exact fin s hs
            · simp [upd, q1]
            · simp [upd, q2]
            · simp [upd, q3]
            · simp [upd, q4]
            · simp [upd, q5]
            · simp [upds, upd, u0, r0]
            · simp [upds, upd, u1, r1']
            · simp [upds, upd, u2, r2']
            · simp [upds, upd, u6, r6]
            · simp [upd, k6]
            · simp [upds, upd, List.map_set]
            · simp; omega
            · intro x hx
              rcases List.mem_or_eq_of_mem_set hx with hx | rfl
              · rcases List.mem_or_eq_of_mem_set hx with hx | rfl
                · exact rg x hx
                · exact rg _ (List.getElem_mem hkl)
              · exact rg _ (List.getElem_mem hil)
            · simp
          refine rest _ _ (fun t ht => ?_) (by simp [upd]) (by simp [upd]) (fun x hx => rfl) (by simp; omega)
          simp [upd, show t ≠ 8 by omega, show t ≠ 9 by omega, show ∀ c, 42 ≤ c → ¬ t = c from fun c h => by omega]
        · refine .seq (.cond (v := false) (by simp [opd, upd]; omega) (fun q => by cases q) (fun _ => .skip ?_))
          show V E 17 144 (r17_14.seq _) _ _
          refine tail17 va (st := st) (ins := ins) (outs := outs) (st' := st') (ins' := ins') (outs' := outs') (p := p) (p' := p') (al := true) (es := es) (es' := es') (s0 := s0) (s1 := s1) (t0 := t0) (o0 := o0) hp0 hp1 (to := to) ?_ hl (fun s hs => ?_)
          · exact f.step (fun t ht => by simp [upd, show t ≠ 42 by omega, show t ≠ 43 by omega]) (fun _ _ => rfl) (by simp) (Nat.le_refl _)
          · exact fin s hs
      · simp [upd]
      · simp [upd]
      · simp [upd]
      · simp [upd]
      · simp [upd]
      · simp [upds, upd, drawnD]
      · simp [upds, upd]
      · simp [upds, upd]
      · simp [upds, upd, encM]
      · simp [upd]
      · simp
      · simp [upd])
  obtain ⟨v, h', e, b, vb, hi, hs⟩ := key
  refine ⟨a, b, va, vb, hi, ?_⟩
  unfold bodyR
  rw [e]
  exact hs
end Go.Eng.E3
namespace Go.Eng.E3
open Go Go.Eng Go.Proofs
set_option maxRecDepth 100000
attribute [local simp] execR runOps stepOp wantedD evalOp opd upd St.put Eff.apply upds looseOk FP.free FP.idle apart Eff.fp ofVal loadD storeD partD setPart indexAddrD isShift arith unD callOp mapO D.okc pickD buildable buildD placeD convD
set_option linter.unusedSimpArgs false
set_option maxHeartbeats 4000000
@[simp] theorem binNe55 (a b c d : Int) : binD E.T .neq 55 (.agg [.int .i64 a, .int .i64 b]) (.agg [.int .i64 c, .int .i64 d]) = some (.bool (!decide (a = c ∧ b = d))) := by
  simp only [binD, eqD55, Option.map_some]
structure F16 (a b : M) (k : Nat) (st : St) : Prop where
  h2 : st.A 2 = .ptr 0 0 0
  h3 : st.A 3 = .ptr 1 0 0
  h5 : st.A 5 = .int .i64 k
  ha : st.h.blk 0 = .live 3 [encM a]
  hb : st.h.blk 1 = .live 3 [encM b]
structure J16 (a b : M) (s : Nat) (j : Nat) (st : St) : Prop where
  le : j ≤ (a.rows.getD s []).length
  f : F16 a b s st
  h6 : st.A 6 = .int .i64 (((a.rows.getD s []).length - j : Nat) : Int)
  eq : (a.rows.getD s []).take ((a.rows.getD s []).length - j) = (b.rows.getD s []).take ((a.rows.getD s []).length - j)
theorem loop16b {a b : M} {s : Nat} (hs : s < a.rows.length) (hs' : s < b.rows.length) (hl : a.rows[s].length = b.rows[s].length) (hL : a.rows[s].length < 2 ^ 62) {Q : Po} (hQ : ∀ st, F16 a b s st → a.rows[s] = b.rows[s] → Q.x 2 st) (hr : ∀ st, st.A 4 = .bool false → a.rows[s] ≠ b.rows[s] → Q.r st) (j : Nat) (st : St) (hI : J16 a b s j st) :
    V E 16 75 (.loop l16_1) st Q := by
  have ga : a.rows.getD s [] = a.rows[s] := by simp [hs]
  have gb : b.rows.getD s [] = b.rows[s] := by simp [hs']
  refine V.count (J16 a b s) ?_ ?_ j st hI
  · rintro j ⟨A, h⟩ ⟨le, ⟨h2, h3, h5, ha, hb⟩, h6, eq⟩
    rw [ga, gb] at eq
    rw [ga] at le h6
    have hlt : a.rows[s].length - (j + 1) < a.rows[s].length := by omega
    generalize hi : a.rows[s].length - (j + 1) = i at *
    have hk' : a.rows[s].length - j = i + 1 := by omega
    have hlt' : i < b.rows[s].length := by omega
    have hwr : IntKind.i64.wrap ((i : Int) + 1) = ((i + 1 : Nat) : Int) := by rw [wrap_id] <;> omega
    simp only at h2 h3 h5 h6 ha hb
    rw [cl16_1]
    refine .assoc (.then xr16_9 (by simp [o16_9, builtinD, lenD, pD, argA, h2, h5, h6, ha, encM, hs, rowD]; rfl) ?_)
    refine .head (v := decide (i < a.rows[s].length)) (by simp [opd, upd]) (fun _ => ?_) (fun hf => by simp [hlt] at hf)
    refine .seq (.block (.then xr16_11 (by simp [o16_11, builtinD, lenD, pD, argA, h2, h3, h5, h6, ha, hb, encM, hs, hs', hlt, hlt', rowD]; rfl) ?_))
    refine .cond (v := !decide (a.rows[s][i] = b.rows[s][i])) (by simp [opd, upd, Prod.ext_iff]) (fun q => ?_) (fun q => .skip ?_)
    · have hne : a.rows[s][i] ≠ b.rows[s][i] := by simpa using q
      exact .then xr16_12 (by simp [o16_12, builtinD, lenD, pD, argA]; rfl) (.ret (hr _ (by simp [upd]) (fun e => hne (by simp [e]))))
    · have he : a.rows[s][i] = b.rows[s][i] := by simpa using q
      refine .reg xr16_10 (by simp [o16_10, builtinD, lenD, pD, argA, h6]; rfl) ⟨by rw [ga]; omega, ⟨?_, ?_, ?_, ?_, ?_⟩, ?_, ?_⟩
      · simp [upd, h2]
      · simp [upd, h3]
      · simp [upd, h5]
      · simpa [upds] using ha
      · simpa [upds] using hb
      · rw [ga, hk']; simp [upd, hwr]
      · rw [ga, gb, hk', List.take_succ_eq_append_getElem hlt, List.take_succ_eq_append_getElem hlt', eq, he]
  · rintro ⟨A, h⟩ ⟨le, ⟨h2, h3, h5, ha, hb⟩, h6, eq⟩
    rw [ga, gb] at eq
    rw [ga] at h6
    simp only at h2 h3 h5 h6 ha hb
    rw [cl16_1]
    refine .assoc (.then xr16_9 (by simp [o16_9, builtinD, lenD, pD, argA, h2, h5, h6, ha, encM, hs, rowD]; rfl) ?_)
    refine .head (v := false) (by simp [opd, upd]) (fun hf => by cases hf) (fun _ => hQ _ ⟨?_, ?_, ?_, ?_, ?_⟩ ?_)
    · simp [upd, h2]
    · simp [upd, h3]
    · simp [upd, h5]
    · simpa [upds] using ha
    · simpa [upds] using hb
    · have h1 : a.rows[s].take (a.rows[s].length - 0) = a.rows[s] := by simp
      have h2 : b.rows[s].take (a.rows[s].length - 0) = b.rows[s] := by rw [Nat.sub_zero, hl]; simp
      rw [h1, h2] at eq; exact eq
structure I16 (a b : M) (k : Nat) (st : St) : Prop where
  le : k ≤ a.rows.length
  f : F16 a b (a.rows.length - k) st
  eq : a.rows.take (a.rows.length - k) = b.rows.take (a.rows.length - k)
theorem spec16 {a b : M} (hL : a.rows.length < 2 ^ 62) (hR : ∀ r ∈ a.rows, r.length < 2 ^ 62) : bodyR 16 [encM a, encM b] = some (.bool (decide (a.ins = b.ins ∧ a.outs = b.outs ∧ a.rows = b.rows))) := by
  have key : V E 16 75 b16 ⟨argA [encM a, encM b], H.empty⟩ ⟨fun _ => False, fun s => s.A 4 = .bool (decide (a.ins = b.ins ∧ a.outs = b.outs ∧ a.rows = b.rows)), fun _ _ => False, fun _ _ => False⟩ := by
    have fin : ∀ (st : St) (v : Bool), st.A 4 = .bool v → v = decide (a.ins = b.ins ∧ a.outs = b.outs ∧ a.rows = b.rows) → st.A 4 = .bool (decide (a.ins = b.ins ∧ a.outs = b.outs ∧ a.rows = b.rows)) := fun st v h e => by rw [h, e]
    unfold b16
    refine .then xr16_0 (by simp [o16_0, builtinD, lenD, pD, argA, encM]; rfl) ?_
    by_cases c1 : a.ins = b.ins
    · by_cases c2 : a.outs = b.outs
      · by_cases c3 : a.rows.length = b.rows.length
        · refine .assoc (.then xr16_1 (by simp [o16_1, builtinD, lenD, pD, argA, c1, c2, c3]; rfl) ?_)
          refine .seq (.cond (v := false) (by simp [opd, upd]) (fun q => by cases q) (fun _ => .skip ?_))
          refine .assoc (.then xr16_3 (by simp [o16_3, builtinD, lenD, pD, argA]; rfl) ?_)
          refine .seq (.block (V.count (I16 a b) ?_ ?_ a.rows.length _ ⟨Nat.le_refl _, ⟨?_, ?_, ?_, ?_, ?_⟩, by simp⟩))
          · rintro k ⟨A, h⟩ ⟨le, ⟨h2, h3, h5, ha, hb⟩, eq⟩
            have hlt : a.rows.length - (k + 1) < a.rows.length := by omega
            generalize hi : a.rows.length - (k + 1) = s at *
            have hk' : a.rows.length - k = s + 1 := by omega
            have hlt' : s < b.rows.length := by omega
            have hwr : IntKind.i64.wrap ((s : Int) + 1) = ((s + 1 : Nat) : Int) := by rw [wrap_id] <;> omega
            simp only at h2 h3 h5 ha hb
            have hrl := hR _ (List.getElem_mem hlt)
            rw [cl16_0]
            refine .assoc (.then xr16_4 (by simp [o16_4, builtinD, lenD, pD, argA, h2, h5, ha, encM]; rfl) ?_)
            refine .head (v := decide (s < a.rows.length)) (by simp [opd, upd]) (fun _ => ?_) (fun hf => by simp [hlt] at hf)
            refine .seq (.block (.assoc (.then xr16_6 (by simp [o16_6, builtinD, lenD, pD, argA, h2, h3, h5, ha, hb, encM, hlt, hlt', rowD]; rfl) ?_)))
            by_cases c4 : a.rows[s].length = b.rows[s].length
            · refine .seq (.cond (v := false) (by simp [opd, upd, c4]) (fun q => by cases q) (fun _ => .skip ?_))
              refine .then xr16_8 (by simp [o16_8, builtinD, lenD, pD, argA]; rfl) ?_
              refine .block (loop16b hlt hlt' c4 hrl ?_ ?_ a.rows[s].length _ ⟨by simp [hlt], ⟨?_, ?_, ?_, ?_, ?_⟩, ?_, ?_⟩)
              · rintro ⟨A1, h1⟩ ⟨g2, g3, g5, ga, gb⟩ he
                simp only at g2 g3 g5 ga gb
                show V E 16 75 r16_5 _ _
                refine .reg xr16_5 (by simp [o16_5, builtinD, lenD, pD, argA, g5]; rfl) ⟨by omega, ⟨?_, ?_, ?_, ?_, ?_⟩, ?_⟩
                · simp [upd, g2]
                · simp [upd, g3]
                · rw [hk']; simp [upd, hwr]
                · simpa [upds] using ga
                · simpa [upds] using gb
                · rw [hk', List.take_succ_eq_append_getElem hlt, List.take_succ_eq_append_getElem hlt', eq, he]
              · intro st h4 hne
                show st.A 4 = _
                rw [h4]
                have : ¬ a.rows = b.rows := fun e => hne (by simp [e])
                simp [this]
              · simp [upd, h2]
              · simp [upd, h3]
              · simp [upd, h5]
              · simpa [upds] using ha
              · simpa [upds] using hb
              · simp [upd, hlt]
              · simp [hlt]
            · refine .seq (.cond (v := true) (by simp [opd, upd]; omega) (fun _ => ?_) (fun q => by cases q))
              have : ¬ a.rows = b.rows := fun e => c4 (by simp [e])
              exact .then xr16_7 (by simp [o16_7, builtinD, lenD, pD, argA]; rfl) (.ret (fin _ false (by simp [upd]) (by simp [this])))
          · rintro ⟨A, h⟩ ⟨le, ⟨h2, h3, h5, ha, hb⟩, eq⟩
            simp only at h2 h3 h5 ha hb
            rw [cl16_0]
            refine .assoc (.then xr16_4 (by simp [o16_4, builtinD, lenD, pD, argA, h2, h5, ha, encM]; rfl) ?_)
            refine .head (v := false) (by simp [opd, upd]) (fun hf => by cases hf) (fun _ => ?_)
            have he : a.rows = b.rows := by
              have h1 : a.rows.take (a.rows.length - 0) = a.rows := by simp
              have h2 : b.rows.take (a.rows.length - 0) = b.rows := by rw [Nat.sub_zero, c3]; simp
              rw [h1, h2] at eq; exact eq
            exact .then xr16_13 (by simp [o16_13, builtinD, lenD, pD, argA]; rfl) (.ret (fin _ true (by simp [upd]) (by simp [c1, c2, he])))
          · simp [upd]
          · simp [upd]
          · simp [upd]
          · simp [upd, upds, encM, c1, c2]
          · simp [upd, upds, encM]
        · have c3b : ((a.rows.length : Int) != (b.rows.length : Int)) = true := by simp; omega
          have : ¬ a.rows = b.rows := fun e => c3 (by rw [e])
          refine .assoc (.then xr16_1 (by simp [o16_1, builtinD, lenD, pD, argA, c1, c2, c3b]; rfl) ?_)
          refine .seq (.cond (v := true) (by simp [opd, upd]) (fun _ => ?_) (fun q => by cases q))
          exact .then xr16_2 (by simp [o16_2, builtinD, lenD, pD, argA]; rfl) (.ret (fin _ false (by simp [upd]) (by simp [this])))
      · have c2b : ((a.outs : Int) != (b.outs : Int)) = true := by simp; omega
        refine .assoc (.then xr16_1 (by simp [o16_1, builtinD, lenD, pD, argA, c1, c2b]; rfl) ?_)
        refine .seq (.cond (v := true) (by simp [opd, upd]) (fun _ => ?_) (fun q => by cases q))
        exact .then xr16_2 (by simp [o16_2, builtinD, lenD, pD, argA]; rfl) (.ret (fin _ false (by simp [upd]) (by simp [c2])))
    · have c1b : ((a.ins : Int) != (b.ins : Int)) = true := by simp; omega
      refine .assoc (.then xr16_1 (by simp [o16_1, builtinD, lenD, pD, argA, c1b]; rfl) ?_)
      refine .seq (.cond (v := true) (by simp [opd, upd]) (fun _ => ?_) (fun q => by cases q))
      exact .then xr16_2 (by simp [o16_2, builtinD, lenD, pD, argA]; rfl) (.ret (fin _ false (by simp [upd]) (by simp [c1])))
  obtain ⟨x, s', h1, h2⟩ := key
  cases x with
  | normal => exact h2.elim
  | exit i => exact h2.elim
  | goto l => exact h2.elim
  | ret =>
    have h4 : s'.A 4 = .bool (decide (a.ins = b.ins ∧ a.outs = b.outs ∧ a.rows = b.rows)) := h2
    refine bodyR_V (run16 _ _ (by simp)) ⟨_, _, h1, ⟨_, by simp [resultsD, mapO, resultD, h4]; rfl, by simp [snap, snapDepth]⟩⟩
end Go.Eng.E3
namespace Go.Eng.E3
open Go Go.Eng Go.Proofs
set_option maxRecDepth 100000
attribute [local simp] execR runOps stepOp wantedD evalOp opd upd St.put Eff.apply upds looseOk FP.free FP.idle apart Eff.fp ofVal loadD storeD partD setPart indexAddrD isShift arith unD callOp mapO D.okc pickD buildable buildD placeD convD
set_option linter.unusedSimpArgs false
set_option maxHeartbeats 2000000
structure I53 (a b : List Int) (k : Nat) (st : St) : Prop where
  le : k ≤ a.length
  h0 : st.A 0 = .frz (a.map (D.int .i64)) .unk
  h1 : st.A 1 = .frz (b.map (D.int .i64)) .unk
  h5 : st.A 5 = .int .i64 ((a.length - k : Nat) : Int)
  eq : a.take (a.length - k) = b.take (a.length - k)
theorem spec53 {a b : List Int} (hL : a.length < 2 ^ 62) : ∃ c : Int, bodyR 53 [.frz (a.map (D.int .i64)) .unk, .frz (b.map (D.int .i64)) .unk] = some (.int .i64 c) ∧ (c = 0 ↔ a = b) := by
  rcases Nat.lt_trichotomy a.length b.length with hl | hl | hl
  · refine ⟨-1, ?_, by constructor <;> intro h; · cases h
                       · subst h; omega⟩
    refine bodyR_V (run53 _ _ (by simp)) ?_
    unfold b53
    refine .then xr53_0 (by simp [o53_0, builtinD, lenD, pD, argA]; rfl) ?_
    refine .assoc (.then xr53_1 (by simp [o53_1, builtinD, lenD, pD, argA, hl]; rfl) ?_)
    refine .seq (.cond (by simp [opd, upd]; rfl) (fun _ => ?_) (fun hf => by cases hf))
    exact .then xr53_2 (by simp [o53_2, builtinD, lenD, pD, argA]; rfl) (.ret ⟨_, by simp [resultsD, mapO, resultD, upd]; rfl, by simp [snap, snapDepth]⟩)
  ·
    by_cases hab : a = b
    · refine ⟨0, ?_, by simp [hab]⟩
      subst hab
      refine bodyR_V (run53 _ _ (by simp)) ?_
      unfold b53
      refine .then xr53_0 (by simp [o53_0, builtinD, lenD, pD, argA]; rfl) ?_
      refine .assoc (.then xr53_1 (by simp [o53_1, builtinD, lenD, pD, argA]; rfl) ?_)
      refine .seq (.cond (by simp [opd, upd]; rfl) (fun hf => by cases hf) (fun _ => .skip ?_))
      refine .assoc (.then xr53_3 (by simp [o53_3, builtinD, lenD, pD, argA]; rfl) ?_)
      refine .seq (.cond (by simp [opd, upd]; rfl) (fun hf => by cases hf) (fun _ => .skip ?_))
      refine .assoc (.then xr53_5 (by simp [o53_5, builtinD, lenD, pD, argA]; rfl) ?_)
      refine .seq (.block (V.count (I53 a a) ?_ ?_ a.length _ ⟨Nat.le_refl _, by simp [upd, argA], by simp [upd, argA], by simp [upd], rfl⟩))
      · rintro k ⟨A, h⟩ ⟨le, h0, h1, h5, eq⟩
        have hlt : a.length - (k + 1) < a.length := by omega
        generalize hi : a.length - (k + 1) = i at *
        have hk' : a.length - k = i + 1 := by omega
        have hw : IntKind.i64.wrap ((i : Int) + 1) = ((i + 1 : Nat) : Int) := by rw [wrap_id] <;> omega
        simp only at h0 h1 h5
        rw [cl53_0]
        refine .assoc (.then xr53_6 (by simp [o53_6, builtinD, lenD, pD, argA, h0, h5]; rfl) ?_)
        refine .head (by simp [opd, upd]; rfl) (fun _ => ?_) (fun hf => by simp [hlt] at hf)
        refine .seq (.block ?_)
        refine .assoc (.then xr53_8 (by simp [o53_8, builtinD, lenD, pD, argA, h0, h1, h5, hlt]; rfl) ?_)
        refine .seq (.cond (by simp [opd, upd]; rfl) (fun hf => by cases hf) (fun _ => .skip ?_))
        refine .then xr53_10 (by simp [o53_10, builtinD, lenD, pD, argA, h0, h1, h5, hlt]; rfl) ?_
        refine .cond (by simp [opd, upd]; rfl) (fun hf => by cases hf) (fun _ => .skip ?_)
        refine .reg xr53_7 (by simp [o53_7, builtinD, lenD, pD, argA, h5]; rfl) ⟨by omega, ?_, ?_, ?_, rfl⟩
        · simp [upd, h0]
        · simp [upd, h1]
        · simp [upd, hk', hw]
      · rintro ⟨A, h⟩ ⟨le, h0, h1, h5, eq⟩
        simp only at h0 h1 h5
        rw [cl53_0]
        refine .assoc (.then xr53_6 (by simp [o53_6, builtinD, lenD, pD, argA, h0, h5]; rfl) ?_)
        refine .head (by simp [opd, upd]; rfl) (fun hf => by simp at hf) (fun _ => ?_)
        exact .then xr53_12 (by simp [o53_12, builtinD, lenD, pD, argA]; rfl) (.ret ⟨_, by simp [resultsD, mapO, resultD, upd]; rfl, by simp [snap, snapDepth]⟩)
    · have key : ∃ c : Int, c ≠ 0 ∧ bodyR 53 [.frz (a.map (D.int .i64)) .unk, .frz (b.map (D.int .i64)) .unk] = some (.int .i64 c) := by
        have hV : V E 53 40 b53 ⟨argA [.frz (a.map (D.int .i64)) .unk, .frz (b.map (D.int .i64)) .unk], H.empty⟩ ⟨fun _ => False, fun s => ∃ c : Int, c ≠ 0 ∧ s.A 4 = .int .i64 c, fun _ _ => False, fun _ _ => False⟩ := by
          unfold b53
          refine .then xr53_0 (by simp [o53_0, builtinD, lenD, pD, argA]; rfl) ?_
          refine .assoc (.then xr53_1 (by simp [o53_1, builtinD, lenD, pD, argA, hl]; rfl) ?_)
          refine .seq (.cond (by simp [opd, upd]; rfl) (fun hf => by cases hf) (fun _ => .skip ?_))
          refine .assoc (.then xr53_3 (by simp [o53_3, builtinD, lenD, pD, argA, hl]; rfl) ?_)
          refine .seq (.cond (by simp [opd, upd]; rfl) (fun hf => by cases hf) (fun _ => .skip ?_))
          refine .assoc (.then xr53_5 (by simp [o53_5, builtinD, lenD, pD, argA]; rfl) ?_)
          refine .seq (.block (V.count (I53 a b) ?_ ?_ a.length _ ⟨Nat.le_refl _, by simp [upd, argA], by simp [upd, argA], by simp [upd], by simp⟩))
          · rintro k ⟨A, h⟩ ⟨le, h0, h1, h5, eq⟩
            have hlt : a.length - (k + 1) < a.length := by omega
            generalize hi : a.length - (k + 1) = i at *
            have hk' : a.length - k = i + 1 := by omega
            have hlt' : i < b.length := by omega
            have hw : IntKind.i64.wrap ((i : Int) + 1) = ((i + 1 : Nat) : Int) := by rw [wrap_id] <;> omega
            simp only at h0 h1 h5
            rw [cl53_0]
            refine .assoc (.then xr53_6 (by simp [o53_6, builtinD, lenD, pD, argA, h0, h5]; rfl) ?_)
            refine .head (by simp [opd, upd]; rfl) (fun _ => ?_) (fun hf => by simp [hlt] at hf)
            refine .seq (.block ?_)
            refine .assoc (.then xr53_8 (by simp [o53_8, builtinD, lenD, pD, argA, h0, h1, h5, hlt, hlt']; rfl) ?_)
            refine .seq (.cond (by simp [opd, upd]; rfl) (fun _ => ?_) (fun q1 => .skip ?_))
            · exact .then xr53_9 (by simp [o53_9, builtinD, lenD, pD, argA]; rfl) (.ret ⟨-1, by decide, by simp [upd]⟩)
            refine .then xr53_10 (by simp [o53_10, builtinD, lenD, pD, argA, h0, h1, h5, hlt, hlt']; rfl) ?_
            refine .cond (by simp [opd, upd]; rfl) (fun _ => ?_) (fun q2 => .skip ?_)
            · exact .then xr53_11 (by simp [o53_11, builtinD, lenD, pD, argA]; rfl) (.ret ⟨1, by decide, by simp [upd]⟩)
            refine .reg xr53_7 (by simp [o53_7, builtinD, lenD, pD, argA, h5]; rfl) ⟨by omega, ?_, ?_, ?_, ?_⟩
            · simp [upd, h0]
            · simp [upd, h1]
            · simp [upd, hk', hw]
            · have e1 : ¬ a[i] < b[i] := by simpa using q1
              have e2 : ¬ b[i] < a[i] := by simpa using q2
              rw [hk', List.take_succ_eq_append_getElem hlt, List.take_succ_eq_append_getElem hlt', eq, show a[i] = b[i] by omega]
          · rintro ⟨A, h⟩ ⟨le, h0, h1, h5, eq⟩
            exact absurd (by simpa [List.take_of_length_le, hl] using eq) hab
        obtain ⟨x, s', h1, h2⟩ := hV
        cases x with
        | normal => exact h2.elim
        | exit i => exact h2.elim
        | goto l => exact h2.elim
        | ret =>
          obtain ⟨c, hc, h4⟩ := h2
          refine ⟨c, hc, ?_⟩
          refine bodyR_V (run53 _ _ (by simp)) ⟨_, _, h1, ⟨.int .i64 c, by simp [resultsD, mapO, resultD, h4], by simp [snap, snapDepth]⟩⟩
      obtain ⟨c, hc, hb⟩ := key
      exact ⟨c, hb, by simp [hc, hab]⟩
  · refine ⟨1, ?_, by constructor <;> intro h; · cases h
                      · subst h; omega⟩
    have hl' : ¬ a.length < b.length := by omega
    refine bodyR_V (run53 _ _ (by simp)) ?_
    unfold b53
    refine .then xr53_0 (by simp [o53_0, builtinD, lenD, pD, argA]; rfl) ?_
    refine .assoc (.then xr53_1 (by simp [o53_1, builtinD, lenD, pD, argA, hl']; rfl) ?_)
    refine .seq (.cond (by simp [opd, upd]; rfl) (fun hf => by cases hf) (fun _ => .skip ?_))
    refine .assoc (.then xr53_3 (by simp [o53_3, builtinD, lenD, pD, argA, hl]; rfl) ?_)
    refine .seq (.cond (by simp [opd, upd]; rfl) (fun _ => ?_) (fun hf => by cases hf))
    exact .then xr53_4 (by simp [o53_4, builtinD, lenD, pD, argA]; rfl) (.ret ⟨_, by simp [resultsD, mapO, resultD, upd]; rfl, by simp [snap, snapDepth]⟩)
theorem snap_ints' (kp : Bool) (blk : Nat → Blk) (n : Nat) (l : List Int) : snap kp blk (n + 2) (.frz (l.map (D.int .i64)) .unk) = some (.frz (l.map (D.int .i64)) .unk, []) := by
  rw [snap_ints]; rfl
theorem spec21 {a b : List Int} (hL : a.length < 2 ^ 62) : bodyR 21 [.frz (a.map (D.int .i64)) .unk, .frz (b.map (D.int .i64)) .unk] = some (.bool (decide (a = b))) := by
  obtain ⟨c, hc, hc0⟩ := spec53 (a := a) (b := b) hL
  have call : ∀ h, callI E (.fn 53 []) [.frz (a.map (D.int .i64)) .unk, .frz (b.map (D.int .i64)) .unk] h = some (.int .i64 c, h, {}) := fun h => call_pure (by decide) (snaps2 (snap_ints' _ _ 7 a) (snap_ints' _ _ 7 b)) hc
  have hd : (c == 0) = decide (a = b) := by
    by_cases e : a = b
    · rw [hc0.2 e]; simp [e]
    · have : c ≠ 0 := fun q => e (hc0.1 q)
      simp [e, this]
  refine bodyR_V (run21 _ _ (by simp)) ?_
  unfold b21
  refine .then xr21_0 (by simp [o21_0, builtinD, lenD, pD, argA]; rfl) ?_
  refine .then xr21_1 (by simp [o21_1, builtinD, lenD, pD, argA, call, hd]; rfl) ?_
  refine .ret ⟨_, by simp [resultsD, mapO, resultD, upd]; rfl, by simp [snap, snapDepth]⟩
end Go.Eng.E3
namespace Go.Eng.E3
open Go Go.Eng
set_option linter.unusedSimpArgs false
set_option linter.unusedVariables false
theorem lex_irrefl : ∀ u, lexM u u = false
  | [] => rfl
  | a :: u => by rw [lexM, if_pos rfl, lex_irrefl u]
theorem lex_trans : ∀ {u v w}, lexM u v = true → lexM v w = true → lexM u w = true
  | a :: u, b :: v, c :: w, h1, h2 => by
    rw [lexM] at h1 h2 ⊢
    by_cases e1 : a = b
    · rw [if_pos e1] at h1
      by_cases e2 : b = c
      · rw [if_pos e2] at h2
        rw [if_pos (e1.trans e2)]
        exact lex_trans h1 h2
      · rw [if_neg e2] at h2
        rw [if_neg (by rw [e1]; exact e2), e1]; exact h2
    · rw [if_neg e1] at h1
      have h1' := of_decide_eq_true h1
      by_cases e2 : b = c
      · rw [if_neg (by omega), ← e2]; exact h1
      · rw [if_neg e2] at h2
        have h2' := of_decide_eq_true h2
        rw [if_neg (by omega)]
        exact decide_eq_true (by omega)
  | [], [], _, h, _ => by cases h
  | [], _ :: _, _, h, _ => by cases h
  | _ :: _, [], _, h, _ => by cases h
  | _ :: _, _ :: _, [], _, h => by cases h
theorem lex_total : ∀ {u v : List Nat}, u.length = v.length → u = v ∨ lexM u v = true ∨ lexM v u = true
  | [], [], _ => .inl rfl
  | a :: u, b :: v, h => by
    have h' : u.length = v.length := by simpa using h
    rw [lexM, lexM]
    rcases Nat.lt_trichotomy a b with e | e | e
    · right; left; rw [if_neg (by omega)]; exact decide_eq_true e
    · subst e
      rw [if_pos rfl, if_pos rfl]
      rcases lex_total h' with e | e | e
      · exact .inl (by rw [e])
      · exact .inr (.inl e)
      · exact .inr (.inr e)
    · right; right; rw [if_neg (by omega)]; exact decide_eq_true e
  | [], _ :: _, h => by simp at h
  | _ :: _, [], h => by simp at h
theorem lex_app : ∀ {u v : List Nat} (x y : List Nat), u.length = v.length → lexM u v = true → lexM (u ++ x) (v ++ y) = true
  | [], [], _, _, _, h => by cases h
  | a :: u, b :: v, x, y, hl, h => by
    have hl' : u.length = v.length := by simpa using hl
    rw [List.cons_append, List.cons_append]
    rw [lexM] at h ⊢
    by_cases e : a = b
    · rw [if_pos e] at h ⊢; exact lex_app x y hl' h
    · rw [if_neg e] at h ⊢; exact h
  | [], _ :: _, _, _, h, _ => by simp at h
  | _ :: _, [], _, _, h, _ => by simp at h
theorem lex_same : ∀ (u x y : List Nat), lexM (u ++ x) (u ++ y) = lexM x y
  | [], _, _ => rfl
  | a :: u, x, y => by rw [List.cons_append, List.cons_append, lexM, if_pos rfl, lex_same u]
theorem less_irrefl (u : List Nat) : lessM u u = false := by rw [lessM, if_pos rfl, lex_irrefl]
theorem less_iff (u v : List Nat) : lessM u v = true ↔ u.length < v.length ∨ (u.length = v.length ∧ lexM u v = true) := by
  unfold lessM
  by_cases h : u.length = v.length
  · rw [if_pos h]; constructor
    · intro e; exact .inr ⟨h, e⟩
    · rintro (e | e); omega; exact e.2
  · rw [if_neg h, decide_eq_true_eq]; constructor
    · intro e; exact .inl e
    · rintro (e | e); exact e; exact absurd e.1 h
theorem less_trans {u v w : List Nat} (h1 : lessM u v = true) (h2 : lessM v w = true) : lessM u w = true := by
  rw [less_iff] at *
  rcases h1 with h1 | ⟨h1, h1'⟩ <;> rcases h2 with h2 | ⟨h2, h2'⟩
  · exact .inl (by omega)
  · exact .inl (by omega)
  · exact .inl (by omega)
  · exact .inr ⟨by omega, lex_trans h1' h2'⟩
theorem less_total (u v : List Nat) : u = v ∨ lessM u v = true ∨ lessM v u = true := by
  rw [less_iff, less_iff]
  rcases Nat.lt_trichotomy u.length v.length with h | h | h
  · exact .inr (.inl (.inl h))
  · rcases lex_total h with e | e | e
    · exact .inl e
    · exact .inr (.inl (.inr ⟨h, e⟩))
    · exact .inr (.inr (.inr ⟨h.symm, e⟩))
  · exact .inr (.inr (.inl h))
theorem less_asymm {u v : List Nat} (h : lessM u v = true) : lessM v u = false := by
  cases e : lessM v u with
  | false => rfl
  | true => have := less_trans h e; rw [less_irrefl] at this; cases this
theorem le_of {u v : List Nat} (h : lessM v u = false) : u = v ∨ lessM u v = true := by
  rcases less_total u v with e | e | e
  · exact .inl e
  · exact .inr e
  · rw [h] at e; cases e
theorem le_trans' {u v w : List Nat} (h1 : lessM v u = false) (h2 : lessM w v = false) : lessM w u = false := by
  rcases le_of h1 with rfl | h1
  · exact h2
  · rcases le_of h2 with rfl | h2
    · exact less_asymm h1
    · exact less_asymm (less_trans h1 h2)
theorem less_snoc {u v : List Nat} (i : Nat) (h : lessM u v = true) : lessM (u ++ [i]) (v ++ [i]) = true := by
  rw [less_iff] at *
  simp only [List.length_append, List.length_singleton]
  rcases h with h | ⟨h, h'⟩
  · exact .inl (by omega)
  · exact .inr ⟨by omega, lex_app _ _ h h'⟩
theorem le_snoc {u v : List Nat} (i : Nat) (h : lessM v u = false) : lessM (v ++ [i]) (u ++ [i]) = false := by
  rcases le_of h with rfl | h
  · exact less_irrefl _
  · exact less_asymm (less_snoc i h)
theorem getD_set_self {α : Type} {l : List α} {i : Nat} (h : i < l.length) (x d : α) : (l.set i x).getD i d = x := by simp [h]
theorem getD_set_ne {α : Type} {l : List α} {i j : Nat} (h : i ≠ j) (x d : α) : (l.set i x).getD j d = l.getD j d := by simp [List.getElem?_set_ne h]
structure FI (m : M) (f : Nat) (p0 : PS) (done : List (List Nat)) (A : List (List Nat)) (p : PS) : Prop where
  ll : p.l.length = m.rows.length
  il : p.is.length = m.rows.length
  more : p.more = A.flatMap fun w => childs w m.ins
  sub : A.Sublist done
  mem : ∀ w ∈ A, 0 ≤ aftM m f w ∧ p.is.getD (aftM m f w).toNat false = true ∧ p.l.getD (aftM m f w).toNat [] = w
  keep : ∀ s, s < m.rows.length → p0.is.getD s false = true → p.is.getD s false = true ∧ p.l.getD s [] = p0.l.getD s []
  new : ∀ s, s < m.rows.length → p.is.getD s false = true → p0.is.getD s false = true ∨ (p.l.getD s [] ∈ A ∧ aftM m f (p.l.getD s []) = s ∧ ∀ w ∈ done, aftM m f w = s → lessM w (p.l.getD s []) = false)
  seen : ∀ w ∈ done, 0 ≤ aftM m f w → p.is.getD (aftM m f w).toNat false = true
theorem FI.visit {m : M} {f : Nat} {p0 p : PS} {done A : List (List Nat)} {w : List Nat} (hs : StOk m (aftM m f w)) (hsort : ∀ u ∈ done, lessM u w = true) (h : FI m f p0 done A p) : ∃ A', FI m f p0 (done ++ [w]) A' (visitM m f p w) := by
  obtain ⟨ll, il, more, sub, mem, keep, new, seen⟩ := h
  unfold visitM
  simp only
  by_cases hc : aftM m f w < 0 ∨ p.is.getD (aftM m f w).toNat false = true
  · rw [if_pos hc]
    refine ⟨A, ll, il, more, sub.trans (List.sublist_append_left _ _), mem, keep, ?_, ?_⟩
    · intro s hs his
      refine (new s hs his).imp id fun ⟨h1, h2, h3⟩ => ⟨h1, h2, fun u hu hus => ?_⟩
      rcases List.mem_append.1 hu with hu | hu
      · exact h3 u hu hus
      · simp at hu; subst hu
        exact less_asymm (hsort _ (sub.subset h1))
    · intro u hu hus
      rcases List.mem_append.1 hu with hu | hu
      · exact seen u hu hus
      · simp at hu; subst hu
        rcases hc with hc | hc
        · omega
        · exact hc
  · rw [if_neg hc]
    have h0 : 0 ≤ aftM m f w := by omega
    have hnf : ¬ p.is.getD (aftM m f w).toNat false = true := fun e => hc (.inr e)
    obtain ⟨t, ht⟩ := Int.eq_ofNat_of_zero_le h0
    have htn : t < m.rows.length := by rcases hs with e | e <;> omega
    rw [ht] at hnf
    simp only [Int.toNat_natCast] at hnf
    simp only [ht, Int.toNat_natCast]
    have il' : t < p.is.length := by omega
    have ll' : t < p.l.length := by omega
    refine ⟨A ++ [w], by simpa using ll, by simpa using il, by simp [more, List.flatMap_append], ?_, ?_, ?_, ?_, ?_⟩
    · exact sub.append (List.Sublist.refl _)
    · intro u hu
      rcases List.mem_append.1 hu with hu | hu
      · obtain ⟨a1, a2, a3⟩ := mem u hu
        have hne : t ≠ (aftM m f u).toNat := fun e => hnf (by rw [e]; exact a2)
        refine ⟨a1, ?_, ?_⟩
        · rw [getD_set_ne hne]; exact a2
        · rw [getD_set_ne hne]; exact a3
      · simp at hu; subst hu
        rw [ht]
        simp only [Int.toNat_natCast]
        exact ⟨by omega, getD_set_self il' _ _, getD_set_self ll' _ _⟩
    · intro s hs h0
      have hk := keep s hs h0
      have hne : t ≠ s := fun e => hnf (by rw [e]; exact hk.1)
      rw [getD_set_ne hne, getD_set_ne hne]
      exact hk
    · intro s hs his
      by_cases hne : t = s
      · subst hne
        right
        rw [getD_set_self ll']
        refine ⟨List.mem_append_right _ (List.mem_singleton.2 rfl), ht, fun u hu hus => ?_⟩
        rcases List.mem_append.1 hu with hu | hu
        · have := seen u hu (by omega)
          rw [hus] at this
          exact absurd this hnf
        · simp at hu; subst hu; exact less_irrefl _
      · rw [getD_set_ne hne] at his
        rw [getD_set_ne hne]
        refine (new s hs his).imp id fun ⟨h1, h2, h3⟩ => ⟨List.mem_append_left _ h1, h2, fun u hu hus => ?_⟩
        rcases List.mem_append.1 hu with hu | hu
        · exact h3 u hu hus
        · simp at hu; subst hu
          rw [ht] at hus; omega
    · intro u hu hus
      rcases List.mem_append.1 hu with hu | hu
      · have := seen u hu hus
        by_cases hne : t = (aftM m f u).toNat
        · rw [← hne]; exact getD_set_self il' _ _
        · rw [getD_set_ne hne]; exact this
      · simp at hu; subst hu
        rw [ht]; exact getD_set_self il' _ _
theorem FI.fold {m : M} {f : Nat} {p0 : PS} : ∀ (ws : List (List Nat)) {done A : List (List Nat)} {p : PS}, (∀ w ∈ ws, StOk m (aftM m f w)) → (done ++ ws).Pairwise (fun u v => lessM u v = true) → FI m f p0 done A p → ∃ A', FI m f p0 (done ++ ws) A' (ws.foldl (visitM m f) p)
  | [], done, A, p, _, _, h => ⟨A, by simpa using h⟩
  | w :: ws, done, A, p, hs, hp, h => by
    have hsort : ∀ u ∈ done, lessM u w = true := fun u hu => (List.pairwise_append.1 hp).2.2 u hu w (List.mem_cons_self ..)
    obtain ⟨A', h'⟩ := h.visit (hs w (List.mem_cons_self ..)) hsort
    have := FI.fold ws (fun u hu => hs u (List.mem_cons_of_mem _ hu)) (by simpa using hp) h'
    simpa using this
structure BI (m : M) (f j : Nat) (p : PS) : Prop where
  ll : p.l.length = m.rows.length
  il : p.is.length = m.rows.length
  ws : ∀ w ∈ p.more, Wok m w ∧ w.length = j
  sorted : p.more.Pairwise (fun u v => lessM u v = true)
  acc : ∀ s, s < m.rows.length → p.is.getD s false = true → Wok m (p.l.getD s []) ∧ aftM m f (p.l.getD s []) = s ∧ (p.l.getD s []).length < j ∧ ∀ w, Wok m w → aftM m f w = s → lessM w (p.l.getD s []) = false
  short : ∀ w, Wok m w → w.length < j → 0 ≤ aftM m f w → p.is.getD (aftM m f w).toNat false = true
  here : ∀ w, Wok m w → w.length = j → 0 ≤ aftM m f w → p.is.getD (aftM m f w).toNat false = true ∨ ∃ w' ∈ p.more, aftM m f w' = aftM m f w ∧ lessM w w' = false
theorem snoc_of_len {w : List Nat} {j : Nat} (h : w.length = j + 1) : ∃ u i, w = u ++ [i] ∧ u.length = j := by
  refine ⟨w.dropLast, w.getLast (by intro e; rw [e] at h; simp at h), (List.dropLast_concat_getLast _).symm, by simp [h]⟩
theorem childs_mem {w v : List Nat} {n : Nat} : v ∈ childs w n ↔ ∃ i, i < n ∧ v = w ++ [i] := by
  unfold childs
  simp only [List.mem_map, List.mem_range]
  constructor
  · rintro ⟨i, h, rfl⟩; exact ⟨i, h, rfl⟩
  · rintro ⟨i, h, rfl⟩; exact ⟨i, h, rfl⟩
theorem childs_sorted (w : List Nat) (n : Nat) : (childs w n).Pairwise (fun u v => lessM u v = true) := by
  unfold childs
  rw [List.pairwise_map]
  refine List.Pairwise.imp ?_ List.pairwise_lt_range
  intro a b hab
  rw [less_iff]
  refine .inr ⟨by simp, ?_⟩
  rw [lex_same, lexM, if_neg (by omega)]
  exact decide_eq_true hab
theorem flat_sorted {j n : Nat} : ∀ {A : List (List Nat)}, (∀ w ∈ A, w.length = j) → A.Pairwise (fun u v => lessM u v = true) → (A.flatMap fun w => childs w n).Pairwise (fun u v => lessM u v = true)
  | [], _, _ => by simp
  | w :: A, hl, hp => by
    rw [List.flatMap_cons, List.pairwise_append]
    have hp' := List.pairwise_cons.1 hp
    refine ⟨childs_sorted w n, flat_sorted (fun u hu => hl u (List.mem_cons_of_mem _ hu)) hp'.2, fun u hu v hv => ?_⟩
    obtain ⟨i, _, rfl⟩ := childs_mem.1 hu
    obtain ⟨w', hw', hv⟩ := List.mem_flatMap.1 hv
    obtain ⟨i', _, rfl⟩ := childs_mem.1 hv
    have h1 := hp'.1 w' hw'
    have l1 := hl w (List.mem_cons_self ..)
    have l2 := hl w' (List.mem_cons_of_mem _ hw')
    rw [less_iff] at h1 ⊢
    rcases h1 with h1 | h1
    · omega
    · exact .inr ⟨by simp; omega, lex_app _ _ h1.1 h1.2⟩
theorem BI.step {m : M} (hv : Valid m) {f j : Nat} (hf : f < m.rows.length) {p : PS} (h : BI m f j p) : BI m f (j + 1) (foldM m f ⟨p.l, p.is, []⟩ p.more) := by
  obtain ⟨ll, il, ws, sorted, acc, short, here⟩ := h
  have hst : ∀ {w}, Wok m w → StOk m (aftM m f w) := fun hw => aftOk hv (.inr ⟨by omega, by omega⟩) hw
  obtain ⟨A, fi⟩ := FI.fold (p0 := ⟨p.l, p.is, []⟩) (f := f) (done := []) (A := []) (p := ⟨p.l, p.is, []⟩) p.more (fun w hw => hst (ws w hw).1) (by simpa using sorted)
    ⟨ll, il, rfl, List.Sublist.refl _, fun w hw => by simp at hw, fun s _ h => ⟨h, rfl⟩, fun s _ h => .inl h, fun w hw => by simp at hw⟩
  rw [List.nil_append] at fi
  change FI m f ⟨p.l, p.is, []⟩ p.more A (foldM m f ⟨p.l, p.is, []⟩ p.more) at fi
  generalize foldM m f ⟨p.l, p.is, []⟩ p.more = q at fi
  obtain ⟨fll, fil, fmore, fsub, fmem, fkeep, fnew, fseen⟩ := fi
  have hlen : ∀ w ∈ A, w.length = j := fun w hw => (ws w (fsub.subset hw)).2
  have toN : ∀ {w}, Wok m w → 0 ≤ aftM m f w → (aftM m f w).toNat < m.rows.length := fun hw h0 => by
    rcases hst hw with e | e <;> omega
  have short' : ∀ w, Wok m w → w.length < j + 1 → 0 ≤ aftM m f w → q.is.getD (aftM m f w).toNat false = true := by
    intro w hw hl h0
    rcases Nat.lt_or_ge w.length j with hl' | hl'
    · exact (fkeep _ (toN hw h0) (short w hw hl' h0)).1
    · rcases here w hw (by omega) h0 with h | ⟨w', hw', e, _⟩
      · exact (fkeep _ (toN hw h0) h).1
      · have := fseen w' hw' (by omega)
        rwa [e] at this
  have acc' : ∀ s, s < m.rows.length → q.is.getD s false = true → Wok m (q.l.getD s []) ∧ aftM m f (q.l.getD s []) = s ∧ (q.l.getD s []).length < j + 1 ∧ ∀ w, Wok m w → aftM m f w = s → lessM w (q.l.getD s []) = false := by
    intro s hs his
    rcases fnew s hs his with h0 | ⟨h1, h2, h3⟩
    · rw [(fkeep s hs h0).2]
      obtain ⟨a1, a2, a3, a4⟩ := acc s hs h0
      exact ⟨a1, a2, by simp only; omega, a4⟩
    · have hw := ws _ (fsub.subset h1)
      by_cases h0 : p.is.getD s false = true
      · rw [(fkeep s hs h0).2]
        obtain ⟨a1, a2, a3, a4⟩ := acc s hs h0
        exact ⟨a1, a2, by simp only; omega, a4⟩
      refine ⟨hw.1, h2, by omega, fun w hww hws => ?_⟩
      rcases Nat.lt_trichotomy w.length j with hl | hl | hl
      · have := short w hww hl (by omega)
        rw [hws] at this
        exact absurd this h0
      · rcases here w hww hl (by omega) with h | ⟨w', hw', e, hle⟩
        · rw [hws] at h
          exact absurd h h0
        · exact le_trans' (h3 w' hw' (by rw [e, hws])) hle
      · refine less_asymm ((less_iff _ _).2 (.inl (by omega)))
  refine ⟨fll, fil, ?_, ?_, acc', short', ?_⟩
  · intro w hw
    rw [fmore] at hw
    obtain ⟨u, hu, hw⟩ := List.mem_flatMap.1 hw
    obtain ⟨i, hi, rfl⟩ := childs_mem.1 hw
    refine ⟨Wok.app.2 ⟨(ws u (fsub.subset hu)).1, Wok.cons.2 ⟨hi, Wok.nil⟩⟩, by simp [hlen u hu]⟩
  · rw [fmore]
    exact flat_sorted hlen (sorted.sublist fsub)
  · intro w hw hl h0
    obtain ⟨u, i, rfl, hul⟩ := snoc_of_len hl
    have hw' := Wok.app.1 hw
    have hi := (Wok.cons.1 hw'.2).1
    have e1 : aftM m f (u ++ [i]) = (nextM m (aftM m f u) i).1 := by rw [aft_app]; rfl
    have hu0 : 0 ≤ aftM m f u := by
      rcases Int.lt_or_le (aftM m f u) 0 with h | h
      · rw [e1, next_neg m h] at h0; simp at h0
      · exact h
    have hun := toN hw'.1 hu0
    have hu' := short' u hw'.1 (by omega) hu0
    obtain ⟨a1, a2, a3, a4⟩ := acc' _ hun hu'
    rw [Int.toNat_of_nonneg hu0] at a2
    generalize ha : q.l.getD (aftM m f u).toNat [] = a at *
    have e2 : aftM m f (a ++ [i]) = aftM m f (u ++ [i]) := by rw [aft_app, aft_app, a2]
    have hle : lessM u a = false := a4 u hw'.1 (by omega)
    rcases Nat.lt_or_ge a.length j with hal | hal
    · left
      have := short' (a ++ [i]) (Wok.app.2 ⟨a1, hw'.2⟩) (by simp; omega) (by omega)
      rwa [e2] at this
    · right
      refine ⟨a ++ [i], ?_, e2, le_snoc i hle⟩
      rw [fmore]
      refine List.mem_flatMap.2 ⟨a, ?_, childs_mem.2 ⟨i, hi, rfl⟩⟩
      rcases fnew _ hun hu' with h | h
      · exfalso
        obtain ⟨b1, b2, b3, b4⟩ := acc _ hun h
        have := (fkeep _ hun h).2
        rw [ha] at this
        simp only at this
        rw [← this] at b3
        omega
      · rw [ha] at h; exact h.1
theorem bi_lev {m : M} (hv : Valid m) {f : Nat} (hf : f < m.rows.length) : ∀ j, BI m f j (lev m f j)
  | 0 => by
    refine ⟨by simp [lev], by simp [lev], fun w hw => ?_, by simp [lev], fun s hs h => ?_, fun w _ h => by omega, fun w hw hl h0 => ?_⟩
    · simp [lev] at hw; subst hw; exact ⟨Wok.nil, rfl⟩
    · simp [lev, hs] at h
    · right
      have : w = [] := List.length_eq_zero_iff.1 hl
      subst this
      exact ⟨[], by simp [lev], rfl, less_irrefl _⟩
  | j + 1 => (bi_lev hv hf j).step hv hf
structure Acc (m : M) (f : Nat) (l : List (List Nat)) (is : List Bool) : Prop where
  ll : l.length = m.rows.length
  il : is.length = m.rows.length
  ok : ∀ s, s < m.rows.length → is.getD s false = true → Wok m (l.getD s []) ∧ aftM m f (l.getD s []) = s ∧ ∀ w, Wok m w → aftM m f w = s → lessM w (l.getD s []) = false
  all : ∀ w, Wok m w → 0 ≤ aftM m f w → is.getD (aftM m f w).toNat false = true
theorem acc_lev {m : M} (hv : Valid m) {f : Nat} (hf : f < m.rows.length) {j : Nat} (hj : (lev m f j).more = []) : Acc m f (lev m f j).l (lev m f j).is := by
  obtain ⟨ll, il, ws, sorted, acc, short, here⟩ := bi_lev hv hf j
  refine ⟨ll, il, fun s hs h => ?_, ?_⟩
  · obtain ⟨a1, a2, a3, a4⟩ := acc s hs h; exact ⟨a1, a2, a4⟩
  · have hst : ∀ {w}, Wok m w → StOk m (aftM m f w) := fun hw => aftOk hv (.inr ⟨by omega, by omega⟩) hw
    have le : ∀ w, Wok m w → w.length ≤ j → 0 ≤ aftM m f w → (lev m f j).is.getD (aftM m f w).toNat false = true := by
      intro w hw hl h0
      rcases Nat.lt_or_ge w.length j with h | h
      · exact short w hw h h0
      · rcases here w hw (by omega) h0 with h | ⟨w', hw', _⟩
        · exact h
        · rw [hj] at hw'; cases hw'
    have key : ∀ n, ∀ w, w.length = n → Wok m w → 0 ≤ aftM m f w → (lev m f j).is.getD (aftM m f w).toNat false = true := by
      intro n
      induction n with
      | zero => intro w hl hw h0; exact le w hw (by omega) h0
      | succ n ih =>
        intro w hl hw h0
        obtain ⟨u, i, rfl, hul⟩ := snoc_of_len hl
        have hw' := Wok.app.1 hw
        have e1 : aftM m f (u ++ [i]) = (nextM m (aftM m f u) i).1 := by rw [aft_app]; rfl
        have hu0 : 0 ≤ aftM m f u := by
          rcases Int.lt_or_le (aftM m f u) 0 with h | h
          · rw [e1, next_neg m h] at h0; simp at h0
          · exact h
        have hun : (aftM m f u).toNat < m.rows.length := by rcases hst hw'.1 with e | e <;> omega
        obtain ⟨a1, a2, a3, a4⟩ := acc _ hun (ih u hul hw'.1 hu0)
        rw [Int.toNat_of_nonneg hu0] at a2
        have e2 : aftM m f ((lev m f j).l.getD (aftM m f u).toNat [] ++ [i]) = aftM m f (u ++ [i]) := by rw [aft_app, aft_app, a2]
        have := le _ (Wok.app.2 ⟨a1, hw'.2⟩) (by simp only [List.length_append, List.length_singleton]; omega) (by rw [e2]; exact h0)
        rwa [e2] at this
    exact fun w hw h0 => key _ w rfl hw h0
end Go.Eng.E3
