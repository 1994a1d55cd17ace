import Derived.Test.YtcogomacihefoaaKnD
set_option linter.unusedVariables false
set_option linter.unusedSimpArgs false
set_option linter.unusedSectionVars false
set_option linter.deprecated false
namespace Go.Eng
open Go
def CFok (E : Env) (cf : CallFn) : Prop := ∀ f a h r h' fp, cf f a h = some (r, h', fp) → callI E f a h.up = some (r, h'.up, fp)
section
variable {E : Env} {cf : CallFn} {cur : FuncId}
theorem puts_up' {h h' : FH} {l : List (Nat × Blk)} (e : h.puts l = some h') : (⟨h.up.next, upds h.up.blk l⟩ : H) = h'.up := (FH.puts_up l h h' e).symm
theorem callOpF_up (hcf : CFok E cf) {c : Call} {s : Nat} {st : FS} {v : D} {h' : FH} {fp : FP} (h : callOpF E cf cur c s st = some (v, h', fp)) : callOp E (callI E) cur c s st.up = some (v, h'.up, fp) := by
  unfold callOpF at h
  unfold callOp
  change (match mapO (opd st.fA) c.args.toList with | none => none | some args => _) = _
  split at h
  · cases h
  · rename_i args ha
    rw [ha]
    simp only
    split at h
    · rename_i b hb
      try simp only [hb]
      split at h
      · rename_i e he
        split at h
        · rename_i h1 hp
          cases h
          have he' : builtinD E.T (E.pol.mu cur) s st.up.h.blk b c.argTypes.toList args = some e := he
          rw [he']
          simp only [FS.up]
          rw [puts_up' hp]
        · cases h
      · cases h
    · rename_i f hf
      try simp only [hf]
      split at h
      · rename_i fv hfv
        have hfv' : opd st.up.A f = some fv := hfv
        rw [hfv']
        exact hcf _ _ _ _ _ _ h
      · cases h
    · cases h
theorem stepF_up (hcf : CFok E cf) {ops : List Oper} {base i : Nat} {o : Oper} {st st' : FS} {fp : FP} (h : stepF E cf cur ops base i o st = some (st', fp)) : stepOp E (callI E) cur ops base i o st.up = some (st'.up, fp) := by
  unfold stepF at h
  unfold stepOp
  have hw : wantedD ops st.up.A o = wantedD ops st.fA o := rfl
  rw [hw]
  split at h
  · cases h
  · rename_i hg
    rw [hg]
    rw [forceT_eq] at h
    cases h
    simp only [FS.up, FS.fA]
    rw [putA_up]
  · rename_i hg
    rw [hg]
    simp only
    split at h
    · rename_i c hc
      split at h
      · rename_i v h' fp' hcall
        rw [forceD_eq, forceT_eq] at h
        cases h
        simp only [hc]
        rw [callOpF_up hcf hcall]
        simp only [FS.up, FS.fA]
        rw [putA_up]
      · cases h
    · rename_i op hnc
      split
      · rename_i c hc; exact absurd hc (hnc c)
      · unfold finishOp at h
        rw [K.ev_eq] at h
        split at h
        · rename_i e he
          rw [forceD_eq, forceT_eq] at h
          have he' : evalOp E.T (E.pol.mu cur) (base + i) st.up.h.blk (opd st.up.A) o.op = some e := he
          rw [he']
          split at h
          · rename_i hw
            cases h
            simp only [FS.up, FS.fA, Eff.apply, Eff.fp, hw, upds, List.map_nil]
            rw [putA_up]
          · split at h
            · rename_i h' hp
              rw [forceT_eq] at h
              cases h
              simp only [FS.up, FS.fA, Eff.apply]
              rw [putA_up, ← puts_up' hp]
            · cases h
        · cases h
theorem runF_up (hcf : CFok E cf) {ops : List Oper} {base : Nat} : ∀ (l : List Oper) (i : Nat) (st st' : FS) (fps : List FP), runF E cf cur ops base i l st = some (st', fps) → runOps E (callI E) cur ops base i l st.up = some (st'.up, fps)
  | [], _, _, _, _, h => by simp only [runF] at h; cases h; rfl
  | o :: l, i, st, st', fps, h => by
    simp only [runF] at h
    simp only [runOps]
    split at h
    · rename_i st1 fp h1
      rw [stepF_up hcf h1]
      simp only
      split at h
      · rename_i st2 fps2 h2
        cases h
        rw [runF_up hcf l _ _ _ _ h2]
      · cases h
    · cases h
theorem regionF_up (hcf : CFok E cf) {ops : List Oper} {draw : Bool} {st st' : FS} (h : regionF E cf cur ops draw st = some st') : execRegion E (callI E) cur ops draw st.up = some st'.up := by
  unfold regionF at h
  rw [forceN_eq] at h
  unfold execRegion
  split at h
  · rename_i s fps h1
    have h2 := runF_up hcf _ _ _ _ _ h1
    have h3 : runOps E (callI E) cur ops st.up.h.next 0 ops ⟨st.up.A, ⟨st.up.h.next + ops.length, st.up.h.blk⟩⟩ = some (s.up, fps) := h2
    rw [h3]
    cases draw with
    | false => simp only [cond_false] at h; cases h; rfl
    | true =>
      simp only [cond_true] at h
      rw [loosePairsB_eq] at h
      cases hl : looseB fps (loosePairs ops) with
      | false => rw [hl] at h; cases h
      | true =>
        rw [hl] at h; cases h
        simp only [if_true]
        rw [if_pos (looseB_ok _ hl)]
  · cases h
variable {N : Nat}
theorem rangeC_up (hcf : CFok E cf) {f : Operand} {ps : Array Tmp} {aa_ bd : Code} {n : Nat} {s : FS} {x : X} {s' : FS} (h : execF E cf cur N n (.rangeFunc f ps aa_ bd) s = some (x, s')) : rangeC (callI E) cur N f ps aa_ bd s.up = some (x, s'.up) := by
  simp only [execF] at h
  unfold rangeC
  split at h
  · rename_i g cap hf
    have hf' : opd s.up.A f = some (.fn g cap) := hf
    rw [hf']
    simp only
    split at h
    · rename_i v h2 fp hc
      have h1 := hcf _ _ _ _ _ _ hc
      rw [FH.set_up] at h1
      have h3 : callI E (.fn g cap) [.yld s.up.h.next] ⟨s.up.h.next + 1, upd s.up.h.blk s.up.h.next (.loop { cur, A := s.up.A, N, params := ps, assign := aa_, body := bd, st := .ready, pending := none })⟩ = some (v, h2.up, fp) := h1
      rw [h3]
      simp only
      split at h
      · rename_i r A hb
        have hb' : h2.up.blk s.up.h.next = (FBlk.loop r A).up := congrArg FBlk.up hb
        rw [hb']
        simp only [FBlk.up]
        split at h
        · cases h
        · rename_i x' hj hst
          cases h
          rw [hj]
          have hup : (h2.set s.h.next (.blk .dead)).up = ⟨h2.up.next, upd h2.up.blk s.up.h.next .dead⟩ := FH.set_up _ _ _
          simp only [FS.up, hup]
          first
            | rfl
            | (split
               · rename_i hb _; exact absurd hb hst
               · rename_i hq; cases hq; rfl
               · rename_i hq; cases hq)
        · cases h
      · cases h
    · cases h
  · cases h
theorem execF_up (hcf : CFok E cf) {n : Nat} : ∀ (c : Code) (s s' : FS) (x : X), execF E cf cur N n c s = some (x, s') → execI E cur N c s.up = some (x, s'.up)
  | .skip, s, s', x, h => by simp only [execF] at h; cases h; exact execI_skip
  | .label _, s, s', x, h => by simp only [execF] at h; cases h; exact execI_label
  | .exit _, s, s', x, h => by simp only [execF] at h; cases h; exact execI_exit
  | .goto _, s, s', x, h => by simp only [execF] at h; cases h; exact execI_goto
  | .ret, s, s', x, h => by simp only [execF] at h; cases h; exact execI_ret
  | .refuse _, s, s', x, h => by simp only [execF] at h; cases h
  | .region id ops draw, s, s', x, h => by
    simp only [execF] at h
    split at h
    · rename_i s1 h1; cases h
      rw [execI_region, regionF_up hcf h1]; rfl
    · cases h
  | .seq a b, s, s', x, h => by
    simp only [execF] at h
    rw [execI_seq]
    cases h1 : execF E cf cur N n a s with
    | none => rw [h1] at h; cases h
    | some p =>
      obtain ⟨x1, s1⟩ := p
      rw [h1] at h
      rw [execF_up hcf a s s1 x1 h1]
      cases x1 with
      | normal => exact execF_up hcf b s1 s' x h
      | exit id => cases h; rfl
      | goto l => cases h; rfl
      | ret => cases h; rfl
  | .cond c a b, s, s', x, h => by
    simp only [execF] at h
    rw [execI_cond]
    split at h
    · rename_i v hv
      have hv' : opd s.up.A c = some (.bool v) := hv
      rw [hv']
      cases v with
      | true => exact execF_up hcf a s s' x h
      | false => exact execF_up hcf b s s' x h
    · cases h
  | .block id c, s, s', x, h => by
    simp only [execF] at h
    rw [execI_block]
    cases h1 : execF E cf cur N n c s with
    | none => rw [h1] at h; cases h
    | some p =>
      obtain ⟨x1, s1⟩ := p
      rw [h1] at h
      rw [execF_up hcf c s s1 x1 h1]
      cases x1 with
      | exit id' =>
        simp only at h ⊢
        cases hb : Nat.beq id' id with
        | true => rw [hb] at h; cases h; rw [if_pos (Nat.eq_of_beq_eq_true hb)]
        | false => rw [hb] at h; cases h; rw [if_neg (Nat.ne_of_beq_eq_false hb)]
      | normal => cases h; rfl
      | goto l => cases h; rfl
      | ret => cases h; rfl
  | .scope c, s, s', x, h => by
    simp only [execF] at h
    rw [execI_scope]
    cases h1 : execF E cf cur N n c s with
    | none => rw [h1] at h; cases h
    | some p =>
      obtain ⟨x1, s1⟩ := p
      rw [h1] at h
      rw [execF_up hcf c s s1 x1 h1]
      cases x1 with
      | goto l =>
        simp only at h ⊢
        cases hb : atEnd c l with
        | true => rw [hb] at h; cases h; rfl
        | false => rw [hb] at h; cases h
      | normal => cases h; rfl
      | exit l => cases h; rfl
      | ret => cases h; rfl
  | .loop c, s, s', x, h => by
    simp only [execF] at h
    have key : ∀ (k : Nat) (s s' : FS) (x : X), loopF (execF E cf cur N n c) k s = some (x, s') → execI E cur N (.loop c) s.up = some (x, s'.up) := by
      intro k
      induction k with
      | zero => intro s s' x h; cases h
      | succ k ih =>
        intro s s' x h
        simp only [loopF] at h
        rw [execI_loop]
        cases h1 : execF E cf cur N n c s with
        | none => rw [h1] at h; cases h
        | some p =>
          obtain ⟨x1, s1⟩ := p
          rw [h1] at h
          rw [execF_up hcf c s s1 x1 h1]
          cases x1 with
          | normal => exact ih s1 s' x h
          | exit id => cases h; rfl
          | goto l => cases h; rfl
          | ret => cases h; rfl
    exact key n s s' x h
  | .rangeFunc f ps aa_ bd, s, s', x, h => by
    rw [execI_rangeFunc]
    exact rangeC_up hcf h
end
theorem argF_get : ∀ (l : List D) (i : Nat) (t : PT D) (u : Nat), (argF l i t).get .undef u = if i ≤ u ∧ u < i + l.length then l.getD (u - i) .undef else t.get .undef u
  | [], i, t, u => by simp [argF]; intro h1 h2; omega
  | a :: r, i, t, u => by
    rw [argF, argF_get r (i + 1) _ u, PT.get_set]
    by_cases h1 : i + 1 ≤ u ∧ u < i + 1 + r.length
    · rw [if_pos h1, if_pos (by simp only [List.length_cons]; omega)]
      rw [show u - i = (u - (i + 1)) + 1 by omega]
      rfl
    · rw [if_neg h1]
      by_cases h2 : u = i
      · subst h2
        rw [if_pos (by simp only [List.length_cons]; omega)]
        simp [upd]
      · rw [if_neg (by simp only [List.length_cons]; omega)]
        simp [upd, h2]
theorem argF_up (l : List D) : (argF l 0 .leaf).get .undef = argA l := by
  funext u
  rw [argF_get]
  simp only [argA, Nat.zero_le, true_and, Nat.zero_add, Nat.sub_zero]
  split
  · rfl
  · rename_i h
    rw [List.getD_eq_getElem?_getD, List.getElem?_eq_none (by omega)]
    rfl
theorem bodyFF_up {E : Env} {cf : CallFn} (hcf : CFok E cf) {n : Nat} {g : FuncId} {args : List D} {h h' : FH} {r : D} (hb : bodyFF E cf n g args h = some (r, h')) : bodyI E g args h.up = some (r, h'.up) := by
  unfold bodyFF at hb
  rw [bodyI_eq]
  split at hb
  · cases hb
  rename_i fn hfn
  rw [hfn]
  simp only
  split at hb
  · cases hb
  rename_i c hc
  rw [hc]
  simp only
  cases hl : Nat.ble args.length fn.ntmps with
  | false => rw [hl] at hb; cases hb
  | true =>
    rw [hl] at hb
    rw [if_pos (Nat.le_of_ble_eq_true hl)]
    simp only [cond_true] at hb
    have hst : ∀ s : FS, s = ⟨argF args 0 .leaf, h⟩ → s.up = ⟨argA args, h.up⟩ := fun s e => by rw [e]; simp only [FS.up, FS.fA, argF_up]
    cases he : execF E cf g fn.ntmps n c ⟨argF args 0 .leaf, h⟩ with
    | none => rw [he] at hb; cases hb
    | some p =>
      obtain ⟨x, s1⟩ := p
      have h1 := execF_up hcf c _ _ _ he
      rw [hst _ rfl] at h1
      rw [h1]
      rw [he] at hb
      cases x with
      | normal =>
        simp only at hb ⊢
        split at hb
        · rename_i v hv; cases hb; rw [hv]; rfl
        · cases hb
      | ret =>
        simp only at hb ⊢
        split at hb
        · rename_i v hv; cases hb; rw [hv]; rfl
        · cases hb
      | exit id => cases hb
      | goto l => cases hb
def ModelOk (E : Env) (g : FuncId) (m : List D → Option D) : Prop := ∀ aa_ r, m aa_ = some r → ∃ r0 h1 k, bodyI E g aa_ H.empty = some (r0, h1) ∧ snap (E.pol.keep g) h1.blk snapDepth r0 = some (r, k)
theorem finishF_up {ks : List Nat} {r r' : D} {h h' : FH} {fp : FP} (e : finishF ks r' h = some (r, h', fp)) :
    (if ks.isEmpty then some (r', h.up, {}) else if r'.flat snapDepth then some (r', h.up, { rd := ks }) else some (r', ⟨h.up.next, upds h.up.blk (kills h.up.blk ks)⟩, { rd := ks, wr := ks })) = some (r, h'.up, fp) := by
  unfold finishF at e
  split at e
  · rename_i h1; cases e; rw [if_pos h1]
  · rename_i h1
    rw [if_neg h1]
    split at e
    · rename_i h2; cases e; rw [if_pos h2]
    · rename_i h2
      rw [if_neg h2]
      split at e
      · rename_i hp
        cases e
        have h4 := puts_up' hp
        have h5 : (⟨h.up.next, upds h.up.blk (kills h.up.blk ks)⟩ : H) = h'.up := h4
        rw [h5]
      · cases e
theorem pureF_up {E : Env} {g : FuncId} {X : Option (List D → Option D)} (hX : ∀ m, X = some m → ModelOk E g m) {body : List D → FH → Option (D × FH)} (hbody : ∀ a h r h', body a h = some (r, h') → bodyI E g a h.up = some (r, h'.up))
    {ka : Bool} {args : List D} {h h' : FH} {r : D} {fp : FP} (e : pureF X body ka (E.pol.keep g) args h = some (r, h', fp)) : pureCall E (bodyI E g) ka (E.pol.keep g) args h.up = some (r, h'.up, fp) := by
  unfold pureF at e
  unfold pureCall
  split at e
  · cases e
  rename_i aa_ ks hs
  have hs' : mapK (snap ka h.up.blk snapDepth) args = some (aa_, ks) := hs
  rw [hs']
  simp only
  split at e
  · rename_i r' hm
    split at hm
    · rename_i m hXm
      obtain ⟨r0, h1, k, b1, b2⟩ := hX _ rfl aa_ r' hm
      rw [b1]
      simp only
      rw [b2]
      simp only
      exact finishF_up e
    · cases hm
  · split at e
    · cases e
    rename_i r1 h1 hb
    split at e
    · cases e
    rename_i r' k hsn
    have b1 := hbody _ _ _ _ hb
    rw [FH.up_empty] at b1
    rw [b1]
    simp only
    have hsn' : snap (E.pol.keep g) h1.up.blk snapDepth r1 = some (r', k) := hsn
    rw [hsn']
    simp only
    exact finishF_up e
theorem putParamsF_up : ∀ (l : List (Tmp × D)) (A : PT D), (putParamsF A l).get .undef = putParams (A.get .undef) l
  | [], A => rfl
  | (t, v) :: r, A => by rw [putParamsF, putParams, putParamsF_up r, PT.get_set]
theorem callI_yld {E : Env} {l : Nat} {args : List D} {h : H} {r r1 r2 : LoopRec} {s1 s2 : St} {x : X} (hb : h.blk l = .loop r) (hlen : args.length = r.params.size)
    (e1 : execI E r.cur r.N r.assign ⟨putParams r.A (r.params.toList.zip args), h⟩ = some (.normal, s1)) (hb1 : s1.h.blk l = .loop r1) (hst : r1.st = .ready)
    (e2 : execI E r.cur r.N r.body ⟨s1.A, ⟨s1.h.next, upd s1.h.blk l (.loop { r1 with st := .busy })⟩⟩ = some (x, s2)) (hb2 : s2.h.blk l = .loop r2) :
    callI E (.yld l) args h = some (.bool (jumpOf x).isNone, ⟨s2.h.next, upd s2.h.blk l (.loop { r2 with st := if (jumpOf x).isNone then .ready else .done, pending := jumpOf x })⟩, { full := true }) := by
  obtain ⟨n1, k1⟩ := execI_some.1 e1
  obtain ⟨n2, k2⟩ := execI_some.1 e2
  refine callI_some.2 ⟨max n1 n2 + 1, ?_⟩
  have j1 := mono_exec E r.cur r.N r.assign _ n1 (max n1 n2) _ (Nat.le_max_left ..) k1
  have j2 := mono_exec E r.cur r.N r.body _ n2 (max n1 n2) _ (Nat.le_max_right ..) k2
  unfold callV
  simp only [hb]
  rw [if_pos hlen]
  simp only at j1 j2
  rw [j1]
  simp only [hb1]
  rw [if_pos hst, j2]
  simp only [hb2]
theorem callF_up {E : Env} {X : Ext'} (hX : ∀ g m, X g = some m → ModelOk E g m) : ∀ n, CFok E (callF E X n)
  | 0, f, a, h, r, h', fp, e => by cases e
  | n + 1, f, a, h, r, h', fp, e => by
    have ih := callF_up hX n
    unfold callF at e
    split at e
    · rename_i g cap
      rw [callI_fn]
      cases hp : E.pol.pure g with
      | true =>
        rw [hp] at e
        rw [if_pos rfl]
        exact pureF_up (fun m hm => hX g m hm) (fun a h r h' hb => bodyFF_up ih hb) e
      | false =>
        rw [hp] at e
        rw [if_neg (by simp)]
        simp only [cond_false] at e
        split at e
        · rename_i r1 h1 hb
          cases e
          rw [bodyFF_up ih hb]; rfl
        · cases e
    · rename_i l
      split at e
      case h_2 => cases e
      rename_i r0 A0 hb0
      cases hl : Nat.beq a.length r0.params.size with
      | false => rw [hl] at e; cases e
      | true =>
        rw [hl] at e
        simp only [cond_true] at e
        split at e
        case h_2 => cases e
        rename_i s1 e1
        split at e
        case h_2 => cases e
        rename_i r1 A1 hb1
        split at e
        case h_2 => cases e
        rename_i hst
        split at e
        case h_2 => cases e
        rename_i x s2 e2
        split at e
        case h_2 => cases e
        rename_i r2 A2 hb2
        cases e
        have q0 : h.up.blk l = (FBlk.loop r0 A0).up := congrArg FBlk.up hb0
        have q1 : s1.up.h.blk l = (FBlk.loop r1 A1).up := congrArg FBlk.up hb1
        have q2 : s2.up.h.blk l = (FBlk.loop r2 A2).up := congrArg FBlk.up hb2
        have p1 := execF_up ih _ _ _ _ e1
        have p2 := execF_up ih _ _ _ _ e2
        simp only [FS.up, FS.fA, putParamsF_up] at p1
        have hres := callI_yld (E := E) (l := l) (args := a) (h := h.up) q0 (Nat.eq_of_beq_eq_true hl) (s1 := s1.up) p1 q1 hst (x := x) (s2 := s2.up) (by
          have : (s1.h.set l (.loop { r1 with st := .busy } A1)).up = ⟨s1.up.h.next, upd s1.up.h.blk l (.loop { cur := r1.cur, A := A1.get .undef, N := r1.N, params := r1.params, assign := r1.assign, body := r1.body, st := .busy, pending := r1.pending })⟩ := FH.set_up s1.h l _
          simp only [FS.up, this] at p2
          exact p2) q2
        rw [hres, FH.set_up]
        cases (jumpOf x).isNone <;> rfl
    · cases e
end Go.Eng
namespace Go.Eng
open Go
structure Po where
  n : St → Prop
  r : St → Prop
  x : Nat → St → Prop
  g : Nat → St → Prop
def Po.to (Q : Po) : X → St → Prop
  | .normal => Q.n
  | .ret => Q.r
  | .exit i => Q.x i
  | .goto l => Q.g l
def Po.upto (Q : Po) (P : St → Prop) : Po := ⟨P, Q.r, Q.x, Q.g⟩
def Po.within (Q : Po) (i : Nat) : Po := ⟨Q.n, Q.r, fun j s => if j = i then Q.n s else Q.x j s, Q.g⟩
section
variable {E : Env} {cur : FuncId} {N : Nat}
variable (E cur N) in
def V (c : Code) (s : St) (Q : Po) : Prop := ∃ x s', execI E cur N c s = some (x, s') ∧ Q.to x s'
theorem V.mono {c : Code} {s : St} {Q R : Po} (h : V E cur N c s Q) (hq : ∀ x s', Q.to x s' → R.to x s') : V E cur N c s R := by
  obtain ⟨x, s', h1, h2⟩ := h
  exact ⟨x, s', h1, hq x s' h2⟩
theorem V.skip {s : St} {Q : Po} (h : Q.n s) : V E cur N .skip s Q := ⟨_, _, execI_skip, h⟩
theorem V.exit {i : Nat} {s : St} {Q : Po} (h : Q.x i s) : V E cur N (.exit i) s Q := ⟨_, _, execI_exit, h⟩
theorem V.ret {s : St} {Q : Po} (h : Q.r s) : V E cur N .ret s Q := ⟨_, _, execI_ret, h⟩
theorem V.goto {i : Nat} {s : St} {Q : Po} (h : Q.g i s) : V E cur N (.goto i) s Q := ⟨_, _, execI_goto, h⟩
theorem V.label {i : Nat} {s : St} {Q : Po} (h : Q.n s) : V E cur N (.label i) s Q := ⟨_, _, execI_label, h⟩
theorem V.seq {a b : Code} {s : St} {Q : Po} (h : V E cur N a s (Q.upto fun s' => V E cur N b s' Q)) : V E cur N (.seq a b) s Q := by
  obtain ⟨x, s', h1, h2⟩ := h
  unfold V
  rw [execI_seq, h1]
  cases x with
  | normal => exact h2
  | exit i => exact ⟨_, _, rfl, h2⟩
  | goto l => exact ⟨_, _, rfl, h2⟩
  | ret => exact ⟨_, _, rfl, h2⟩
theorem V.then {a b : Code} {ops : List Oper} {ps : List (Nat × Nat)} {s s' : St} {Q : Po} (hx : ∀ s, execI E cur N a s = (execR E (callI E) cur ops ps s).map fun s' => (.normal, s'))
    (hr : execR E (callI E) cur ops ps s = some s') (h : V E cur N b s' Q) : V E cur N (.seq a b) s Q := by
  unfold V
  rw [execI_seq, hx, hr]
  exact h
theorem V.reg {a : Code} {ops : List Oper} {ps : List (Nat × Nat)} {s s' : St} {Q : Po} (hx : ∀ s, execI E cur N a s = (execR E (callI E) cur ops ps s).map fun s' => (.normal, s'))
    (hr : execR E (callI E) cur ops ps s = some s') (h : Q.n s') : V E cur N a s Q := by
  unfold V
  rw [hx, hr]
  exact ⟨_, _, rfl, h⟩
theorem V.cond {c : Operand} {a b : Code} {s : St} {v : Bool} {Q : Po} (hc : opd s.A c = some (.bool v)) (ht : v = true → V E cur N a s Q) (hf : v = false → V E cur N b s Q) : V E cur N (.cond c a b) s Q := by
  unfold V
  rw [execI_cond, hc]
  cases v with
  | true => exact ht rfl
  | false => exact hf rfl
theorem V.block {i : Nat} {c : Code} {s : St} {Q : Po} (h : V E cur N c s (Q.within i)) : V E cur N (.block i c) s Q := by
  obtain ⟨x, s', e, hr⟩ := h
  unfold V
  rw [execI_block, e]
  cases x with
  | exit j =>
    have hr' : if j = i then Q.n s' else Q.x j s' := hr
    by_cases hj : j = i
    · rw [if_pos hj] at hr'; simp only [if_pos hj]; exact ⟨_, _, rfl, hr'⟩
    · rw [if_neg hj] at hr'; simp only [if_neg hj]; exact ⟨_, _, rfl, hr'⟩
  | normal => exact ⟨_, _, rfl, hr⟩
  | goto l => exact ⟨_, _, rfl, hr⟩
  | ret => exact ⟨_, _, rfl, hr⟩
theorem V.loop {c : Code} {s : St} {Q : Po} (h : V E cur N c s (Q.upto fun s' => V E cur N (.loop c) s' Q)) : V E cur N (.loop c) s Q := by
  obtain ⟨x, s', h1, h2⟩ := h
  unfold V
  rw [execI_loop, h1]
  cases x with
  | normal => exact h2
  | exit i => exact ⟨_, _, rfl, h2⟩
  | goto l => exact ⟨_, _, rfl, h2⟩
  | ret => exact ⟨_, _, rfl, h2⟩
theorem V.head {c : Operand} {i : Nat} {b : Code} {s : St} {v : Bool} {Q : Po} (hc : opd s.A c = some (.bool v)) (ht : v = true → V E cur N b s Q) (hf : v = false → Q.x i s) : V E cur N (.seq (.cond c .skip (.exit i)) b) s Q :=
  .seq (.cond hc (fun h => .skip (ht h)) (fun h => .exit (hf h)))
theorem V.assoc {a b c : Code} {s : St} {Q : Po} (h : V E cur N (.seq a (.seq b c)) s Q) : V E cur N (.seq (.seq a b) c) s Q := by
  unfold V at h ⊢
  rw [execI_seq] at h ⊢
  rw [execI_seq]
  cases h1 : execI E cur N a s with
  | none => rw [h1] at h; obtain ⟨_, _, h, _⟩ := h; cases h
  | some p =>
    obtain ⟨x, s'⟩ := p
    rw [h1] at h
    cases x with
    | normal => simp only at h ⊢; rw [execI_seq] at h; exact h
    | exit i => exact h
    | goto l => exact h
    | ret => exact h
theorem V.count {c : Code} {Q : Po} (I : Nat → St → Prop) (hstep : ∀ k s, I (k + 1) s → V E cur N c s (Q.upto (I k)))
    (hend : ∀ s, I 0 s → V E cur N c s (Q.upto fun _ => False)) : ∀ k s, I k s → V E cur N (.loop c) s Q
  | 0, s, h => .loop ((hend s h).mono fun x s' hh => by cases x <;> first | exact hh | exact hh.elim)
  | k + 1, s, h => .loop ((hstep k s h).mono fun x s' hh => by
      cases x with
      | normal => exact V.count I hstep hend k s' hh
      | _ => exact hh)
theorem body_V {g : FuncId} {rs : List ResultVar} {c : Code} {args : List D} {h : H} {P : D → H → Prop} (hb : bodyI E g args h = resOf E rs (execI E g N c ⟨argA args, h⟩))
    (hv : V E g N c ⟨argA args, h⟩ ⟨fun s => ∃ v, resultsD E rs s = some v ∧ P v s.h, fun s => ∃ v, resultsD E rs s = some v ∧ P v s.h, fun _ _ => False, fun _ _ => False⟩) :
    ∃ v h', bodyI E g args h = some (v, h') ∧ P v h' := by
  obtain ⟨x, s', h1, h2⟩ := hv
  rw [hb, h1]
  cases x with
  | normal => obtain ⟨v, e, p⟩ := h2; exact ⟨v, s'.h, by simp only [resOf, e], p⟩
  | ret => obtain ⟨v, e, p⟩ := h2; exact ⟨v, s'.h, by simp only [resOf, e], p⟩
  | exit i => exact h2.elim
  | goto l => exact h2.elim
end
end Go.Eng
