import Derived.Test.YtcogomacihefoaaKnB
import Derived.RowKit3
set_option linter.unusedVariables false
set_option linter.unusedSimpArgs false
set_option linter.unusedSectionVars false
set_option linter.deprecated false
namespace Go.Eng
open Go Go.RowKit
theorem own_empty {S : Sim} {i rb : Nat} : ¬ Own S H.empty i rb := by
  rintro (⟨hb, _⟩ | ⟨hb, _⟩) <;> simp [Blk.body] at hb
theorem HR.start {S : Sim} {w : World} (hφ : ∀ b, S.φ b = none) (ht : ∀ b, S.tk b = none) (hi : ∀ b o v, S.I b o = some v → w.cell? ⟨b, o, none⟩ = some v) : HR S H.empty w where
  imm := hi
  live b esz xs hb := by simp at hb
  map b es hb := by simp at hb
  loop b l hb := by simp at hb
  tok t hb := by simp at hb
  disI b r hb := by simp [Blk.body] at hb
  inj i j rb h := (own_empty h).elim
  fresh b _ := ⟨hφ b, ht b⟩
  fix b esz xs hb := by simp at hb
theorem grown_of_run {n : Nat} {S S' : Sim} {h' : H} {w w' : World} (r : Run n S H.empty w S' h' w') : Grown w w' := by
  refine ⟨⟨r.ext.io.1, r.ext.io.2.1, fun i hi => ?_⟩, r.ext.io.2.2, r.ext.sz⟩
  have e : w'.heap[i]? = w.heap[i]? := r.ext.same i hi not_owned_empty
  rw [e]
  split
  · rename_i c t fr c' t' fr' h1 h2
    rw [h1] at h2; cases h2
    exact ⟨rfl, rfl, rfl, fun _ _ => rfl⟩
  · rename_i es ck es' ck' h1 h2
    rw [h1] at h2; cases h2
    exact .inr ⟨rfl, rfl⟩
  · rfl
theorem walk_bool {P : Program} {E : Env} (hE : EnvOK P E) {n : Nat} {g : FuncId} {args : List D} {h' : H} {b : Bool} (hb : bodyF E (callV E n) n g args H.empty = some (.bool b, h')) {S : Sim} {w : World} {vs : Array Value}
    (hr : HR S H.empty w) (ha : VRs S args vs.toList) : Calls P g vs w fun e w' => e = .returned (.bool b) ∧ Grown w w' := by
  have hF : Wide Fence.wide := ⟨fun _ => trivial, rfl⟩
  have hc := calls_sound hF rfl hE hb hr ha 0
  rw [callsIn_wide] at hc
  intro cs
  obtain ⟨e, w', fr, ⟨v, S', he, hrun, hr', hv⟩, h2, h3, h4⟩ := hc cs
  cases hv
  exact ⟨e, w', fr, ⟨he, grown_of_run hrun⟩, h2, h3, h4⟩
theorem walk_boolI {P : Program} {E : Env} (hE : EnvOK P E) {g : FuncId} {args : List D} {h' : H} {b : Bool} (hb : bodyI E g args H.empty = some (.bool b, h')) {S : Sim} {w : World} {vs : Array Value}
    (hr : HR S H.empty w) (ha : VRs S args vs.toList) : Calls P g vs w fun e w' => e = .returned (.bool b) ∧ Grown w w' := by
  obtain ⟨n, hn⟩ := bodyI_some.1 hb
  exact walk_bool hE hn hr ha
theorem walk_bool0 {P : Program} {E : Env} (hE : EnvOK P E) {g : FuncId} {h' : H} {b : Bool} (hb : bodyI E g [] H.empty = some (.bool b, h')) (w : World) : Calls P g #[] w fun e w' => e = .returned (.bool b) ∧ Grown w w' :=
  walk_boolI hE hb (S := Sim.none) (.start (fun _ => rfl) (fun _ => rfl) (fun _ _ _ h => by cases h)) .nil
end Go.Eng
namespace Go.Eng
open Go
def predsB (ops : List Oper) : List Nat :=
  ops.foldl (fun acc o => acc ++ [(o.after.toList.filter (Region.binds .any)).foldl (fun m e => (2 ^ e.on ||| acc.getD e.on 0) ||| m) 0]) []
def MR' (l : List Nat) (m : Nat) : Prop := ∀ i, l.contains i = m.testBit i
theorem mr_inner {acc : List (List Nat)} {accB : List Nat} (h : ∀ j, MR' (acc.getD j []) (accB.getD j 0)) : ∀ (es : List Edge) (l : List Nat) (m : Nat), MR' l m →
    MR' (es.foldl (fun l e => (e.on :: acc.getD e.on []) ++ l) l) (es.foldl (fun m e => (2 ^ e.on ||| accB.getD e.on 0) ||| m) m)
  | [], _, _, h' => h'
  | e :: es, l, m, h' => by
    refine mr_inner h es _ _ fun i => ?_
    rw [List.contains_append, List.contains_cons, Nat.testBit_or, Nat.testBit_or, h e.on i, h' i, Nat.testBit_two_pow]
    congr 2
    by_cases hi : i = e.on
    · subst hi; simp
    · have h2 : ¬ e.on = i := fun x => hi x.symm
      simp [hi, h2]
theorem mr_preds : ∀ (ops : List Oper) (acc : List (List Nat)) (accB : List Nat), acc.length = accB.length → (∀ j, MR' (acc.getD j []) (accB.getD j 0)) →
    ∀ j, MR' ((ops.foldl (fun acc o => acc ++ [(o.after.toList.filter (Region.binds .any)).foldl (fun l e => (e.on :: acc.getD e.on []) ++ l) []]) acc).getD j [])
      ((ops.foldl (fun acc o => acc ++ [(o.after.toList.filter (Region.binds .any)).foldl (fun m e => (2 ^ e.on ||| acc.getD e.on 0) ||| m) 0]) accB).getD j 0)
  | [], _, _, _, h => h
  | o :: ops, acc, accB, hl, h => by
    refine mr_preds ops _ _ (by simp [hl]) fun j => ?_
    have hin := mr_inner h (o.after.toList.filter (Region.binds .any)) [] 0 (fun i => by simp)
    rcases Nat.lt_trichotomy j acc.length with hj | hj | hj
    · rw [List.getD_eq_getElem?_getD, List.getElem?_append_left hj, List.getD_eq_getElem?_getD, List.getElem?_append_left (by omega)]
      have := h j
      rw [List.getD_eq_getElem?_getD, List.getD_eq_getElem?_getD] at this
      exact this
    · subst hj
      rw [List.getD_eq_getElem?_getD, List.getElem?_append_right (Nat.le_refl _), List.getD_eq_getElem?_getD, hl, List.getElem?_append_right (Nat.le_refl _)]
      simpa using hin
    · rw [List.getD_eq_getElem?_getD, List.getElem?_eq_none (by simp; omega), List.getD_eq_getElem?_getD, List.getElem?_eq_none (by simp; omega)]
      intro i; simp
theorem preds_mask (ops : List Oper) (j i : Nat) : ((preds ops).getD j []).contains i = ((predsB ops).getD j 0).testBit i :=
  mr_preds ops [] [] rfl (fun j i => by simp) j i
def drawOkB (ops : List Oper) : Bool :=
  (List.range ops.length).all fun j => (List.range j).all fun i =>
    ((predsB ops).getD j 0).testBit i || (match ops[i]?, ops[j]? with
      | some a, some b => (match a.dst with
          | some d => b.dst != some d && !(tmpsOf ops b).contains d
          | none => true) &&
        (match b.dst with
          | some d => !(tmpsOf ops a).contains d
          | none => true)
      | _, _ => true)
theorem drawOkB_eq (ops : List Oper) : drawOkB ops = drawOk ops := by
  unfold drawOkB drawOk
  simp only [preds_mask]
  rfl
def loosePairsB (ops : List Oper) : List (Nat × Nat) :=
  (List.range ops.length).flatMap fun j => (List.range j).filterMap fun i =>
    if !((predsB ops).getD j 0).testBit i && ((ops[i]?).map heapy).getD false && ((ops[j]?).map heapy).getD false then some (i, j) else none
theorem loosePairsB_eq (ops : List Oper) : loosePairsB ops = loosePairs ops := by
  unfold loosePairsB loosePairs
  simp only [preds_mask]
def codeOkB (N : Nat) : Code → Bool
  | .skip | .label _ | .exit _ | .goto _ | .ret | .refuse _ => true
  | .region _ ops draw => ops.toList.all (dstOk N) && ops.toList.all (fun o => opOk o.op) && (!draw || (drawOkB ops.toList && backOk ops.toList))
  | .seq a b | .cond _ a b => codeOkB N a && codeOkB N b
  | .block _ c | .loop c | .scope c => codeOkB N c
  | .rangeFunc _ ps a b => ps.toList.all (fun p => decide (p < N)) && codeOkB N a && codeOkB N b && noRange a && noRange b
theorem codeOkB_eq (N : Nat) : ∀ c : Code, codeOkB N c = codeOk N c
  | .skip | .label _ | .exit _ | .goto _ | .ret | .refuse _ => rfl
  | .region _ ops draw => by simp only [codeOkB, codeOk, drawOkB_eq]
  | .seq a b | .cond _ a b => by simp only [codeOkB, codeOk, codeOkB_eq N a, codeOkB_eq N b]
  | .block _ c | .loop c | .scope c => by simp only [codeOkB, codeOk, codeOkB_eq N c]
  | .rangeFunc _ ps a b => by simp only [codeOkB, codeOk, codeOkB_eq N a, codeOkB_eq N b]
def fnOkB (fn : Func) : Bool := !(fn.name == "runtime.NumGoroutine") && (match fn.body with | some c => codeOkB fn.ntmps c | none => true)
theorem fnOkB_eq (fn : Func) : fnOkB fn = fnOk fn := by
  unfold fnOkB fnOk
  cases fn.body with
  | none => rfl
  | some c => simp only [codeOkB_eq]
end Go.Eng
namespace Go.Eng
open Go
abbrev sop (d : Option Tmp) (op : Op) (g : Option (Nat × Bool)) : Oper := { dst := d, op := op, type := 0, pos := "", after := #[], guard := g }
def slim (o : Oper) : Oper := sop o.dst o.op o.guard
section
variable {E : Env} {cv : CallV} {cur : FuncId}
theorem wantedD_slim (ops : List Oper) (A : Nat → D) (o : Oper) : wantedD (ops.map slim) A (slim o) = wantedD ops A o := by
  unfold wantedD
  have h1 : (slim o).guard = o.guard := rfl
  rw [h1]
  cases hg : o.guard with
  | none => rfl
  | some p =>
    obtain ⟨j, want⟩ := p
    simp only [List.getElem?_map]
    cases hj : ops[j]? with
    | none => rfl
    | some q => rfl
theorem stepOp_slim (ops : List Oper) (base i : Nat) (o : Oper) (st : St) : stepOp E cv cur (ops.map slim) base i (slim o) st = stepOp E cv cur ops base i o st := by
  unfold stepOp
  rw [wantedD_slim]
  rfl
theorem runOps_slim (ops : List Oper) (base : Nat) : ∀ (l : List Oper) (i : Nat) (st : St), runOps E cv cur (ops.map slim) base i (l.map slim) st = runOps E cv cur ops base i l st
  | [], _, _ => rfl
  | o :: l, i, st => by
    rw [List.map_cons, runOps, runOps, stepOp_slim]
    cases stepOp E cv cur ops base i o st with
    | none => rfl
    | some p =>
      obtain ⟨st', fp⟩ := p
      exact congrArg (fun q : Option (St × List FP) => match q with | some (st'', fps) => some (st'', fp :: fps) | none => none) (runOps_slim ops base l (i + 1) st')
variable (E cv cur) in
def execR (ops : List Oper) (ps : List (Nat × Nat)) (st : St) : Option St :=
  match runOps E cv cur ops st.h.next 0 ops ⟨st.A, ⟨st.h.next + ops.length, st.h.blk⟩⟩ with
  | some (st', fps) => if looseOk fps ps then some st' else none
  | none => none
theorem execRegion_R {ops sl : List Oper} {draw : Bool} {ps : List (Nat × Nat)} (h1 : ops.map slim = sl) (h2 : (if draw then loosePairs ops else []) = ps) (st : St) : execRegion E cv cur ops draw st = execR E cv cur sl ps st := by
  subst h1
  unfold execRegion execR
  rw [runOps_slim, List.length_map]
  subst h2
  cases runOps E cv cur ops st.h.next 0 ops ⟨st.A, ⟨st.h.next + ops.length, st.h.blk⟩⟩ with
  | none => rfl
  | some p =>
    obtain ⟨st', fps⟩ := p
    cases draw with
    | true => rfl
    | false => exact (if_pos (show looseOk fps [] from fun p hp => by cases hp)).symm
variable {N : Nat}
theorem execI_reg {c : Code} {sl : List Oper} {ps : List (Nat × Nat)} (h : (match c with | .region _ ops draw => some (ops.toList.map slim, if draw then loosePairs ops.toList else []) | _ => none) = some (sl, ps)) (s : St) :
    execI E cur N c s = (execR E (callI E) cur sl ps s).map fun s' => (.normal, s') := by
  cases c with
  | region id ops draw =>
    simp only [Option.some.injEq, Prod.mk.injEq] at h
    rw [execI_region, execRegion_R h.1 h.2]
  | _ => cases h
end
def regOf : Code → Option (List Oper × List (Nat × Nat))
  | .region _ ops draw => some (ops.toList.map slim, if draw then loosePairsB ops.toList else [])
  | _ => none
theorem execI_reg' {E : Env} {cur : FuncId} {N : Nat} {c : Code} {sl : List Oper} {ps : List (Nat × Nat)} (h : regOf c = some (sl, ps)) (s : St) :
    execI E cur N c s = (execR E (callI E) cur sl ps s).map fun s' => (.normal, s') := execI_reg (by
  cases c with
  | region id ops draw => rw [← h]; simp only [regOf, loosePairsB_eq]
  | _ => exact h) s
def child (i : Nat) : Code → Code
  | .seq a b => match i with | 0 => a | _ => b
  | .cond _ a b => match i with | 0 => a | _ => b
  | .block _ c => c
  | .loop c => c
  | .scope c => c
  | .rangeFunc _ _ a b => match i with | 0 => a | _ => b
  | c => c
def nav : List Nat → Code → Code
  | [], c => c
  | i :: p, c => nav p (child i c)
def navF (f : Func) (p : List Nat) : Code := match f.body with
  | some c => nav p c
  | none => .skip
end Go.Eng
namespace Go.Eng
open Go
def resOf (E : Env) (rs : List ResultVar) : Option (X × St) → Option (D × H)
  | some (.normal, s) | some (.ret, s) => match resultsD E rs s with
    | some v => some (v, s.h)
    | none => none
  | _ => none
theorem bodyI_res {E : Env} {g : FuncId} {fn : Func} {c : Code} {N : Nat} {rs : List ResultVar} (h1 : E.fn g = some fn) (h2 : fn.body = some c) (h3 : fn.ntmps = N) (h4 : fn.results.toList = rs) (args : List D) (h : H) (hl : args.length ≤ N) :
    bodyI E g args h = resOf E rs (execI E g N c ⟨argA args, h⟩) := by
  rw [bodyI_eq, h1]
  simp only [h2]
  rw [if_pos (by rw [h3]; exact hl), h3, h4]
  cases execI E g N c ⟨argA args, h⟩ with
  | none => rfl
  | some p =>
    obtain ⟨x, s⟩ := p
    cases x <;> rfl
end Go.Eng
