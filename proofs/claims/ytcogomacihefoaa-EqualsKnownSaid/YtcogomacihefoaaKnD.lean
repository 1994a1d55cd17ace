import Derived.Test.YtcogomacihefoaaKnC
set_option linter.unusedVariables false
set_option linter.unusedSimpArgs false
set_option linter.unusedSectionVars false
set_option linter.deprecated false
namespace Go.Eng
open Go
inductive PT (α : Type) where
  | leaf
  | node (l : PT α) (v : α) (r : PT α)
namespace PT
variable {α : Type}
def get (d : α) : PT α → Nat → α
  | .leaf, _ => d
  | .node l v r, t => match t with
    | 0 => v
    | k + 1 => bif Nat.beq (k % 2) 0 then l.get d (k / 2) else r.get d (k / 2)
def setF (d : α) (x : α) : Nat → PT α → Nat → PT α
  | 0, t, _ => t
  | f + 1, .leaf, i => match i with
    | 0 => .node .leaf x .leaf
    | k + 1 => bif Nat.beq (k % 2) 0 then .node (setF d x f .leaf (k / 2)) d .leaf else .node .leaf d (setF d x f .leaf (k / 2))
  | f + 1, .node l v r, i => match i with
    | 0 => .node l x r
    | k + 1 => bif Nat.beq (k % 2) 0 then .node (setF d x f l (k / 2)) v r else .node l v (setF d x f r (k / 2))
def set (d : α) (t : PT α) (i : Nat) (x : α) : PT α := setF d x (i + 1) t i
theorem beq_zero (k : Nat) : Nat.beq (k % 2) 0 = decide (k % 2 = 0) := by
  cases h : Nat.beq (k % 2) 0 with
  | true => have := Nat.eq_of_beq_eq_true h; simp [this]
  | false => have := Nat.ne_of_beq_eq_false h; simp [this]
theorem get_setF (d x : α) : ∀ (f : Nat) (t : PT α) (i u : Nat), i < f → (setF d x f t i).get d u = if u = i then x else t.get d u
  | 0, _, _, _, h => absurd h (Nat.not_lt_zero _)
  | f + 1, .leaf, 0, u, h => by cases u <;> simp [setF, get]
  | f + 1, .leaf, k + 1, u, h => by
    have ih := get_setF d x f .leaf (k / 2)
    simp only [setF, beq_zero]
    by_cases hk : k % 2 = 0
    · simp only [hk, decide_true, cond_true]
      cases u with
      | zero => simp [get]
      | succ u =>
        simp only [get, beq_zero]
        by_cases hu : u % 2 = 0
        · simp only [hu, decide_true, cond_true]
          rw [ih (u / 2) (by omega)]
          have : (u = k) ↔ (u / 2 = k / 2) := by omega
          simp [this, get]
        · have : ¬ u = k := by omega
          simp [hu, this]
    · simp only [hk, decide_false, cond_false]
      cases u with
      | zero => simp [get]
      | succ u =>
        simp only [get, beq_zero]
        by_cases hu : u % 2 = 0
        · have : ¬ u = k := by omega
          simp [hu, this]
        · simp only [hu, decide_false, cond_false]
          rw [ih (u / 2) (by omega)]
          have : (u = k) ↔ (u / 2 = k / 2) := by omega
          simp [this, get]
  | f + 1, .node l v r, 0, u, h => by cases u <;> simp [setF, get]
  | f + 1, .node l v r, k + 1, u, h => by
    have ihl := get_setF d x f l (k / 2)
    have ihr := get_setF d x f r (k / 2)
    simp only [setF, beq_zero]
    by_cases hk : k % 2 = 0
    · simp only [hk, decide_true, cond_true]
      cases u with
      | zero => simp [get]
      | succ u =>
        simp only [get, beq_zero]
        by_cases hu : u % 2 = 0
        · simp only [hu, decide_true, cond_true]
          rw [ihl (u / 2) (by omega)]
          have : (u = k) ↔ (u / 2 = k / 2) := by omega
          simp [this]
        · have : ¬ u = k := by omega
          simp [hu, this]
    · simp only [hk, decide_false, cond_false]
      cases u with
      | zero => simp [get]
      | succ u =>
        simp only [get, beq_zero]
        by_cases hu : u % 2 = 0
        · have : ¬ u = k := by omega
          simp [hu, this]
        · simp only [hu, decide_false, cond_false]
          rw [ihr (u / 2) (by omega)]
          have : (u = k) ↔ (u / 2 = k / 2) := by omega
          simp [this]
theorem get_set (d x : α) (t : PT α) (i : Nat) : (set d t i x).get d = upd (t.get d) i x := by
  funext u
  rw [set, get_setF d x _ t i u (Nat.lt_succ_self _)]
  rfl
end PT
noncomputable def forceN {α : Type} (n : Nat) (k : Nat → α) : α := Nat.rec (motive := fun _ => α) (k 0) (fun m _ => k (Nat.succ m)) n
theorem forceN_eq {α : Type} (n : Nat) (k : Nat → α) : forceN n k = k n := by cases n <;> rfl
noncomputable def forceI {α : Type} (n : Int) (k : Int → α) : α := Int.rec (motive := fun _ => α) (fun m => forceN m fun m => k (.ofNat m)) (fun m => forceN m fun m => k (.negSucc m)) n
theorem forceI_eq {α : Type} (n : Int) (k : Int → α) : forceI n k = k n := by
  cases n with
  | ofNat m => exact forceN_eq m fun m => k (.ofNat m)
  | negSucc m => exact forceN_eq m fun m => k (.negSucc m)
noncomputable def forceB {α : Type} (b : Bool) (k : Bool → α) : α := Bool.rec (motive := fun _ => α) (k false) (k true) b
theorem forceB_eq {α : Type} (b : Bool) (k : Bool → α) : forceB b k = k b := by cases b <;> rfl
noncomputable def forceT {α β : Type} (t : PT β) (k : PT β → α) : α := PT.rec (motive := fun _ => α) (k .leaf) (fun l v r _ _ => k (.node l v r)) t
theorem forceT_eq {α β : Type} (t : PT β) (k : PT β → α) : forceT t k = k t := by cases t <;> rfl
noncomputable def forceD {α : Type} (d : D) (k : D → α) : α := match d with
  | .int i n => forceI n fun n => k (.int i n)
  | .bool b => forceB b fun b => k (.bool b)
  | d => k d
theorem forceD_eq {α : Type} (d : D) (k : D → α) : forceD d k = k d := by
  cases d with
  | int i n => exact forceI_eq n fun n => k (.int i n)
  | bool b => exact forceB_eq b fun b => k (.bool b)
  | _ => rfl
structure FLoop where
  cur : FuncId
  N : Nat
  params : Array Tmp
  assign : Code
  body : Code
  st : LoopState
  pending : Option Code
inductive FBlk where
  | blk (b : Blk)
  | loop (r : FLoop) (A : PT D)
def FBlk.up : FBlk → Blk
  | .blk b => b
  | .loop r A => .loop { cur := r.cur, A := A.get .undef, N := r.N, params := r.params, assign := r.assign, body := r.body, st := r.st, pending := r.pending }
def Blk.down : Blk → Option FBlk
  | .loop _ => Option.none
  | b => some (.blk b)
theorem up_down {b : Blk} {f : FBlk} (h : b.down = some f) : f.up = b := by
  cases b <;> simp [Blk.down] at h <;> subst h <;> rfl
structure FH where
  next : Nat
  blk : PT FBlk
def FH.fn (h : FH) : Nat → FBlk := h.blk.get (.blk .none)
def FH.f (h : FH) : Nat → Blk := fun b => (h.fn b).up
def FH.up (h : FH) : H := ⟨h.next, h.f⟩
def FH.empty : FH := ⟨0, .leaf⟩
theorem FH.up_empty : FH.empty.up = H.empty := rfl
def FH.set (h : FH) (b : Nat) (x : FBlk) : FH := ⟨h.next, h.blk.set (.blk .none) b x⟩
theorem FH.set_up (h : FH) (b : Nat) (x : FBlk) : (h.set b x).up = ⟨h.next, upd h.f b x.up⟩ := by
  have : (h.set b x).f = upd h.f b x.up := by
    funext u
    simp only [FH.f, FH.fn, FH.set, PT.get_set, upd]
    split <;> rfl
  simp only [FH.up, this]
  rfl
def FH.puts (h : FH) : List (Nat × Blk) → Option FH
  | [] => some h
  | (b, x) :: r => match x.down with
    | some y => (h.set b y).puts r
    | none => none
theorem FH.puts_up : ∀ (l : List (Nat × Blk)) (h h' : FH), h.puts l = some h' → h'.up = ⟨h.next, upds h.f l⟩
  | [], h, h', e => by simp only [FH.puts] at e; cases e; rfl
  | (b, x) :: r, h, h', e => by
    simp only [FH.puts] at e
    split at e
    · rename_i y hy
      rw [FH.puts_up r _ _ e]
      have h1 := FH.set_up h b y
      have h2 : (h.set b y).f = upd h.f b x := by
        have := congrArg H.blk h1
        simpa [FH.up, up_down hy] using this
      rw [h2]; rfl
    · cases e
structure FS where
  A : PT D
  h : FH
def FS.fA (s : FS) : Nat → D := s.A.get .undef
def FS.up (s : FS) : St := ⟨s.fA, s.h.up⟩
def putA (A : PT D) (dst : Option Tmp) (v : D) : PT D :=
  match dst with
  | some d => A.set .undef d v
  | none => A
theorem putA_up (A : PT D) (dst : Option Tmp) (v : D) (h : H) : (⟨(putA A dst v).get .undef, h⟩ : St) = St.put ⟨A.get .undef, h⟩ dst v := by
  cases dst with
  | none => rfl
  | some d => simp only [putA, St.put, PT.get_set]
abbrev CallFn := D → List D → FH → Option (D × FH × FP)
def apartB : List Nat → List Nat → Bool
  | [], _ => true
  | x :: xs, ys => ys.all (fun y => !Nat.beq x y) && apartB xs ys
def freeB (a b : FP) : Bool := (!a.full || b.idle) && ((!b.full || a.idle) && (apartB a.wr (b.rd ++ b.wr) && apartB a.rd b.wr))
def looseB (fps : List FP) : List (Nat × Nat) → Bool
  | [] => true
  | p :: r => freeB (fps.getD p.1 {}) (fps.getD p.2 {}) && looseB fps r
theorem apartB_ok : ∀ (xs ys : List Nat), apartB xs ys = true → apart xs ys
  | [], _, _ => by intro x hx; cases hx
  | x :: xs, ys, h => by
    simp only [apartB, Bool.and_eq_true, List.all_eq_true] at h
    intro a ha b hb
    rcases List.mem_cons.1 ha with rfl | ha
    · have := h.1 b hb
      intro e; subst e
      simp at this
    · exact apartB_ok xs ys h.2 a ha b hb
theorem freeB_ok {a b : FP} (h : freeB a b = true) : a.free b := by
  simp only [freeB, Bool.and_eq_true, Bool.or_eq_true, Bool.not_eq_true'] at h
  obtain ⟨h1, h2, h3, h4⟩ := h
  refine ⟨fun e => ?_, fun e => ?_, apartB_ok _ _ h3, apartB_ok _ _ h4⟩
  · rcases h1 with h1 | h1
    · rw [h1] at e; cases e
    · exact h1
  · rcases h2 with h2 | h2
    · rw [h2] at e; cases e
    · exact h2
theorem looseB_ok {fps : List FP} : ∀ (ps : List (Nat × Nat)), looseB fps ps = true → looseOk fps ps
  | [], _ => by intro p hp; cases hp
  | p :: r, h => by
    simp only [looseB, Bool.and_eq_true] at h
    intro q hq
    rcases List.mem_cons.1 hq with rfl | hq
    · exact freeB_ok h.1
    · exact looseB_ok r h.2 q hq
namespace K
def arAdd (k : IntKind) (a b : Int) : Option D := some (.int k (k.wrap (a + b)))
def arSub (k : IntKind) (a b : Int) : Option D := some (.int k (k.wrap (a - b)))
def arMul (k : IntKind) (a b : Int) : Option D := some (.int k (k.wrap (a * b)))
def arQuo (k : IntKind) (a b : Int) : Option D := if b = 0 then none else some (.int k (k.wrap (a.tdiv b)))
def arRem (k : IntKind) (a b : Int) : Option D := if b = 0 then none else some (.int k (a.tmod b))
def arEq (a b : Int) : Option D := some (.bool (a == b))
def arNe (a b : Int) : Option D := some (.bool (a != b))
def arLt (a b : Int) : Option D := some (.bool (decide (a < b)))
def arLe (a b : Int) : Option D := some (.bool (decide (a ≤ b)))
def arGt (a b : Int) : Option D := some (.bool (decide (a > b)))
def arGe (a b : Int) : Option D := some (.bool (decide (a ≥ b)))
def arRest (op : BinOp) (k : IntKind) (a b : Int) : Option D := arith op k a b
def ar (op : BinOp) (k : IntKind) (a b : Int) : Option D :=
  match op with
  | .add => arAdd k a b
  | .sub => arSub k a b
  | .mul => arMul k a b
  | .quo => arQuo k a b
  | .rem => arRem k a b
  | .eql => arEq a b
  | .neq => arNe a b
  | .lss => arLt a b
  | .leq => arLe a b
  | .gtr => arGt a b
  | .geq => arGe a b
  | op => arRest op k a b
theorem ar_eq (op : BinOp) (k : IntKind) (a b : Int) : ar op k a b = arith op k a b := by cases op <;> rfl
section
variable (T : Tab)
def eff (v : D) : Eff := { v }
def mv (x : Option D) : Option Eff := match x with
  | some v => some { v }
  | none => none
def bin (op : BinOp) (t : TypeId) (x y : Option D) : Option Eff := match x, y with
    | some x, some y => match x, y with
      | .int k a, .int k' b => bif isShift op then (shiftD op k a b).map eff else if k = k' then (ar op k a b).map eff else none
      | x, y => (binD T op t x y).map eff
    | _, _ => none
def un (op : UnOp) (x : Option D) : Option Eff := match x with
    | some x => (unD op x).map eff
    | none => none
def alloc (s : Nat) (t : TypeId) : Option Eff := if T.ok t then some { v := .ptr s 0 0, wr := [(s, .live (T.size t) [T.zero t])] } else none
def load (blk : Nat → Blk) (t : TypeId) (x : Option D) : Option Eff := match x with
    | some x => loadD T blk t x
    | none => none
def store (blk : Nat → Blk) (t : TypeId) (a x : Option D) : Option Eff := match a, x with
    | some a, some x => storeD T blk t a x
    | _, _ => none
def faddr (t : TypeId) (x : Option D) (f : Nat) : Option Eff := match x, fieldOf T t f with
    | some (.ptr b i o), some fd => if T.ok fd.type && T.size fd.type != 0 then some { v := .ptr b i (o + fd.offset) } else none
    | some (.iref v), some fd => if T.ok fd.type && T.size fd.type != 0 then (partD T fd.type v.cells fd.offset).map fun v => { v := .iref v } else none
    | _, _ => none
def iaddr (t : TypeId) (x ix : Option D) : Option Eff := match x, ix with
    | some x, some ix => (indexAddrD T t x ix).map eff
    | _, _ => none
def pick (c a b : Option D) : Option Eff := match c, a, b with
    | some (.bool c), some x, some y => some { v := pickD c x y }
    | _, _, _ => none
def field (t : TypeId) (x : Option D) (f : Nat) : Option Eff := match x, fieldOf T t f with
    | some (.agg cs), some fd => (partD T fd.type cs fd.offset).map eff
    | _, _ => none
def rest (mu : TypeId → Bool) (s : Nat) (blk : Nat → Blk) (ρ : Operand → Option D) (op : Op) : Option Eff := evalOp T mu s blk ρ op
def ev (mu : TypeId → Bool) (s : Nat) (blk : Nat → Blk) (ρ : Operand → Option D) (op : Op) : Option Eff :=
  match op with
  | .move x => mv (ρ x)
  | .assign x => mv (ρ x)
  | .binOp op t x y _ => bin T op t (ρ x) (ρ y)
  | .unOp op _ x => un op (ρ x)
  | .alloc t => alloc T s t
  | .load t x => load T blk t (ρ x)
  | .store t a x => store T blk t (ρ a) (ρ x)
  | .fieldAddr t x f => faddr T t (ρ x) f
  | .indexAddr t x ix => iaddr T t (ρ x) (ρ ix)
  | .pick c a b => pick (ρ c) (ρ a) (ρ b)
  | .field t x f => field T t (ρ x) f
  | op => rest T mu s blk ρ op
theorem bin_eq (op : BinOp) (t : TypeId) (x y : Option D) : bin T op t x y = match x, y with
    | some x, some y => (binD T op t x y).map fun v => { v }
    | _, _ => none := by
  cases x with
  | none => rfl
  | some x => cases y with
    | none => rfl
    | some y =>
      cases x <;> cases y <;> try rfl
      simp only [bin, binD, ar_eq]
      cases isShift op
      · simp only [cond_false, Bool.false_eq_true, if_false]
        split <;> rfl
      · simp only [cond_true, if_true]
        rfl
theorem ev_eq (mu : TypeId → Bool) (s : Nat) (blk : Nat → Blk) (ρ : Operand → Option D) (op : Op) : ev T mu s blk ρ op = evalOp T mu s blk ρ op := by
  cases op <;> try rfl
  · simp only [ev, bin_eq, evalOp]
    split <;> simp_all
end
end K
section
variable (E : Env) (cf : CallFn) (cur : FuncId)
def callOpF (c : Call) (s : Nat) (st : FS) : Option (D × FH × FP) :=
  match mapO (opd st.fA) c.args.toList with
  | none => none
  | some args => match c.callee with
    | .builtin b => match builtinD E.T (E.pol.mu cur) s st.h.f b c.argTypes.toList args with
      | some e => match st.h.puts e.wr with
        | some h' => some (e.v, h', e.fp)
        | none => none
      | none => none
    | .value f => match opd st.fA f with
      | some fv => cf fv args st.h
      | none => none
    | .invoke _ _ => none
noncomputable def finishOp (dst : Option Tmp) (st : FS) (e : Option Eff) : Option (FS × FP) :=
  match e with
  | some e => forceD e.v fun v => forceT (putA st.A dst v) fun A => match e.wr with
    | [] => some (⟨A, st.h⟩, { rd := e.rd, wr := [] })
    | wr => match st.h.puts wr with
      | some h' => forceT h'.blk fun b => some (⟨A, ⟨h'.next, b⟩⟩, e.fp)
      | none => none
  | none => none
noncomputable def stepF (ops : List Oper) (base i : Nat) (o : Oper) (st : FS) : Option (FS × FP) :=
  match wantedD ops st.fA o with
  | none => none
  | some false => forceT (putA st.A o.dst .undef) fun A => some (⟨A, st.h⟩, {})
  | some true => match o.op with
    | .call c => match callOpF E cf cur c (base + i) st with
      | some (v, h', fp) => forceD v fun v => forceT (putA st.A o.dst v) fun A => some (⟨A, h'⟩, fp)
      | none => none
    | op => finishOp o.dst st (K.ev E.T (E.pol.mu cur) (base + i) st.h.f (opd st.fA) op)
noncomputable def runF (ops : List Oper) (base : Nat) : Nat → List Oper → FS → Option (FS × List FP)
  | _, [], st => some (st, [])
  | i, o :: r, st => match stepF E cf cur ops base i o st with
    | some (st', fp) => match runF ops base (i + 1) r st' with
      | some (st'', fps) => some (st'', fp :: fps)
      | none => none
    | none => none
noncomputable def regionF (ops : List Oper) (draw : Bool) (st : FS) : Option FS :=
  match forceN (st.h.next + ops.length) fun nx => runF E cf cur ops st.h.next 0 ops ⟨st.A, ⟨nx, st.h.blk⟩⟩ with
  | some (st', fps) => bif draw then (bif looseB fps (loosePairsB ops) then some st' else none) else some st'
  | none => none
noncomputable def loopF (body : FS → Option (X × FS)) : Nat → FS → Option (X × FS)
  | 0, _ => none
  | k + 1, s => match body s with
    | some (.normal, s') => loopF body k s'
    | r => r
noncomputable def execF (N n : Nat) : Code → FS → Option (X × FS)
  | .skip, s => some (.normal, s)
  | .label _, s => some (.normal, s)
  | .region _ ops draw, s => match regionF E cf cur ops.toList draw s with
    | some s' => some (.normal, s')
    | none => none
  | .seq a b, s => match execF N n a s with
    | some (.normal, s') => execF N n b s'
    | r => r
  | .cond c a b, s => match opd s.fA c with
    | some (.bool v) => bif v then execF N n a s else execF N n b s
    | _ => none
  | .block id c, s => match execF N n c s with
    | some (.exit id', s') => bif Nat.beq id' id then some (.normal, s') else some (.exit id', s')
    | r => r
  | .loop c, s => loopF (execF N n c) n s
  | .rangeFunc f ps aa_ bd, s => match opd s.fA f with
    | some (.fn g cap) =>
      match cf (.fn g cap) [.yld s.h.next] ((⟨s.h.next + 1, s.h.blk⟩ : FH).set s.h.next (.loop { cur, N, params := ps, assign := aa_, body := bd, st := .ready, pending := none } s.A)) with
      | some (_, h2, _) => match h2.fn s.h.next with
        | .loop r _ => match r.st, jumpX r.pending with
          | .busy, _ => none
          | _, some x => some (x, ⟨s.A, h2.set s.h.next (.blk .dead)⟩)
          | _, none => none
        | _ => none
      | none => none
    | _ => none
  | .exit id, s => some (.exit id, s)
  | .goto l, s => some (.goto l, s)
  | .ret, s => some (.ret, s)
  | .scope c, s => match execF N n c s with
    | some (.goto l, s') => bif atEnd c l then some (.normal, s') else none
    | r => r
  | .refuse _, _ => none
end
def argF : List D → Nat → PT D → PT D
  | [], _, t => t
  | a :: r, i, t => argF r (i + 1) (t.set .undef i a)
noncomputable def bodyFF (E : Env) (cf : CallFn) (n : Nat) (g : FuncId) (args : List D) (h : FH) : Option (D × FH) :=
  match E.fn g with
  | none => none
  | some fn => match fn.body with
    | none => none
    | some c => bif Nat.ble args.length fn.ntmps then match execF E cf g fn.ntmps n c ⟨argF args 0 .leaf, h⟩ with
      | some (.normal, s) | some (.ret, s) => match resultsD E fn.results.toList s.up with
        | some v => some (v, s.h)
        | none => none
      | _ => none
      else none
abbrev Ext' := FuncId → Option (List D → Option D)
def finishF (ks : List Nat) (r' : D) (h : FH) : Option (D × FH × FP) :=
  if ks.isEmpty then some (r', h, {})
  else if r'.flat snapDepth then some (r', h, { rd := ks })
  else match h.puts (kills h.f ks) with
    | some h' => some (r', h', { rd := ks, wr := ks })
    | none => none
noncomputable def pureF (X : Option (List D → Option D)) (body : List D → FH → Option (D × FH)) (ka kp : Bool) (args : List D) (h : FH) : Option (D × FH × FP) :=
  match mapK (snap ka h.f snapDepth) args with
  | none => none
  | some (aa_, ks) => match (match X with | some m => m aa_ | none => none) with
    | some r' => finishF ks r' h
    | none => match body aa_ FH.empty with
      | none => none
      | some (r, h1) => match snap kp h1.f snapDepth r with
        | none => none
        | some (r', _) => finishF ks r' h
def putParamsF (A : PT D) : List (Tmp × D) → PT D
  | [] => A
  | (t, v) :: r => putParamsF (A.set .undef t v) r
noncomputable def callF (E : Env) (X : Ext') : Nat → CallFn
  | 0, _, _, _ => none
  | n + 1, f, args, h => match f with
    | .fn g cap =>
      bif E.pol.pure g then pureF (X g) (bodyFF E (callF E X n) n g) (E.pol.args g) (E.pol.keep g) (args ++ cap) h
      else match bodyFF E (callF E X n) n g (args ++ cap) h with
        | some (r, h') => some (r, h', { full := true })
        | none => none
    | .yld l => match h.fn l with
      | .loop r A =>
        bif Nat.beq args.length r.params.size then
          match execF E (callF E X n) r.cur r.N n r.assign ⟨putParamsF A (r.params.toList.zip args), h⟩ with
          | some (.normal, s1) => match s1.h.fn l with
            | .loop r1 A1 =>
              match r1.st with
              | .ready =>
                match execF E (callF E X n) r.cur r.N n r.body ⟨s1.A, s1.h.set l (.loop { r1 with st := .busy } A1)⟩ with
                | some (x, s2) => match s2.h.fn l with
                  | .loop r2 A2 => some (.bool (jumpOf x).isNone, s2.h.set l (.loop { r2 with st := bif (jumpOf x).isNone then .ready else .done, pending := jumpOf x } A2), { full := true })
                  | _ => none
                | none => none
              | _ => none
            | _ => none
          | _ => none
        else none
      | _ => none
    | _ => none
end Go.Eng
