import Derived.RangeFuncLeaves
import Derived.Laws.World
set_option linter.unusedVariables false
set_option linter.unusedSimpArgs false
set_option linter.unusedSectionVars false
set_option linter.deprecated false
namespace Go.Eng
open Go
inductive Tok where
  | unk | exact | nil | own (t z : Nat)
  deriving DecidableEq, Inhabited
inductive D where
  | bool (b : Bool) | int (k : IntKind) (n : Int) | str (s : ByteArray)
  | agg (cs : List D) | tup (vs : List D)
  | nilp | ptr (b i o : Nat) | iref (v : D)
  | frz (xs : List D) (tk : Tok) | sl (b esz off len : Nat) (ex : Bool)
  | fn (f : FuncId) (cap : List D) | nilfn | yld (l : Nat)
  | nilm | mp (b : Nat)
  deriving Inhabited
def D.cells : D → List D
  | .agg cs => cs
  | v => [v]
section
@[simp] theorem cells_agg (cs : List D) : (D.agg cs).cells = cs := rfl
@[simp] theorem cells_bool (b : Bool) : (D.bool b).cells = [.bool b] := rfl
@[simp] theorem cells_int (k : IntKind) (n : Int) : (D.int k n).cells = [.int k n] := rfl
@[simp] theorem cells_str (s : ByteArray) : (D.str s).cells = [.str s] := rfl
@[simp] theorem cells_tup (vs : List D) : (D.tup vs).cells = [.tup vs] := rfl
@[simp] theorem cells_nilp : D.nilp.cells = [.nilp] := rfl
@[simp] theorem cells_ptr (b i o : Nat) : (D.ptr b i o).cells = [.ptr b i o] := rfl
@[simp] theorem cells_iref (v : D) : (D.iref v).cells = [.iref v] := rfl
@[simp] theorem cells_frz (xs : List D) (tk : Tok) : (D.frz xs tk).cells = [.frz xs tk] := rfl
@[simp] theorem cells_sl (b e o l : Nat) (x : Bool) : (D.sl b e o l x).cells = [.sl b e o l x] := rfl
@[simp] theorem cells_fn (f : FuncId) (c : List D) : (D.fn f c).cells = [.fn f c] := rfl
@[simp] theorem cells_nilfn : D.nilfn.cells = [.nilfn] := rfl
@[simp] theorem cells_yld (l : Nat) : (D.yld l).cells = [.yld l] := rfl
@[simp] theorem cells_nilm : D.nilm.cells = [.nilm] := rfl
@[simp] theorem cells_mp (b : Nat) : (D.mp b).cells = [.mp b] := rfl
end
abbrev D.undef : D := .tup []
def D.scalar : D → Bool
  | .agg _ | .tup _ => false
  | _ => true
def D.okc : D → Bool
  | .tup _ => false
  | _ => true
structure LoopRec where
  cur : FuncId
  A : Nat → D
  N : Nat
  params : Array Tmp
  assign : Code
  body : Code
  st : LoopState
  pending : Option Code
inductive Blk where
  | none
  | dead
  | live (esz : Nat) (xs : List D)
  | fix (esz : Nat) (xs : List D)
  | tok
  | map (es : List (D × D))
  | loop (l : LoopRec)
  deriving Inhabited
def Blk.row : Blk → Option (Nat × List D)
  | .live e xs => some (e, xs)
  | .fix e xs => some (e, xs)
  | _ => Option.none
section
@[simp] theorem row_live (e : Nat) (xs : List D) : (Blk.live e xs).row = some (e, xs) := rfl
@[simp] theorem row_fix (e : Nat) (xs : List D) : (Blk.fix e xs).row = some (e, xs) := rfl
@[simp] theorem row_none : Blk.none.row = Option.none := rfl
@[simp] theorem row_dead : Blk.dead.row = Option.none := rfl
@[simp] theorem row_tok : Blk.tok.row = Option.none := rfl
@[simp] theorem row_map (es : List (D × D)) : (Blk.map es).row = Option.none := rfl
@[simp] theorem row_loop (l : LoopRec) : (Blk.loop l).row = Option.none := rfl
end
structure H where
  next : Nat
  blk : Nat → Blk
@[simp] def H.empty : H := ⟨0, fun _ => .none⟩
def upd {α : Type} (f : Nat → α) (d : Nat) (v : α) : Nat → α := fun t => if t = d then v else f t
@[simp] theorem upd_same {α : Type} (f : Nat → α) (d : Nat) (v : α) : upd f d v d = v := by simp [upd]
theorem upd_ne {α : Type} (f : Nat → α) (d t : Nat) (v : α) (h : t ≠ d) : upd f d v t = f t := by simp [upd, h]
def upds {α : Type} (f : Nat → α) : List (Nat × α) → Nat → α
  | [] => f
  | (d, v) :: r => upds (upd f d v) r
structure Tab where
  ok : TypeId → Bool
  desc : TypeId → TypeDesc
  size : TypeId → Nat
  bytes : TypeId → Nat
  zero : TypeId → D
def aggDesc : TypeDesc → Bool
  | .struct _ | .array _ _ => true
  | _ => false
def Tab.agg (T : Tab) (t : TypeId) : Bool := aggDesc (T.desc t)
structure Eff where
  v : D
  wr : List (Nat × Blk) := []
  rd : List Nat := []
def ofVal : Value → Option D
  | .bool b => some (.bool b)
  | .int k n => some (.int k n)
  | .string s => some (.str s)
  | .pointer none => some .nilp
  | .slice none 0 0 => some (.frz [] .nil)
  | .map none => some .nilm
  | .nilFunc => some .nilfn
  | _ => none
def opd (A : Nat → D) : Operand → Option D
  | .tmp t => some (A t)
  | .const v => ofVal v
  | .func f => some (.fn f [])
  | .global _ => none
section
variable (T : Tab)
def partD (t : TypeId) (cs : List D) (off : Nat) : Option D :=
  if T.ok t then
    if T.agg t then (if off + T.size t ≤ cs.length then some (.agg ((cs.drop off).take (T.size t))) else none)
    else cs[off]?
  else none
def setPart (e v : D) (o : Nat) : Option D :=
  if o = 0 ∧ v.cells.length = e.cells.length then some v
  else match e with
    | .agg cs => if o + v.cells.length ≤ cs.length then some (.agg (cs.take o ++ v.cells ++ cs.drop (o + v.cells.length))) else none
    | _ => none
def fieldOf (t : TypeId) (f : Nat) : Option Field :=
  if T.ok t then
    match T.desc t with
    | .struct fs => fs[f]?
    | _ => none
  else none
def elemOf? (t : TypeId) : Option TypeId :=
  if T.ok t then
    match T.desc t with
    | .slice e => if T.ok e then some e else none
    | _ => none
  else none
def arrOf? (t : TypeId) : Option (Nat × TypeId) :=
  if T.ok t then
    match T.desc t with
    | .array n e => if T.ok e then some (n, e) else none
    | _ => none
  else none
def mapK (f : D → Option (D × List Nat)) : List D → Option (List D × List Nat)
  | [] => some ([], [])
  | x :: xs => match f x with
    | some (y, k) => match mapK f xs with
      | some (ys, ks) => some (y :: ys, k ++ ks)
      | none => none
    | none => none
def Tok.fade (kp : Bool) : Tok → Tok
  | .unk => .unk
  | .exact => if kp then .exact else .unk
  | .nil => if kp then .nil else .unk
  | .own _ _ => .unk
def snap (kp : Bool) (blk : Nat → Blk) : Nat → D → Option (D × List Nat)
  | 0, _ => none
  | n + 1, d => match d with
    | .bool b => some (.bool b, [])
    | .int k x => some (.int k x, [])
    | .str s => some (.str s, [])
    | .nilp => some (.nilp, [])
    | .nilfn => some (.nilfn, [])
    | .nilm => some (.nilm, [])
    | .iref v => match snap false blk n v with
      | some (y, k) => some (.iref y, k)
      | none => none
    | .frz xs tk => match mapK (snap false blk n) xs with
      | some (ys, k) => some (.frz ys (tk.fade kp), k)
      | none => none
    | .agg cs => match mapK (snap kp blk n) cs with
      | some (ys, k) => some (.agg ys, k)
      | none => none
    | .tup cs => match mapK (snap kp blk n) cs with
      | some (ys, k) => some (.tup ys, k)
      | none => none
    | .fn f cs => match mapK (snap kp blk n) cs with
      | some (ys, k) => some (.fn f ys, k)
      | none => none
    | .sl b esz off len ex => match (blk b).row with
      | some (e, xs) => if e = esz ∧ off + len ≤ xs.length then
          match mapK (snap false blk n) ((xs.drop off).take len) with
          | some (ys, k) => some (.frz ys (if kp && ex then .exact else .unk), b :: k)
          | none => none
        else none
      | none => none
    | .ptr b 0 0 => match (blk b).row with
      | some (_, [x]) => match snap false blk n x with
        | some (y, k) => some (.iref y, b :: k)
        | none => none
      | _ => none
    | _ => none
def snapDepth : Nat := 9
def mask (ks : List Nat) (blk : Nat → Blk) : Nat → Blk := fun b => if b ∈ ks then blk b else .none
def fixOf (blk : Nat → Blk) (ks : List Nat) (k : Nat) : Blk :=
  match (blk k).row with
  | some (e, xs) => match mapK (snap false (mask ks blk) snapDepth) xs with
    | some (ys, _) => .fix e ys
    | none => .dead
  | none => .dead
def kills (blk : Nat → Blk) (ks : List Nat) : List (Nat × Blk) := ks.map fun k => (k, fixOf blk ks k)
def D.flat : Nat → D → Bool
  | 0, _ => false
  | n + 1, d => match d with
    | .bool _ | .int _ _ | .str _ | .nilp | .nilfn | .nilm => true
    | .agg cs | .tup cs => cs.all (D.flat n)
    | _ => false
def allD {α : Type} (f : α → Option Bool) : List α → Option Bool
  | [] => some true
  | x :: xs => match f x with
    | some true => allD f xs
    | some false => some false
    | none => none
def isNilD : D → Option Bool
  | .frz xs tk => if tk = .nil then some true else if xs.length = 0 then none else some false
  | .sl _ _ _ len _ => if len = 0 then none else some false
  | _ => none
def eqD : Nat → TypeId → D → D → Option Bool
  | 0, _, _, _ => none
  | d + 1, t, x, y =>
    if T.ok t then
      match T.desc t, x, y with
      | .bool, .bool a, .bool b => some (a == b)
      | .int _, .int k a, .int k' b => if k = k' then some (a == b) else none
      | .string, .str a, .str b => some (a == b)
      | .struct fs, .agg xs, .agg ys => allD (fun f : Field => if f.name = "_" then none else
          match partD T f.type xs f.offset, partD T f.type ys f.offset with
          | some a, some b => eqD d f.type a b
          | _, _ => none) fs.toList
      | .array len e, .agg xs, .agg ys => if T.ok e then allD (fun i => match partD T e xs (i * T.size e), partD T e ys (i * T.size e) with
          | some a, some b => eqD d e a b
          | _, _ => none) (List.range len) else none
      | .slice _, x, .frz [] .nil => isNilD x
      | .slice _, .frz [] .nil, y => isNilD y
      | .pointer _, .nilp, .nilp => some true
      | .pointer _, .ptr _ _ _, .nilp => some false
      | .pointer _, .iref _, .nilp => some false
      | .func _ _ _, .nilfn, .nilfn => some true
      | .func _ _ _, .fn _ _, .nilfn => some false
      | .map _ _, .nilm, .nilm => some true
      | .map _ _, .mp _, .nilm => some false
      | _, _, _ => none
    else none
def eqDepth : Nat := 8
def arith (op : BinOp) (k : IntKind) (a b : Int) : Option D :=
  match op with
  | .add => some (.int k (k.wrap (a + b)))
  | .sub => some (.int k (k.wrap (a - b)))
  | .mul => some (.int k (k.wrap (a * b)))
  | .quo => if b = 0 then none else some (.int k (k.wrap (a.tdiv b)))
  | .rem => if b = 0 then none else some (.int k (a.tmod b))
  | .and => some (.int k (k.wrap ((BitVec.ofInt k.bits a &&& BitVec.ofInt k.bits b).toNat : Int)))
  | .or => some (.int k (k.wrap ((BitVec.ofInt k.bits a ||| BitVec.ofInt k.bits b).toNat : Int)))
  | .xor => some (.int k (k.wrap ((BitVec.ofInt k.bits a ^^^ BitVec.ofInt k.bits b).toNat : Int)))
  | .eql => some (.bool (a == b))
  | .neq => some (.bool (a != b))
  | .lss => some (.bool (decide (a < b)))
  | .leq => some (.bool (decide (a ≤ b)))
  | .gtr => some (.bool (decide (a > b)))
  | .geq => some (.bool (decide (a ≥ b)))
  | _ => none
def shiftD (op : BinOp) (k : IntKind) (a b : Int) : Option D :=
  if b < 0 then none else
  match op with
  | .shl => some (.int k (k.wrap (a * 2 ^ (min b.toNat k.bits))))
  | .shr => some (.int k (a.fdiv (2 ^ (min b.toNat k.bits))))
  | _ => none
def isShift : BinOp → Bool
  | .shl | .shr => true
  | _ => false
def binD (op : BinOp) (t : TypeId) (x y : D) : Option D :=
  match x, y with
  | .int k a, .int k' b => if isShift op then shiftD op k a b else if k = k' then arith op k a b else none
  | .str _, _ => none
  | x, y => match op with
    | .eql => (eqD T eqDepth t x y).map .bool
    | .neq => (eqD T eqDepth t x y).map fun b => .bool (!b)
    | _ => none
def unD (op : UnOp) (x : D) : Option D :=
  match op, x with
  | .not, .bool b => some (.bool !b)
  | .neg, .int k n => some (.int k (k.wrap (0 - n)))
  | _, _ => none
def convD (src dst : TypeId) (x : D) : Option D :=
  if T.ok src && T.ok dst then
    match T.desc dst, x with
    | .int k, .int _ n => some (.int k (k.wrap n))
    | _, _ => none
  else none
def elemsD (blk : Nat → Blk) : D → Option (List D × List Nat)
  | .frz xs _ => some (xs, [])
  | .sl b esz off len _ => match (blk b).row with
    | some (e, xs) => if e = esz ∧ off + len ≤ xs.length then some ((xs.drop off).take len, [b]) else none
    | none => none
  | _ => none
def optInt : Option D → Option (Option Int)
  | none => some none
  | some (.int _ n) => some (some n)
  | some _ => none
def boundsD (len : Nat) (lo hi mx : Option Int) : Option (Nat × Nat × Bool) :=
  let h := hi.getD len
  let l := lo.getD 0
  match mx with
  | none => if 0 ≤ l ∧ l ≤ h ∧ h ≤ (len : Int) then some (l.toNat, h.toNat, false) else none
  | some m => if hi.isSome ∧ 0 ≤ l ∧ l ≤ h ∧ h ≤ m ∧ m ≤ (len : Int) then some (l.toNat, h.toNat, decide (m = h)) else none
def sliceD (blk : Nat → Blk) (t : TypeId) (x : D) (lo hi mx : Option Int) : Option Eff :=
  if T.ok t then
    match T.desc t with
    | .slice e =>
      if T.ok e then
        match x with
        | .frz xs tk => match boundsD xs.length lo hi mx with
          | some (l, h, ex) => if l ≠ 0 ∧ ¬ ∀ x ∈ xs, x.cells.length = T.size e then none else some { v := .frz ((xs.take h).drop l) (if tk = .nil then .nil else if ex then .exact else .unk) }
          | none => none
        | .sl b esz off len _ => if esz = T.size e then
            match boundsD len lo hi mx with
            | some (l, h, ex) => some { v := .sl b esz (off + l) (h - l) ex }
            | none => none
          else none
        | _ => none
      else none
    | .array n e =>
      if T.ok e && !T.agg e && T.size e == 1 then
        match x with
        | .iref (.agg cs) => if cs.length = n then
            match boundsD n lo hi mx with
            | some (l, h, _) => some { v := .frz ((cs.take h).drop l) .unk }
            | none => none
          else none
        | .ptr b 0 0 => match (blk b).row with
          | some (_, [.agg cs]) => if cs.length = n then
              match boundsD n lo hi mx with
              | some (l, h, _) => match mapK (snap false blk snapDepth) cs with
                | some (ys, k) => some { v := .frz ((ys.take h).drop l) .unk, wr := kills blk (b :: k) }
                | none => none
              | none => none
            else none
          | _ => none
        | _ => none
      else none
    | _ => none
  else none
def maxAppend : Nat := 140737488355328
def appendD (mu : Bool) (s : Nat) (blk : Nat → Blk) (t : TypeId) (x y : D) : Option Eff :=
  match elemOf? T t with
  | none => none
  | some e =>
    match elemsD blk y with
    | none => none
    | some (ys, rd) =>
      match x with
      | .frz xs tk =>
        if mu then
          if xs.isEmpty = true ∧ (∀ z ∈ ys, z.cells.length = T.size e) ∧ ys.length * T.bytes e * 2 ≤ maxAppend ∧ T.size e ≠ 0 ∧ T.bytes e ≠ 0 then
            match tk with
            | .exact | .nil => some { v := .sl s (T.size e) 0 ys.length false, wr := [(s, .live (T.size e) ys)], rd := rd }
            | _ => none
          else none
        else
          match mapK (snap false blk snapDepth) ys with
          | none => none
          | some (zs, k) =>
            if (∀ z ∈ xs ++ zs, z.cells.length = T.size e) ∧ (xs.length + ys.length) * T.bytes e * 2 ≤ maxAppend ∧ T.size e ≠ 0 ∧ T.bytes e ≠ 0 then
              match tk with
              | .exact | .nil => some { v := .frz (xs ++ zs) (.own s (T.size e)), wr := kills blk k ++ [(s, .tok)], rd := rd }
              | .own o z => if z = T.size e then match blk o with
                | .tok => some { v := .frz (xs ++ zs) (.own s z), wr := kills blk k ++ [(o, .dead), (s, .tok)], rd := o :: rd }
                | _ => none
                else none
              | .unk => none
            else none
      | .sl b esz off len _ =>
        match blk b with
        | .live e' xs =>
          if e' = esz ∧ esz = T.size e ∧ off = 0 ∧ len ≤ xs.length ∧ (∀ z ∈ ys, z.cells.length = esz) ∧ (len + ys.length) * T.bytes e * 2 ≤ maxAppend ∧ T.size e ≠ 0 ∧ T.bytes e ≠ 0 ∧ b ∉ rd then
            some { v := .sl s esz 0 (len + ys.length) false, wr := [(b, .dead), (s, .live esz (xs.take len ++ ys))], rd := b :: rd }
          else none
        | _ => none
      | _ => none
def lenD (blk : Nat → Blk) (t : TypeId) (x : D) : Option Eff :=
  if T.ok t then
    match T.desc t, x with
    | .slice _, .frz xs _ => some { v := .int .i64 xs.length }
    | .slice _, .sl _ _ _ len _ => some { v := .int .i64 len }
    | .string, .str s => some { v := .int .i64 s.size }
    | .array n _, _ => some { v := .int .i64 n }
    | .map _ _, .nilm => some { v := .int .i64 0 }
    | .map _ _, .mp b => match blk b with
      | .map es => some { v := .int .i64 es.length, rd := [b] }
      | _ => none
    | _, _ => none
  else none
def capD (t : TypeId) (x : D) : Option Eff :=
  if T.ok t then
    match T.desc t, x with
    | .slice _, .frz xs .exact => some { v := .int .i64 xs.length }
    | .slice _, .frz xs .nil => some { v := .int .i64 xs.length }
    | .slice _, .sl _ _ _ len true => some { v := .int .i64 len }
    | _, _ => none
  else none
def minD (mx : Bool) : List D → Option D
  | [] => none
  | x :: xs => xs.foldlM (fun a b => match a, b with
    | .int k p, .int _ q => some (.int k (if mx then (if q > p then q else p) else (if q < p then q else p)))
    | _, _ => none) x
def builtinD (mu : TypeId → Bool) (s : Nat) (blk : Nat → Blk) (b : Builtin) (ts : List TypeId) (args : List D) : Option Eff :=
  match b, ts, args with
  | .len, [t], [x] => lenD T blk t x
  | .cap, [t], [x] => capD T t x
  | .append, [t, t'], [x, y] => if T.ok t' then match T.desc t' with
    | .slice _ => appendD T (mu t) s blk t x y
    | _ => none
    else none
  | .min, _, xs => (minD false xs).map fun v => { v }
  | .max, _, xs => (minD true xs).map fun v => { v }
  | _, _, _ => none
def findD (kt : TypeId) (k : D) : List (D × D) → Nat → Option (Option (Nat × D))
  | [], _ => some none
  | (k', v) :: r, i => match eqD T eqDepth kt k k' with
    | some true => some (some (i, v))
    | some false => findD kt k r (i + 1)
    | none => none
def mapOf? (t : TypeId) : Option (TypeId × TypeId) :=
  if T.ok t then
    match T.desc t with
    | .map k e => if T.ok k && T.ok e then some (k, e) else none
    | _ => none
  else none
def sameD : Nat → D → D → Bool
  | 0, _, _ => false
  | n + 1, x, y => match x, y with
    | .bool a, .bool b => a == b
    | .int k a, .int k' b => k == k' && a == b
    | .agg xs, .agg ys => xs.length == ys.length && (xs.zip ys).all fun p => sameD n p.1 p.2
    | _, _ => false
def keyOk (kt : TypeId) (k : D) : Bool := eqD T eqDepth kt k k == some true
def lookupD (blk : Nat → Blk) (t : TypeId) (m k : D) (ok : Bool) : Option Eff :=
  match mapOf? T t with
  | none => none
  | some (kt, et) => if keyOk T kt k then
      match m with
      | .nilm => some { v := if ok then .tup [T.zero et, .bool false] else T.zero et }
      | .mp b => match blk b with
        | .map es => match findD T kt k es 0 with
          | some (some (_, v)) => some { v := if ok then .tup [v, .bool true] else v, rd := [b] }
          | some none => some { v := if ok then .tup [T.zero et, .bool false] else T.zero et, rd := [b] }
          | none => none
        | _ => none
      | _ => none
    else none
def updateD (blk : Nat → Blk) (t : TypeId) (m k x : D) : Option Eff :=
  match mapOf? T t with
  | none => none
  | some (kt, _) => if keyOk T kt k then
      match m with
      | .mp b => match blk b with
        | .map es => match findD T kt k es 0 with
          | some (some (i, _)) => match es[i]? with
            | some e => if sameD eqDepth k e.1 then some { v := .undef, wr := [(b, .map (es.set i (k, x)))], rd := [b] } else none
            | none => none
          | some none => some { v := .undef, wr := [(b, .map (es ++ [(k, x)]))], rd := [b] }
          | none => none
        | _ => none
      | _ => none
    else none
def pickD (c : Bool) (x y : D) : D :=
  match x, y with
  | .bool a, .bool b => .bool (if c then a else b)
  | x, y => if c then x else y
def loadD (blk : Nat → Blk) (t : TypeId) (x : D) : Option Eff :=
  match x with
  | .iref v => (partD T t v.cells 0).map fun v => { v }
  | .ptr b i o => match (blk b).row with
    | some (_, xs) => match xs[i]? with
      | some e => (partD T t e.cells o).map fun v => { v, rd := [b] }
      | none => none
    | none => none
  | _ => none
def storeD (blk : Nat → Blk) (t : TypeId) (x v : D) : Option Eff :=
  match x with
  | .ptr b i o => match blk b with
    | .live esz xs => match xs[i]? with
      | some e => if T.ok t && v.cells.length == T.size t && v.okc then
          match setPart e v o with
          | some e' => some { v := .undef, wr := [(b, .live esz (xs.set i e'))], rd := [b] }
          | none => none
        else none
      | none => none
    | _ => none
  | _ => none
def placeD (t : TypeId) (i : Nat) : Option (Nat × Nat) :=
  match T.desc t with
  | .struct fs => match fs[i]? with
    | some f => if T.ok f.type then some (f.offset, T.size f.type) else none
    | none => none
  | .array _ e => if T.ok e then some (i * T.size e, T.size e) else none
  | _ => none
def buildD (t : TypeId) : List (Nat × D) → List D → Option (List D)
  | [], cs => some cs
  | (i, x) :: r, cs => match placeD T t i with
    | some (off, sz) => if x.cells.length = sz ∧ off + sz ≤ cs.length then buildD t r (cs.take off ++ x.cells ++ cs.drop (off + sz)) else none
    | none => none
def buildable (t : TypeId) : Bool :=
  match T.desc t with
  | .struct _ => true
  | .array _ e => T.ok e
  | _ => false
def mapO {α β : Type} (f : α → Option β) : List α → Option (List β)
  | [] => some []
  | x :: xs => match f x with
    | some y => match mapO f xs with
      | some ys => some (y :: ys)
      | none => none
    | none => none
def indexAddrD (t : TypeId) (x ix : D) : Option D :=
  match ix with
  | .int _ n =>
    if T.ok t then
      match T.desc t with
      | .slice e =>
        if T.ok e then
          match x with
          | .frz xs _ => if 0 ≤ n ∧ n < (xs.length : Int) then match xs[n.toNat]? with
              | some v => if v.cells.length = T.size e ∧ T.size e ≠ 0 then some (.iref v) else none
              | none => none
            else none
          | .sl b esz off len _ => if 0 ≤ n ∧ n < (len : Int) ∧ esz = T.size e then some (.ptr b (off + n.toNat) 0) else none
          | _ => none
        else none
      | .array len e =>
        if T.ok e then
          if 0 ≤ n ∧ n < (len : Int) then
            match x with
            | .ptr b i o => some (.ptr b i (o + n.toNat * T.size e))
            | .iref v => (partD T e v.cells (n.toNat * T.size e)).map .iref
            | _ => none
          else none
        else none
      | _ => none
    else none
  | _ => none
def strAtD (t : TypeId) (s : ByteArray) (n : Int) : Option Eff :=
  if T.ok t then
    match T.desc t with
    | .string => match (if 0 ≤ n then s[n.toNat]? else none) with
      | some b => some { v := .int .u8 b.toNat }
      | none => none
    | _ => none
  else none
def evalOp (mu : TypeId → Bool) (s : Nat) (blk : Nat → Blk) (ρ : Operand → Option D) : Op → Option Eff
  | .move x | .assign x => match ρ x with
    | some v => some { v }
    | none => none
  | .pick c a b => match ρ c, ρ a, ρ b with
    | some (.bool c), some x, some y => some { v := pickD c x y }
    | _, _, _ => none
  | .alloc t => if T.ok t then some { v := .ptr s 0 0, wr := [(s, .live (T.size t) [T.zero t])] } else none
  | .box t x => match ρ x with
    | some v => if T.ok t && v.cells.length == T.size t && v.okc then some { v := .ptr s 0 0, wr := [(s, .live (T.size t) [v])] } else none
    | none => none
  | .build t parts => if T.ok t then
      match mapO (fun p => (ρ p.2).map fun v => (p.1, v)) parts.toList with
      | some ps => if buildable T t && ps.all (fun p => p.2.okc) then (buildD T t ps (T.zero t).cells).map fun cs => { v := .agg cs } else none
      | none => none
    else none
  | .buildSlice t len parts => match elemOf? T t with
    | none => none
    | some e => match mapO (fun p => ρ p.2) parts.toList with
      | none => none
      | some xs =>
        if parts.toList.map (·.1) = List.range len ∧ len * T.size e ≤ 16777216 ∧ xs.all D.okc then
          if mu t then
            if ∀ z ∈ xs, z.cells.length = T.size e then some { v := .sl s (T.size e) 0 len true, wr := [(s, .live (T.size e) xs)] } else none
          else
            match mapK (snap false blk snapDepth) xs with
            | some (zs, k) => if ∀ z ∈ zs, z.cells.length = T.size e then some { v := .frz zs .exact, wr := kills blk k } else none
            | none => none
        else none
  | .load t x => match ρ x with
    | some x => loadD T blk t x
    | none => none
  | .store t a x => match ρ a, ρ x with
    | some a, some x => storeD T blk t a x
    | _, _ => none
  | .nilCheck x => match ρ x with
    | some (.ptr b i o) => some { v := .ptr b i o }
    | some (.iref v) => some { v := .iref v }
    | some (.fn f c) => some { v := .fn f c }
    | _ => none
  | .binOp op t x y _ => match ρ x, ρ y with
    | some x, some y => (binD T op t x y).map fun v => { v }
    | _, _ => none
  | .unOp op _ x => match ρ x with
    | some x => (unD op x).map fun v => { v }
    | none => none
  | .convert src dst x => match ρ x with
    | some x => (convD T src dst x).map fun v => { v }
    | none => none
  | .makeFunc (.func f) first cap => if first.isEmpty then
      match mapO ρ cap.toList with
      | some cs => some { v := .fn f cs }
      | none => none
    else none
  | .makeMap t r => match mapOf? T t with
    | some _ => if r.isNone then some { v := .mp s, wr := [(s, .map [])] } else none
    | none => none
  | .makeSlice t l c => match elemOf? T t, ρ l, ρ c with
    | some e, some (.int _ l), some (.int _ c) =>
      if 0 ≤ l ∧ l ≤ c ∧ c * T.bytes e ≤ 140737488355328 ∧ T.size e ≠ 0 ∧ T.bytes e ≠ 0 then
        if l = c then (if mu t then some { v := .sl s (T.size e) 0 l.toNat true, wr := [(s, .live (T.size e) (List.replicate l.toNat (T.zero e)))] } else some { v := .frz (List.replicate l.toNat (T.zero e)) .exact })
        else if l = 0 then some { v := .frz [] (.own s (T.size e)), wr := [(s, .tok)] }
        else none
      else none
    | _, _, _ => none
  | .slice t x lo hi mx => match ρ x, optInt (lo.bind ρ), optInt (hi.bind ρ), optInt (mx.bind ρ) with
    | some x, some l, some h, some m => if lo.isSome == l.isSome && hi.isSome == h.isSome && mx.isSome == m.isSome then sliceD T blk t x l h m else none
    | _, _, _, _ => none
  | .fieldAddr t x f => match ρ x, fieldOf T t f with
    | some (.ptr b i o), some fd => if T.ok fd.type && T.size fd.type != 0 then some { v := .ptr b i (o + fd.offset) } else none
    | some (.iref v), some fd => if T.ok fd.type && T.size fd.type != 0 then (partD T fd.type v.cells fd.offset).map fun v => { v := .iref v } else none
    | _, _ => none
  | .field t x f => match ρ x, fieldOf T t f with
    | some (.agg cs), some fd => (partD T fd.type cs fd.offset).map fun v => { v }
    | _, _ => none
  | .indexAddr t x ix => match ρ x, ρ ix with
    | some x, some ix => (indexAddrD T t x ix).map fun v => { v }
    | _, _ => none
  | .index t x ix => match ρ x, ρ ix, arrOf? T t with
    | some (.agg cs), some (.int _ n), some (len, e) => if 0 ≤ n ∧ n < (len : Int) then (partD T e cs (n.toNat * T.size e)).map fun v => { v } else none
    | some (.str s), some (.int _ n), none => strAtD T t s n
    | _, _, _ => none
  | .lookup t m k ok => match ρ m, ρ k with
    | some m, some k => lookupD T blk t m k ok
    | _, _ => none
  | .mapUpdate t m k x | .insert t m k x => match ρ m, ρ k, ρ x with
    | some m, some k, some x => updateD T blk t m k x
    | _, _, _ => none
  | .extract x i => match ρ x with
    | some (.tup vs) => match vs[i]? with
      | some v => some { v }
      | none => none
    | _ => none
  | _ => none
end
end Go.Eng
namespace Go.Eng
open Go
inductive X where
  | normal
  | exit (id : Nat)
  | goto (l : Nat)
  | ret
  deriving DecidableEq
structure Pol where
  pure : FuncId → Bool
  args : FuncId → Bool
  keep : FuncId → Bool
  mu : FuncId → TypeId → Bool
structure Env where
  T : Tab
  fn : FuncId → Option Func
  pol : Pol
structure St where
  A : Nat → D
  h : H
structure FP where
  rd : List Nat := []
  wr : List Nat := []
  full : Bool := false
  deriving Inhabited
def St.put (s : St) (dst : Option Tmp) (v : D) : St :=
  match dst with
  | some d => ⟨upd s.A d v, s.h⟩
  | none => s
def Eff.apply (e : Eff) (dst : Option Tmp) (s : St) : St := St.put ⟨s.A, ⟨s.h.next, upds s.h.blk e.wr⟩⟩ dst e.v
def Eff.fp (e : Eff) : FP := { rd := e.rd, wr := e.wr.map (·.1) }
abbrev CallV := D → List D → H → Option (D × H × FP)
def wantedD (ops : List Oper) (A : Nat → D) (o : Oper) : Option Bool :=
  match o.guard with
  | none => some true
  | some (j, want) => match (ops[j]?).bind (·.dst) with
    | some d => match A d with
      | .bool b => some (b == want)
      | .tup [] => some false
      | _ => none
    | none => none
section
variable (E : Env) (callV : CallV) (cur : FuncId)
def callOp (c : Call) (s : Nat) (st : St) : Option (D × H × FP) :=
  match mapO (opd st.A) c.args.toList with
  | none => none
  | some args => match c.callee with
    | .builtin b => match builtinD E.T (E.pol.mu cur) s st.h.blk b c.argTypes.toList args with
      | some e => some (e.v, ⟨st.h.next, upds st.h.blk e.wr⟩, e.fp)
      | none => none
    | .value f => match opd st.A f with
      | some fv => callV fv args st.h
      | none => none
    | .invoke _ _ => none
def stepOp (ops : List Oper) (base i : Nat) (o : Oper) (st : St) : Option (St × FP) :=
  match wantedD ops st.A o with
  | none => none
  | some false => some (st.put o.dst .undef, {})
  | some true => match o.op with
    | .call c => match callOp E callV cur c (base + i) st with
      | some (v, h', fp) => some (St.put ⟨st.A, h'⟩ o.dst v, fp)
      | none => none
    | op => match evalOp E.T (E.pol.mu cur) (base + i) st.h.blk (opd st.A) op with
      | some e => some (e.apply o.dst st, e.fp)
      | none => none
def runOps (ops : List Oper) (base : Nat) : Nat → List Oper → St → Option (St × List FP)
  | _, [], st => some (st, [])
  | i, o :: r, st => match stepOp E callV cur ops base i o st with
    | some (st', fp) => match runOps ops base (i + 1) r st' with
      | some (st'', fps) => some (st'', fp :: fps)
      | none => none
    | none => none
def FP.idle (a : FP) : Bool := a.rd.isEmpty && a.wr.isEmpty && !a.full
def apart (xs ys : List Nat) : Prop := ∀ x ∈ xs, ∀ y ∈ ys, x ≠ y
instance (xs ys : List Nat) : Decidable (apart xs ys) := by unfold apart; infer_instance
def FP.free (a b : FP) : Prop := (a.full = true → b.idle = true) ∧ (b.full = true → a.idle = true) ∧ apart a.wr (b.rd ++ b.wr) ∧ apart a.rd b.wr
instance (a b : FP) : Decidable (a.free b) := by unfold FP.free; infer_instance
def preds (ops : List Oper) : List (List Nat) :=
  ops.foldl (fun acc o => acc ++ [(o.after.toList.filter (Region.binds .any)).foldl (fun l e => (e.on :: acc.getD e.on []) ++ l) []]) []
def heapy (o : Oper) : Bool :=
  match o.op with
  | .alloc _ | .box _ _ | .buildSlice .. | .load .. | .store .. | .makeMap .. | .makeSlice .. | .slice .. | .lookup .. | .mapUpdate .. | .insert .. => true
  | .call c => match c.callee with
    | .builtin b => match b with
      | .min | .max | .cap => false
      | _ => true
    | _ => true
  | _ => false
def loosePairs (ops : List Oper) : List (Nat × Nat) :=
  let ps := preds ops
  (List.range ops.length).flatMap fun j => (List.range j).filterMap fun i =>
    if !(ps.getD j []).contains i && ((ops[i]?).map heapy).getD false && ((ops[j]?).map heapy).getD false then some (i, j) else none
def looseOk (fps : List FP) (ps : List (Nat × Nat)) : Prop := ∀ p ∈ ps, (fps.getD p.1 {}).free (fps.getD p.2 {})
instance (fps : List FP) (ps : List (Nat × Nat)) : Decidable (looseOk fps ps) := by unfold looseOk; infer_instance
def execRegion (ops : List Oper) (draw : Bool) (st : St) : Option St :=
  match runOps E callV cur ops st.h.next 0 ops ⟨st.A, ⟨st.h.next + ops.length, st.h.blk⟩⟩ with
  | some (st', fps) => if draw then (if looseOk fps (loosePairs ops) then some st' else none) else some st'
  | none => none
def loopN (body : St → Option (X × St)) : Nat → St → Option (X × St)
  | 0, _ => none
  | k + 1, s => match body s with
    | some (.normal, s') => loopN body k s'
    | r => r
def jumpOf : X → Option Code
  | .normal => none
  | .exit id => some (.exit id)
  | .goto l => some (.goto l)
  | .ret => some .ret
def jumpX : Option Code → Option X
  | none => some .normal
  | some (.exit id) => some (.exit id)
  | some (.goto l) => some (.goto l)
  | some .ret => some .ret
  | _ => none
def atEnd (c : Code) (l : Nat) : Bool :=
  match findLabel c l with
  | some .skip => true
  | _ => false
def execC (N n : Nat) : Code → St → Option (X × St)
  | .skip, s => some (.normal, s)
  | .label _, s => some (.normal, s)
  | .region _ ops draw, s => match execRegion E callV cur ops.toList draw s with
    | some s' => some (.normal, s')
    | none => none
  | .seq a b, s => match execC N n a s with
    | some (.normal, s') => execC N n b s'
    | r => r
  | .cond c a b, s => match opd s.A c with
    | some (.bool v) => if v then execC N n a s else execC N n b s
    | _ => none
  | .block id c, s => match execC N n c s with
    | some (.exit id', s') => if id' = id then some (.normal, s') else some (.exit id', s')
    | r => r
  | .loop c, s => loopN (execC N n c) n s
  | .rangeFunc f ps aa_ bd, s => match opd s.A f with
    | some (.fn g cap) =>
      match callV (.fn g cap) [.yld s.h.next] ⟨s.h.next + 1, upd s.h.blk s.h.next (.loop { cur, A := s.A, N, params := ps, assign := aa_, body := bd, st := .ready, pending := none })⟩ with
      | some (_, h2, _) => match h2.blk s.h.next with
        | .loop r => match r.st, jumpX r.pending with
          | .busy, _ => none
          | _, some x => some (x, ⟨s.A, ⟨h2.next, upd h2.blk s.h.next .dead⟩⟩)
          | _, none => none
        | _ => none
      | none => none
    | _ => none
  | .exit id, s => some (.exit id, s)
  | .goto l, s => some (.goto l, s)
  | .ret, s => some (.ret, s)
  | .scope c, s => match execC N n c s with
    | some (.goto l, s') => if atEnd c l then some (.normal, s') else none
    | r => r
  | .refuse _, _ => none
def resultD (h : H) (A : Nat → D) : ResultVar → Option D
  | .tmp t => some (A t)
  | .cell a t => (loadD E.T h.blk t (A a)).map (·.v)
def resultsD (rs : List ResultVar) (s : St) : Option D :=
  match mapO (resultD E s.h s.A) rs with
  | some [v] => some v
  | some vs => some (.tup vs)
  | none => none
end
def argA (args : List D) : Nat → D := fun t => args.getD t .undef
def bodyF (E : Env) (callV : CallV) (n : Nat) (g : FuncId) (args : List D) (h : H) : Option (D × H) :=
  match E.fn g with
  | none => none
  | some fn => match fn.body with
    | none => none
    | some c => if args.length ≤ fn.ntmps then match execC E callV g fn.ntmps n c ⟨argA args, h⟩ with
      | some (.normal, s) | some (.ret, s) => match resultsD E fn.results.toList s with
        | some v => some (v, s.h)
        | none => none
      | _ => none
      else none
def pureCall (E : Env) (body : List D → H → Option (D × H)) (ka kp : Bool) (args : List D) (h : H) : Option (D × H × FP) :=
  match mapK (snap ka h.blk snapDepth) args with
  | none => none
  | some (aa_, ks) => match body aa_ H.empty with
    | none => none
    | some (r, h1) => match snap kp h1.blk snapDepth r with
      | none => none
      | some (r', _) => if ks.isEmpty then some (r', h, {})
        else if r'.flat snapDepth then some (r', h, { rd := ks })
        else some (r', ⟨h.next, upds h.blk (kills h.blk ks)⟩, { rd := ks, wr := ks })
def putParams (A : Nat → D) : List (Tmp × D) → Nat → D
  | [] => A
  | (t, v) :: r => putParams (upd A t v) r
def callV (E : Env) : Nat → CallV
  | 0, _, _, _ => none
  | n + 1, f, args, h => match f with
    | .fn g cap =>
      if E.pol.pure g then pureCall E (bodyF E (callV E n) n g) (E.pol.args g) (E.pol.keep g) (args ++ cap) h
      else match bodyF E (callV E n) n g (args ++ cap) h with
        | some (r, h') => some (r, h', { full := true })
        | none => none
    | .yld l => match h.blk l with
      | .loop r =>
        if args.length = r.params.size then
          match execC E (callV E n) r.cur r.N n r.assign ⟨putParams r.A (r.params.toList.zip args), h⟩ with
          | some (.normal, s1) => match s1.h.blk l with
            | .loop r1 =>
              if r1.st = .ready then
                match execC E (callV E n) r.cur r.N n r.body ⟨s1.A, ⟨s1.h.next, upd s1.h.blk l (.loop { r1 with st := .busy })⟩⟩ with
                | some (x, s2) => match s2.h.blk l with
                  | .loop r2 => some (.bool (jumpOf x).isNone, ⟨s2.h.next, upd s2.h.blk l (.loop { r2 with st := if (jumpOf x).isNone then .ready else .done, pending := jumpOf x })⟩, { full := true })
                  | _ => none
                | none => none
              else none
            | _ => none
          | _ => none
        else none
      | _ => none
    | _ => none
end Go.Eng
namespace Go.Eng
open Go
structure RB where
  rb : Nat
  esz : Nat
  n : Nat
structure Sim where
  φ : Nat → Option RB
  tk : Nat → Option (Nat × Nat × Nat)
  I : Nat → Nat → Option Value
def Sim.pure (S : Sim) : Sim := ⟨fun _ => none, fun _ => none, S.I⟩
@[simp] theorem Sim.pure_I (S : Sim) : S.pure.I = S.I := rfl
@[simp] theorem Sim.pure_pure (S : Sim) : S.pure.pure = S.pure := rfl
def Sim.rd (S : Sim) (b off : Nat) (vs : List Value) : Prop := ∀ j (h : j < vs.length), S.I b (off + j) = some vs[j]
def Sim.rdO (S : Sim) (a : Option Addr) (vs : List Value) : Prop :=
  vs = [] ∨ ∃ x, a = some x ∧ x.spot = none ∧ S.rd x.block x.off vs
def TokR (S : Sim) (a : Option Addr) (len cap esz : Nat) : Tok → Prop
  | .unk => True
  | .exact => cap = len
  | .nil => a = none ∧ len = 0 ∧ cap = 0
  | .own t z => len ≤ cap ∧ (len ≠ 0 → esz = z) ∧ (cap = 0 ∨ ∃ x, a = some x ∧ x.spot = none ∧ S.tk t = some (x.block, x.off + len * z, x.off + cap * z))
mutual
inductive VR : Sim → D → Value → Prop
  | bool {S : Sim} (b : Bool) : VR S (.bool b) (.bool b)
  | int {S : Sim} (k : IntKind) (n : Int) : VR S (.int k n) (.int k n)
  | str {S : Sim} (s : ByteArray) : VR S (.str s) (.string s)
  | agg {S : Sim} {cs : List D} {vs : Array Value} : (∀ c ∈ cs, c.scalar = true) → VRs S cs vs.toList → VR S (.agg cs) (.agg vs)
  | tup {S : Sim} {cs : List D} {vs : Array Value} : VRs S cs vs.toList → VR S (.tup cs) (.tuple vs)
  | nilp {S : Sim} : VR S .nilp (.pointer none)
  | ptr {S : Sim} {b : Nat} (i o : Nat) {r : RB} : S.φ b = some r → VR S (.ptr b i o) (.pointer (some ⟨r.rb, i * r.esz + o, none⟩))
  | iref {S : Sim} {v : D} {b off : Nat} {vs : List Value} : (∀ c ∈ v.cells, c.scalar = true) → VRs S.pure v.cells vs → S.rd b off vs → VR S (.iref v) (.pointer (some ⟨b, off, none⟩))
  | frz {S : Sim} {xs : List D} {tk : Tok} {a : Option Addr} {cap esz : Nat} {vs : List Value} : (∀ x ∈ xs, x.cells.length = esz) → (∀ c ∈ xs.flatMap D.cells, c.scalar = true) → VRs S.pure (xs.flatMap D.cells) vs →
      S.rdO a vs → TokR S a xs.length cap esz tk → xs.length ≤ cap → (a = none → xs = []) → VR S (.frz xs tk) (.slice a xs.length cap)
  | sl {S : Sim} {b esz off len cap : Nat} {ex : Bool} {r : RB} : S.φ b = some r → r.esz = esz → len ≤ cap → (ex = true → cap = len) → (off + cap) * esz ≤ r.n →
      VR S (.sl b esz off len ex) (.slice (some ⟨r.rb, off * esz, none⟩) len cap)
  | slv {S : Sim} {b esz off : Nat} {ex : Bool} (a : Option Addr) : VR S (.sl b esz off 0 ex) (.slice a 0 0)
  | fn {S : Sim} {f : FuncId} {cs : List D} {vs : Array Value} : VRs S cs vs.toList → VR S (.fn f cs) (.func (.func f) #[] vs)
  | nilfn {S : Sim} : VR S .nilfn .nilFunc
  | yld {S : Sim} {l : Nat} {r : RB} : S.φ l = some r → VR S (.yld l) (.func (.yield r.rb) #[] #[])
  | nilm {S : Sim} : VR S .nilm (.map none)
  | mp {S : Sim} {b : Nat} {r : RB} : S.φ b = some r → VR S (.mp b) (.map (some r.rb))
inductive VRs : Sim → List D → List Value → Prop
  | nil {S : Sim} : VRs S [] []
  | cons {S : Sim} {d : D} {v : Value} {ds : List D} {vs : List Value} : VR S d v → VRs S ds vs → VRs S (d :: ds) (v :: vs)
end
structure Sim.Le (S S' : Sim) : Prop where
  φ : ∀ b r, S.φ b = some r → S'.φ b = some r
  tk : ∀ t x, S.tk t = some x → S'.tk t = some x
  I : ∀ b o v, S.I b o = some v → S'.I b o = some v
theorem Sim.Le.refl (S : Sim) : S.Le S := ⟨fun _ _ h => h, fun _ _ h => h, fun _ _ _ h => h⟩
theorem Sim.Le.trans {S S' S'' : Sim} (h : S.Le S') (h' : S'.Le S'') : S.Le S'' :=
  ⟨fun b r x => h'.φ b r (h.φ b r x), fun t y x => h'.tk t y (h.tk t y x), fun b o v x => h'.I b o v (h.I b o v x)⟩
theorem Sim.Le.pure {S S' : Sim} (h : S.Le S') : S.pure.Le S'.pure := ⟨fun _ _ h => (by cases h), fun _ _ h => (by cases h), h.I⟩
theorem Sim.pure_le (S : Sim) : S.pure.Le S := ⟨fun _ _ h => (by cases h), fun _ _ h => (by cases h), fun _ _ _ h => h⟩
theorem Sim.rd.mono {S S' : Sim} (h : S.Le S') {b off : Nat} {vs : List Value} (r : S.rd b off vs) : S'.rd b off vs := fun j hj => h.I _ _ _ (r j hj)
theorem Sim.rdO.mono {S S' : Sim} (h : S.Le S') {a : Option Addr} {vs : List Value} (r : S.rdO a vs) : S'.rdO a vs := by
  rcases r with r | ⟨x, h1, h2, h3⟩
  · exact .inl r
  · exact .inr ⟨x, h1, h2, h3.mono h⟩
theorem TokR.mono {S S' : Sim} (h : S.Le S') {a : Option Addr} {len cap esz : Nat} {tk : Tok} (r : TokR S a len cap esz tk) : TokR S' a len cap esz tk := by
  cases tk with
  | own t z =>
    obtain ⟨h1, h2, h3⟩ := r
    refine ⟨h1, h2, ?_⟩
    rcases h3 with h3 | ⟨x, hx, hs, ht⟩
    · exact .inl h3
    · exact .inr ⟨x, hx, hs, h.tk _ _ ht⟩
  | _ => exact r
mutual
theorem VR.mono {S S' : Sim} (h : S.Le S') {d : D} {v : Value} : VR S d v → VR S' d v
  | .bool b => .bool b
  | .int k n => .int k n
  | .str s => .str s
  | .agg hc hs => .agg hc (VRs.mono h hs)
  | .tup hs => .tup (VRs.mono h hs)
  | .nilp => .nilp
  | .ptr i o hr => .ptr i o (h.φ _ _ hr)
  | .iref hc hs hr => .iref hc (VRs.mono h.pure hs) (hr.mono h)
  | .frz he hq hs hr ht hc hn => .frz he hq (VRs.mono h.pure hs) (hr.mono h) (ht.mono h) hc hn
  | .sl hr he hl hx hn => .sl (h.φ _ _ hr) he hl hx hn
  | .slv a => .slv a
  | .fn hs => .fn (VRs.mono h hs)
  | .nilfn => .nilfn
  | .yld hr => .yld (h.φ _ _ hr)
  | .nilm => .nilm
  | .mp hr => .mp (h.φ _ _ hr)
theorem VRs.mono {S S' : Sim} (h : S.Le S') {ds : List D} {vs : List Value} : VRs S ds vs → VRs S' ds vs
  | .nil => .nil
  | .cons h1 h2 => .cons (VR.mono h h1) (VRs.mono h h2)
end
section lists
variable {S : Sim}
theorem VRs.length {ds : List D} {vs : List Value} (h : VRs S ds vs) : ds.length = vs.length := by
  induction ds generalizing vs with
  | nil => cases h; rfl
  | cons d ds ih => cases h with | cons h1 h2 => simp [ih h2]
theorem VRs.get {ds : List D} {vs : List Value} (h : VRs S ds vs) (i : Nat) {d : D} (hd : ds[i]? = some d) : ∃ v, vs[i]? = some v ∧ VR S d v := by
  induction ds generalizing vs i with
  | nil => simp at hd
  | cons x ds ih =>
    cases h with
    | cons h1 h2 =>
      cases i with
      | zero => simp at hd; subst hd; exact ⟨_, rfl, h1⟩
      | succ i => simp at hd ⊢; exact ih h2 i hd
theorem VRs.append {ds ds' : List D} {vs vs' : List Value} (h : VRs S ds vs) (h' : VRs S ds' vs') : VRs S (ds ++ ds') (vs ++ vs') := by
  induction ds generalizing vs with
  | nil => cases h; exact h'
  | cons x ds ih => cases h with | cons h1 h2 => exact .cons h1 (ih h2)
theorem VRs.take {ds : List D} {vs : List Value} (n : Nat) (h : VRs S ds vs) : VRs S (ds.take n) (vs.take n) := by
  induction ds generalizing vs n with
  | nil => cases h; simp; exact .nil
  | cons x ds ih => cases h with | cons h1 h2 => cases n with
    | zero => exact .nil
    | succ n => exact .cons h1 (ih n h2)
theorem VRs.drop {ds : List D} {vs : List Value} (n : Nat) (h : VRs S ds vs) : VRs S (ds.drop n) (vs.drop n) := by
  induction ds generalizing vs n with
  | nil => cases h; simp; exact .nil
  | cons x ds ih => cases h with | cons h1 h2 => cases n with
    | zero => exact .cons h1 h2
    | succ n => exact ih n h2
theorem VRs.of_get {ds : List D} {vs : List Value} (hl : ds.length = vs.length) (h : ∀ (i : Nat) (d : D) (v : Value), ds[i]? = some d → vs[i]? = some v → VR S d v) : VRs S ds vs := by
  induction ds generalizing vs with
  | nil => cases vs with
    | nil => exact .nil
    | cons v vs => simp at hl
  | cons x ds ih => cases vs with
    | nil => simp at hl
    | cons v vs =>
      refine .cons (h 0 x v rfl rfl) (ih (by simpa using hl) fun i d v hd hv => h (i + 1) d v (by simpa using hd) (by simpa using hv))
theorem VRs.split {ds ds' : List D} {vs : List Value} (h : VRs S (ds ++ ds') vs) : ∃ u u', vs = u ++ u' ∧ VRs S ds u ∧ VRs S ds' u' := by
  induction ds generalizing vs with
  | nil => exact ⟨[], vs, rfl, .nil, h⟩
  | cons x ds ih =>
    rw [List.cons_append] at h
    cases h with
    | cons h1 h2 =>
      obtain ⟨u, u', rfl, hu, hu'⟩ := ih h2
      exact ⟨_ :: u, u', rfl, .cons h1 hu, hu'⟩
theorem VRs.replicate {d : D} {v : Value} (n : Nat) (hd : VR S d v) : VRs S (List.replicate n d) (List.replicate n v) := by
  induction n with
  | zero => exact .nil
  | succ n ih => exact .cons hd ih
theorem VR.oneCell {d : D} {v : Value} (h : VR S d v) (hs : d.scalar = true) : v.oneCell' = true := by
  cases h <;> first | rfl | cases hs
theorem VR.scalars {d : D} {v : Value} (h : VR S d v) (hs : d.okc = true) : ∀ c ∈ d.cells, c.scalar = true := by
  cases h <;> first | assumption | (intro c hc; simp at hc; subst hc; rfl; done) | cases hs
theorem VR.cells {d : D} {v : Value} (h : VR S d v) : VRs S d.cells v.cells.toList := by
  cases h <;> first | assumption | skip
  all_goals exact .cons (by constructor <;> assumption) .nil
theorem flat_len {xs : List D} {e : Nat} (h : ∀ x ∈ xs, x.cells.length = e) : (xs.flatMap D.cells).length = xs.length * e := by
  induction xs with
  | nil => simp
  | cons x xs ih =>
    simp only [List.flatMap_cons, List.length_append, List.length_cons]
    rw [ih (fun y hy => h y (List.mem_cons_of_mem _ hy)), h x (List.mem_cons_self ..), Nat.succ_mul]
    omega
theorem flat_take {xs : List D} {e : Nat} (h : ∀ x ∈ xs, x.cells.length = e) (n : Nat) : (xs.take n).flatMap D.cells = (xs.flatMap D.cells).take (n * e) := by
  induction xs generalizing n with
  | nil => simp
  | cons x xs ih =>
    cases n with
    | zero => simp
    | succ n =>
      have hx := h x (List.mem_cons_self ..)
      simp only [List.take_succ_cons, List.flatMap_cons]
      rw [ih (fun y hy => h y (List.mem_cons_of_mem _ hy)), List.take_append, hx, Nat.succ_mul, List.take_of_length_le (l := x.cells) (by omega), show n * e + e - e = n * e by omega]
theorem flat_drop {xs : List D} {e : Nat} (h : ∀ x ∈ xs, x.cells.length = e) (n : Nat) : (xs.drop n).flatMap D.cells = (xs.flatMap D.cells).drop (n * e) := by
  induction xs generalizing n with
  | nil => simp
  | cons x xs ih =>
    cases n with
    | zero => simp
    | succ n =>
      have hx := h x (List.mem_cons_self ..)
      simp only [List.drop_succ_cons, List.flatMap_cons]
      rw [ih (fun y hy => h y (List.mem_cons_of_mem _ hy)), List.drop_append, hx, Nat.succ_mul, List.drop_of_length_le (l := x.cells) (by omega), show n * e + e - e = n * e by omega]
      simp
theorem flat_get {xs : List D} {e : Nat} (h : ∀ x ∈ xs, x.cells.length = e) {i : Nat} {x : D} (hx : xs[i]? = some x) : x.cells = ((xs.flatMap D.cells).drop (i * e)).take e := by
  have hi : i < xs.length := by
    rcases Nat.lt_or_ge i xs.length with h | h
    · exact h
    · rw [List.getElem?_eq_none h] at hx; cases hx
  have hxe : xs[i] = x := by simpa [List.getElem?_eq_getElem hi] using hx
  have e1 : xs.drop i = x :: xs.drop (i + 1) := by rw [← hxe]; exact List.drop_eq_getElem_cons hi
  have hm : x ∈ xs := hxe ▸ List.getElem_mem hi
  rw [← flat_drop h, e1, List.flatMap_cons, List.take_append, h x hm, List.take_of_length_le (by rw [h x hm]; exact Nat.le_refl _)]
  simp
theorem flat_set {xs : List D} {e : Nat} (h : ∀ x ∈ xs, x.cells.length = e) {i : Nat} {y : D} (hi : i < xs.length) (hy : y.cells.length = e) :
    (xs.set i y).flatMap D.cells = (xs.flatMap D.cells).take (i * e) ++ y.cells ++ (xs.flatMap D.cells).drop (i * e + e) := by
  rw [List.set_eq_take_append_cons_drop]
  simp only [hi, if_true]
  rw [List.flatMap_append, List.flatMap_cons, flat_take h, flat_drop h, Nat.succ_mul]
  simp
end lists
end Go.Eng
namespace Go.Eng
open Go
def tmpsOf (ops : List Oper) (o : Oper) : List Nat :=
  o.op.operands.toList.filterMap (fun | .tmp t => some t | _ => none) ++
    (match o.guard with
      | some (j, _) => ((ops[j]?).bind (·.dst)).toList
      | none => [])
def dstOk (N : Nat) (o : Oper) : Bool :=
  match o.dst with
  | some d => decide (d < N)
  | none => true
def drawOk (ops : List Oper) : Bool :=
  let ps := preds ops
  (List.range ops.length).all fun j => (List.range j).all fun i =>
    (ps.getD j []).contains i || (match ops[i]?, ops[j]? with
      | some a, some b => (match a.dst with
          | some d => b.dst != some d && !(tmpsOf ops b).contains d
          | none => true) &&
        (match b.dst with
          | some d => !(tmpsOf ops a).contains d
          | none => true)
      | _, _ => true)
def backOk (ops : List Oper) : Bool :=
  (List.range ops.length).all fun j => match ops[j]? with
    | some o => o.after.toList.all fun e => !Region.binds .any e || decide (e.on < j)
    | none => true
def opOk : Op → Bool
  | .defer _ => false
  | _ => true
def noRange : Code → Bool
  | .rangeFunc .. => false
  | .seq a b | .cond _ a b => noRange a && noRange b
  | .block _ c | .loop c | .scope c => noRange c
  | _ => true
def codeOk (N : Nat) : Code → Bool
  | .skip | .label _ | .exit _ | .goto _ | .ret | .refuse _ => true
  | .region _ ops draw => ops.toList.all (dstOk N) && ops.toList.all (fun o => opOk o.op) && (!draw || (drawOk ops.toList && backOk ops.toList))
  | .seq a b | .cond _ a b => codeOk N a && codeOk N b
  | .block _ c | .loop c | .scope c => codeOk N c
  | .rangeFunc _ ps a b => ps.toList.all (fun p => decide (p < N)) && codeOk N a && codeOk N b && noRange a && noRange b
def Blk.body : Blk → Bool
  | .live _ _ | .map _ | .loop _ => true
  | _ => false
def Own (S : Sim) (h : H) (i rb : Nat) : Prop :=
  ((h.blk i).body = true ∧ ∃ r, S.φ i = some r ∧ r.rb = rb) ∨ (h.blk i = .tok ∧ ∃ lo hi, S.tk i = some (rb, lo, hi) ∧ lo < hi)
def Owned (S : Sim) (h : H) (rb : Nat) : Prop := ∃ i, Own S h i rb
def MR (S : Sim) (es : List (D × D)) (ms : List MapEntry) : Prop :=
  es.length = ms.length ∧ ∀ (i : Nat) (e : D × D) (m : MapEntry), es[i]? = some e → ms[i]? = some m → VR S e.1 m.key ∧ VR S e.2 m.val
structure LR (S : Sim) (l : LoopRec) (r : Loop) : Prop where
  st : r.state = l.st
  pending : r.pending = l.pending
  params : r.params = l.params
  assign : r.assign = l.assign
  body : r.body = l.body
  size : r.tmps.size = l.N
  tmps : ∀ t, VR S (l.A t) (r.tmps.getD t undef)
  ok : (l.params.toList.all fun p => decide (p < l.N)) = true ∧ codeOk l.N l.assign = true ∧ codeOk l.N l.body = true ∧ noRange l.assign = true ∧ noRange l.body = true
def Lies (S : Sim) (w : World) (b esz : Nat) (xs : List D) : Prop :=
  (∀ x ∈ xs, x.cells.length = esz) ∧ (∀ c ∈ xs.flatMap D.cells, c.scalar = true) ∧
  ((xs = [] ∧ S.φ b = none) ∨ ∃ r cs ty vs, S.φ b = some r ∧ r.esz = esz ∧ w.heap[r.rb]? = some (.cells cs ty (0, 0)) ∧ cs.size = r.n ∧ VRs S (xs.flatMap D.cells) vs ∧ vs <+: cs.toList)
def Fixed (S : Sim) (b esz : Nat) (xs : List D) : Prop :=
  (∀ x ∈ xs, x.cells.length = esz) ∧ (∀ c ∈ xs.flatMap D.cells, c.scalar = true) ∧
  ((xs = [] ∧ S.φ b = none) ∨ ∃ r vs, S.φ b = some r ∧ r.esz = esz ∧ VRs S.pure (xs.flatMap D.cells) vs ∧ S.rd r.rb 0 vs)
theorem Fixed.mono {S S' : Sim} (h : S.Le S') {b esz : Nat} {xs : List D} (f : Fixed S b esz xs) (hφ : S'.φ b = S.φ b) : Fixed S' b esz xs := by
  obtain ⟨h1, h2, h3⟩ := f
  refine ⟨h1, h2, ?_⟩
  rcases h3 with ⟨h3, h4⟩ | ⟨r, vs, h3, h4, h5, h6⟩
  · exact .inl ⟨h3, by rw [hφ]; exact h4⟩
  · exact .inr ⟨r, vs, by rw [hφ]; exact h3, h4, h5.mono h.pure, h6.mono h⟩
structure HR (S : Sim) (h : H) (w : World) : Prop where
  imm : ∀ b o v, S.I b o = some v → w.cell? ⟨b, o, none⟩ = some v
  live : ∀ b esz xs, h.blk b = .live esz xs → Lies S w b esz xs
  map : ∀ b es, h.blk b = .map es → ∃ r ens ck, S.φ b = some r ∧ w.heap[r.rb]? = some (.map ens ck) ∧ MR S es ens.toList
  loop : ∀ b l, h.blk b = .loop l → ∃ r rl, S.φ b = some r ∧ w.heap[r.rb]? = some (.loop rl) ∧ LR S l rl
  tok : ∀ t, h.blk t = .tok → ∀ rb lo hi, S.tk t = some (rb, lo, hi) → lo < hi → ∃ cs ty, w.heap[rb]? = some (.cells cs ty (0, 0)) ∧ hi ≤ cs.size ∧ ∀ o, lo ≤ o → S.I rb o = none
  disI : ∀ b r, (h.blk b).body = true → S.φ b = some r → ∀ o, S.I r.rb o = none
  inj : ∀ i j rb, Own S h i rb → Own S h j rb → i = j
  fresh : ∀ b, h.next ≤ b → S.φ b = none ∧ S.tk b = none
  fix : ∀ b esz xs, h.blk b = .fix esz xs → Fixed S b esz xs
def frozenObj (o : Option Obj) (off : Nat) : Bool :=
  match o with
  | some (.cells _ _ (lo, hi)) => decide (lo ≤ off) && decide (off < hi)
  | _ => false
theorem frozen_obj (w : World) (a : Addr) : w.frozen? a = frozenObj w.heap[a.block]? a.off := by
  unfold World.frozen? frozenObj
  split <;> simp_all
def Thaw (o : Option Obj) : Prop := ∀ off, frozenObj o off = false
theorem Thaw.cells (cs : Array Value) (ty : TypeId) : Thaw (some (.cells cs ty (0, 0))) := fun off => by simp [frozenObj]
def Calm (w w' : World) : Prop := w'.os = w.os ∧ w'.output = w.output ∧ ∀ a, w'.frozen? a = w.frozen? a
theorem Calm.rfl' {w : World} : Calm w w := ⟨rfl, rfl, fun _ => rfl⟩
theorem Calm.trans {w w' w'' : World} (a : Calm w w') (b : Calm w' w'') : Calm w w'' := ⟨b.1.trans a.1, b.2.1.trans a.2.1, fun x => (b.2.2 x).trans (a.2.2 x)⟩
theorem Calm.heap {w w' : World} (e : w'.heap = w.heap) (e2 : w'.os = w.os ∧ w'.output = w.output) : Calm w w' := ⟨e2.1, e2.2, fun a => by rw [frozen_obj, frozen_obj, e]⟩
theorem Calm.alloc {w : World} {o : Obj} (h : Thaw (some o)) : Calm w (w.alloc o) := ⟨rfl, rfl, fun a => by
  rw [frozen_obj, frozen_obj]
  rcases Nat.lt_trichotomy a.block w.heap.size with h1 | h1 | h1
  · have : (w.alloc o).heap[a.block]? = w.heap[a.block]? := by
      show (w.heap.push o)[a.block]? = _
      rw [Array.getElem?_push, if_neg (Nat.ne_of_lt h1)]
    rw [this]
  · have e1 : (w.alloc o).heap[a.block]? = some o := by
      show (w.heap.push o)[a.block]? = _
      rw [Array.getElem?_push, if_pos h1]
    have e2 : w.heap[a.block]? = none := Array.getElem?_eq_none (Nat.le_of_eq h1.symm)
    rw [e1, e2, h]; rfl
  · have e1 : (w.alloc o).heap[a.block]? = none := by
      show (w.heap.push o)[a.block]? = _
      rw [Array.getElem?_push, if_neg (Nat.ne_of_gt h1)]
      exact Array.getElem?_eq_none (Nat.le_of_lt h1)
    have e2 : w.heap[a.block]? = none := Array.getElem?_eq_none (Nat.le_of_lt h1)
    rw [e1, e2]⟩
theorem Calm.put {w w' : World} {rb : Nat} {o : Obj} (e : w'.heap = w.heap.setIfInBounds rb o) (e2 : w'.os = w.os ∧ w'.output = w.output) (h : Thaw (some o)) (h' : Thaw w.heap[rb]?) : Calm w w' := ⟨e2.1, e2.2, fun a => by
  rw [frozen_obj, frozen_obj, e, Array.getElem?_setIfInBounds]
  split
  · rename_i hr; subst hr
    rw [h']
    split
    · exact h _
    · rfl
  · rfl⟩
structure Ext (S : Sim) (h : H) (w : World) (S' : Sim) (h' : H) (w' : World) : Prop where
  le : S.Le S'
  sz : w.heap.size ≤ w'.heap.size
  same : ∀ rb, rb < w.heap.size → ¬ Owned S h rb → w'.heap[rb]? = w.heap[rb]?
  own : ∀ rb, Owned S' h' rb → Owned S h rb ∨ w.heap.size ≤ rb
  imm : ∀ b o v, S'.I b o = some v → S.I b o = some v ∨ Owned S h b ∨ w.heap.size ≤ b
  io : Calm w w'
theorem Ext.refl (S : Sim) (h : H) (w : World) : Ext S h w S h w :=
  ⟨.refl S, Nat.le_refl _, fun _ _ _ => rfl, fun _ h => .inl h, fun _ _ _ h => .inl h, .rfl'⟩
theorem Ext.trans {S S' S'' : Sim} {h h' h'' : H} {w w' w'' : World} (a : Ext S h w S' h' w') (b : Ext S' h' w' S'' h'' w'') : Ext S h w S'' h'' w'' where
  le := a.le.trans b.le
  sz := Nat.le_trans a.sz b.sz
  same rb hlt hn := by
    rw [b.same rb (Nat.lt_of_lt_of_le hlt a.sz) (fun ho => by
      rcases a.own rb ho with h1 | h1
      · exact hn h1
      · omega), a.same rb hlt hn]
  own rb ho := by
    rcases b.own rb ho with h1 | h1
    · exact a.own rb h1
    · exact .inr (Nat.le_trans a.sz h1)
  imm bb o v hv := by
    rcases b.imm bb o v hv with h1 | h1 | h1
    · exact a.imm bb o v h1
    · rcases a.own bb h1 with h2 | h2
      · exact .inr (.inl h2)
      · exact .inr (.inr h2)
    · exact .inr (.inr (Nat.le_trans a.sz h1))
  io := a.io.trans b.io
theorem cell_heap {w w' : World} (h : w'.heap = w.heap) (a : Addr) : w'.cell? a = w.cell? a := by simp only [World.cell?, h]
theorem Lies.heap {S : Sim} {w w' : World} {b esz : Nat} {xs : List D} (h : w'.heap = w.heap) (l : Lies S w b esz xs) : Lies S w' b esz xs := by
  unfold Lies at *; rw [h]; exact l
theorem HR.heap {S : Sim} {h : H} {w w' : World} (e : w'.heap = w.heap) (r : HR S h w) : HR S h w' where
  imm b o v hv := by rw [cell_heap e]; exact r.imm b o v hv
  live b esz xs hb := (r.live b esz xs hb).heap e
  map b es hb := by rw [e]; exact r.map b es hb
  loop b l hb := by rw [e]; exact r.loop b l hb
  tok t ht := by rw [e]; exact r.tok t ht
  disI := r.disI
  inj := r.inj
  fresh := r.fresh
  fix := r.fix
theorem Ext.heap {S S' : Sim} {h h' : H} {w w' w'' : World} (e : w''.heap = w'.heap) (x : Ext S h w S' h' w') (e2 : w''.os = w'.os ∧ w''.output = w'.output := by exact ⟨rfl, rfl⟩) : Ext S h w S' h' w'' where
  le := x.le
  sz := by rw [e]; exact x.sz
  same rb hl hn := by rw [e]; exact x.same rb hl hn
  own := x.own
  imm := x.imm
  io := x.io.trans (.heap e e2)
theorem LR.mono {S S' : Sim} (h : S.Le S') {l : LoopRec} {r : Loop} (x : LR S l r) : LR S' l r :=
  { x with tmps := fun t => (x.tmps t).mono h }
theorem MR.mono {S S' : Sim} (h : S.Le S') {es : List (D × D)} {ms : List MapEntry} (x : MR S es ms) : MR S' es ms :=
  ⟨x.1, fun i e m he hm => ⟨(x.2 i e m he hm).1.mono h, (x.2 i e m he hm).2.mono h⟩⟩
theorem size_of_some {w : World} {b : Nat} {o : Obj} (h : w.heap[b]? = some o) : b < w.heap.size := by
  rcases Nat.lt_or_ge b w.heap.size with h' | h'
  · exact h'
  · rw [Array.getElem?_eq_none h'] at h; cases h
theorem HR.owned_lt {S : Sim} {h : H} {w : World} (r : HR S h w) {i rb : Nat} (ho : Own S h i rb) : rb < w.heap.size := by
  rcases ho with ⟨hb, r', hr, rfl⟩ | ⟨hb, lo, hi, ht⟩
  · cases hk : h.blk i with
    | live e xs =>
      rcases (r.live i e xs hk).2.2 with ⟨_, h2⟩ | ⟨r'', cs, ty, vs, h1, h2, h3, _⟩
      · rw [hr] at h2; cases h2
      · rw [hr] at h1; cases h1; exact size_of_some h3
    | map es => obtain ⟨r'', ens, ck, h1, h2, _⟩ := r.map i es hk; rw [hr] at h1; cases h1; exact size_of_some h2
    | loop l => obtain ⟨r'', rl, h1, h2, _⟩ := r.loop i l hk; rw [hr] at h1; cases h1; exact size_of_some h2
    | none => rw [hk] at hb; cases hb
    | dead => rw [hk] at hb; cases hb
    | tok => rw [hk] at hb; cases hb
    | fix e xs => rw [hk] at hb; cases hb
  · obtain ⟨cs, ty, h1, _⟩ := r.tok i hb rb lo hi ht.1 ht.2
    exact size_of_some h1
theorem HR.imm_lt {S : Sim} {h : H} {w : World} (r : HR S h w) {b o : Nat} {v : Value} (hv : S.I b o = some v) : b < w.heap.size :=
  World.block_lt_of_cell? w ⟨b, o, none⟩ (r.imm b o v hv)
theorem cell_alloc_old {w : World} {o : Obj} {b i : Nat} (h : b < w.heap.size) : (w.alloc o).cell? ⟨b, i, none⟩ = w.cell? ⟨b, i, none⟩ :=
  World.cell?_alloc_lt w o ⟨b, i, none⟩ h
theorem heap_alloc_old {w : World} {o : Obj} {b : Nat} (h : b < w.heap.size) : (w.alloc o).heap[b]? = w.heap[b]? := by
  unfold World.alloc; simp only [Array.getElem?_push]
  rw [if_neg (by omega)]
theorem heap_alloc_new {w : World} {o : Obj} : (w.alloc o).heap[w.heap.size]? = some o := by
  unfold World.alloc; simp only [Array.getElem?_push, if_true]
def Sim.addφ (S : Sim) (s : Nat) (r : RB) : Sim := { S with φ := upd S.φ s (some r) }
def Sim.addTk (S : Sim) (s : Nat) (x : Nat × Nat × Nat) : Sim := { S with tk := upd S.tk s (some x) }
def Sim.addI (S : Sim) (b : Nat) (lo : Nat) (vs : List Value) : Sim :=
  { S with I := fun b' o => if b' = b ∧ lo ≤ o ∧ o < lo + vs.length then vs[o - lo]? else S.I b' o }
theorem Sim.le_addφ {S : Sim} {s : Nat} {r : RB} (h : S.φ s = none) : S.Le (S.addφ s r) :=
  ⟨fun b x hb => by
    have : b ≠ s := fun e => by rw [e, h] at hb; cases hb
    simpa [Sim.addφ, upd, this] using hb, fun _ _ h => h, fun _ _ _ h => h⟩
theorem Sim.le_addTk {S : Sim} {s : Nat} {x : Nat × Nat × Nat} (h : S.tk s = none) : S.Le (S.addTk s x) :=
  ⟨fun _ _ h => h, fun b y hb => by
    have : b ≠ s := fun e => by rw [e, h] at hb; cases hb
    simpa [Sim.addTk, upd, this] using hb, fun _ _ _ h => h⟩
theorem Sim.le_addI {S : Sim} {b lo : Nat} {vs : List Value} (h : ∀ o, lo ≤ o → o < lo + vs.length → S.I b o = none) : S.Le (S.addI b lo vs) :=
  ⟨fun _ _ h => h, fun _ _ h => h, fun b' o v hv => by
    simp only [Sim.addI]
    split
    · rename_i hc
      rw [hc.1, h o hc.2.1 hc.2.2] at hv; cases hv
    · exact hv⟩
theorem own_upd_ne {S : Sim} {h : H} {s i rb : Nat} {k : Blk} (hi : i ≠ s) : Own S ⟨h.next, upd h.blk s k⟩ i rb ↔ Own S h i rb := by
  simp [Own, upd, hi]
end Go.Eng
namespace Go.Eng
open Go
structure At (S : Sim) (h : H) (w : World) (i : Nat) : Prop where
  live : ∀ esz xs, h.blk i = .live esz xs → Lies S w i esz xs
  map : ∀ es, h.blk i = .map es → ∃ r ens ck, S.φ i = some r ∧ w.heap[r.rb]? = some (.map ens ck) ∧ MR S es ens.toList
  loop : ∀ l, h.blk i = .loop l → ∃ r rl, S.φ i = some r ∧ w.heap[r.rb]? = some (.loop rl) ∧ LR S l rl
  tok : h.blk i = .tok → ∀ rb lo hi, S.tk i = some (rb, lo, hi) → lo < hi → ∃ cs ty, w.heap[rb]? = some (.cells cs ty (0, 0)) ∧ hi ≤ cs.size ∧ ∀ o, lo ≤ o → S.I rb o = none
  disI : ∀ r, (h.blk i).body = true → S.φ i = some r → ∀ o, S.I r.rb o = none
  fix : ∀ esz xs, h.blk i = .fix esz xs → Fixed S i esz xs
theorem HR.at {S : Sim} {h : H} {w : World} (r : HR S h w) (i : Nat) : At S h w i := ⟨r.live i, r.map i, r.loop i, r.tok i, r.disI i, r.fix i⟩
theorem At.keep {S S' : Sim} {h h' : H} {w w' : World} {i : Nat} (x : At S h w i) (le : S.Le S') (hb : h'.blk i = h.blk i) (hφ : S'.φ i = S.φ i) (ht : S'.tk i = S.tk i)
    (hw : ∀ rb, Own S h i rb → w'.heap[rb]? = w.heap[rb]?) (hI : ∀ rb, Own S h i rb → ∀ o v, S'.I rb o = some v → S.I rb o = some v) : At S' h' w' i where
  live esz xs hk := by
    rw [hb] at hk
    obtain ⟨h1, h2, h3⟩ := x.live esz xs hk
    refine ⟨h1, h2, ?_⟩
    rcases h3 with ⟨h3, h4⟩ | ⟨r, cs, ty, vs, h3, h4, h5, h6, h7, h8⟩
    · exact .inl ⟨h3, by rw [hφ]; exact h4⟩
    · exact .inr ⟨r, cs, ty, vs, by rw [hφ]; exact h3, h4, by rw [hw r.rb (.inl ⟨by rw [hk]; rfl, r, h3, rfl⟩)]; exact h5, h6, h7.mono le, h8⟩
  map es hk := by
    rw [hb] at hk
    obtain ⟨r, ens, ck, h1, h2, h3⟩ := x.map es hk
    exact ⟨r, ens, ck, by rw [hφ]; exact h1, by rw [hw r.rb (.inl ⟨by rw [hk]; rfl, r, h1, rfl⟩)]; exact h2, h3.mono le⟩
  loop l hk := by
    rw [hb] at hk
    obtain ⟨r, rl, h1, h2, h3⟩ := x.loop l hk
    exact ⟨r, rl, by rw [hφ]; exact h1, by rw [hw r.rb (.inl ⟨by rw [hk]; rfl, r, h1, rfl⟩)]; exact h2, h3.mono le⟩
  tok hk rb lo hi htk hlt := by
    rw [hb] at hk; rw [ht] at htk
    obtain ⟨cs, ty, h1, h2, h3⟩ := x.tok hk rb lo hi htk hlt
    have ho : Own S h i rb := .inr ⟨hk, lo, hi, htk, hlt⟩
    refine ⟨cs, ty, by rw [hw rb ho]; exact h1, h2, fun o ho' => ?_⟩
    cases hv : S'.I rb o with
    | none => rfl
    | some v => rw [← h3 o ho', hI rb ho o v hv]
  disI r hbd hr o := by
    rw [hb] at hbd; rw [hφ] at hr
    have ho : Own S h i r.rb := .inl ⟨hbd, r, hr, rfl⟩
    cases hv : S'.I r.rb o with
    | none => rfl
    | some v => rw [← x.disI r hbd hr o, hI r.rb ho o v hv]
  fix esz xs hk := by
    rw [hb] at hk
    exact (x.fix esz xs hk).mono le hφ
theorem HR.turn {S S' : Sim} {h h' : H} {w w' : World} (C : Nat → Prop) (r : HR S h w) (le : S.Le S')
    (hC : ∀ i, ¬ C i → h'.blk i = h.blk i ∧ S'.φ i = S.φ i ∧ S'.tk i = S.tk i)
    (hw : ∀ i rb, ¬ C i → Own S h i rb → w'.heap[rb]? = w.heap[rb]?)
    (imm : ∀ b o v, S'.I b o = some v → w'.cell? ⟨b, o, none⟩ = some v)
    (immN : ∀ b o v, S'.I b o = some v → S.I b o = some v ∨ ∀ i, ¬ C i → ¬ Own S h i b)
    (at' : ∀ i, C i → At S' h' w' i)
    (own : ∀ i rb, C i → Own S' h' i rb → (∀ j, ¬ C j → ¬ Own S h j rb) ∧ ∀ j, C j → Own S' h' j rb → i = j)
    (fresh : ∀ b, h'.next ≤ b → S'.φ b = none ∧ S'.tk b = none) : HR S' h' w' := by
  have ownE : ∀ i rb, ¬ C i → (Own S' h' i rb ↔ Own S h i rb) := fun i rb hi => by
    obtain ⟨a, b, c⟩ := hC i hi
    simp only [Own, a, b, c]
  have hat : ∀ i, At S' h' w' i := fun i => by
    by_cases hi : C i
    · exact at' i hi
    · obtain ⟨a, b, c⟩ := hC i hi
      refine (r.at i).keep le a b c (fun rb ho => hw i rb hi ho) fun rb ho o v hv => ?_
      rcases immN rb o v hv with h1 | h1
      · exact h1
      · exact absurd ho (h1 i hi)
  refine ⟨imm, fun i => (hat i).live, fun i => (hat i).map, fun i => (hat i).loop, fun i => (hat i).tok, fun i => (hat i).disI, fun i j rb hi hj => ?_, fresh, fun i => (hat i).fix⟩
  by_cases ci : C i
  · by_cases cj : C j
    · exact (own i rb ci hi).2 j cj hj
    · exact absurd ((ownE j rb cj).1 hj) ((own i rb ci hi).1 j cj)
  · by_cases cj : C j
    · exact absurd ((ownE i rb ci).1 hi) ((own j rb cj hj).1 i ci)
    · exact r.inj i j rb ((ownE i rb ci).1 hi) ((ownE j rb cj).1 hj)
theorem cell_old {w w' : World} {b o : Nat} (h : w'.heap[b]? = w.heap[b]?) : w'.cell? ⟨b, o, none⟩ = w.cell? ⟨b, o, none⟩ := by
  simp only [World.cell?, h]
theorem HR.newLive {S : Sim} {h : H} {w : World} (r : HR S h w) {s esz : Nat} {xs : List D} {vs : List Value} {cs : Array Value} {ty : TypeId}
    (hφ : S.φ s = none) (hs : s < h.next) (hx : ∀ x ∈ xs, x.cells.length = esz) (hc : ∀ c ∈ xs.flatMap D.cells, c.scalar = true)
    (hv : VRs S (xs.flatMap D.cells) vs) (hp : vs <+: cs.toList) :
    HR (S.addφ s ⟨w.heap.size, esz, cs.size⟩) ⟨h.next, upd h.blk s (.live esz xs)⟩ (w.alloc (.cells cs ty)) ∧
      Ext S h w (S.addφ s ⟨w.heap.size, esz, cs.size⟩) ⟨h.next, upd h.blk s (.live esz xs)⟩ (w.alloc (.cells cs ty)) := by
  have le : S.Le (S.addφ s ⟨w.heap.size, esz, cs.size⟩) := Sim.le_addφ hφ
  have hown : ∀ rb, Own (S.addφ s ⟨w.heap.size, esz, cs.size⟩) ⟨h.next, upd h.blk s (.live esz xs)⟩ s rb → rb = w.heap.size := fun rb ho => by
    rcases ho with ⟨_, r', hr, rfl⟩ | ⟨hk, _⟩
    · simp [Sim.addφ] at hr; rw [← hr]
    · simp at hk
  constructor
  · refine r.turn (· = s) le (fun i hi => ⟨by simp [upd, hi], by simp [Sim.addφ, upd, hi], rfl⟩) (fun i rb _ ho => heap_alloc_old (r.owned_lt ho))
      (fun b o v hv => by rw [cell_alloc_old (r.imm_lt hv)]; exact r.imm b o v hv) (fun b o v hv => .inl hv) ?_ ?_ ?_
    · rintro i rfl
      refine ⟨fun e ys hk => ?_, fun es hk => ?_, fun l hk => ?_, fun hk => ?_, fun r' _ hr o => ?_, fun _ _ hk => by simp at hk⟩
      · simp at hk
        obtain ⟨rfl, rfl⟩ := hk
        exact ⟨hx, hc, .inr ⟨⟨w.heap.size, esz, cs.size⟩, cs, ty, vs, by simp [Sim.addφ], rfl, heap_alloc_new, rfl, hv.mono le, hp⟩⟩
      · simp at hk
      · simp at hk
      · simp at hk
      · simp [Sim.addφ] at hr
        subst hr
        cases hI : S.I w.heap.size o with
        | none => exact hI
        | some v => have := r.imm_lt hI; omega
    · rintro i rb rfl ho
      have := hown rb ho
      subst this
      exact ⟨fun j _ hj => Nat.lt_irrefl _ (r.owned_lt hj), fun j hj _ => hj.symm⟩
    · intro b hb
      have hn := r.fresh b hb
      have : b ≠ s := by simp at hb; omega
      exact ⟨by simp [Sim.addφ, upd, this]; exact hn.1, hn.2⟩
  · refine ⟨le, by simp, fun rb hlt _ => heap_alloc_old hlt, ?_, fun b o v hv => .inl hv, .alloc (.cells _ _)⟩
    rintro rb ⟨i, ho⟩
    by_cases hi : i = s
    · subst hi; exact .inr (by rw [hown rb ho]; exact Nat.le_refl _)
    · refine .inl ⟨i, ?_⟩
      simpa [Own, Sim.addφ, upd, hi] using ho
end Go.Eng
namespace Go.Eng
open Go
theorem prefix_get {vs l : List Value} (hp : vs <+: l) (i : Nat) (h : i < vs.length) : l[i]? = vs[i]? := by
  obtain ⟨t, rfl⟩ := hp
  rw [List.getElem?_append_left h]
theorem upds_append {α : Type} (f : Nat → α) (xs ys : List (Nat × α)) : upds f (xs ++ ys) = upds (upds f xs) ys := by
  induction xs generalizing f with
  | nil => rfl
  | cons x xs ih => exact ih _
theorem upds_map {α : Type} (g : Nat → α) (blk : Nat → α) (ks : List Nat) (i : Nat) : upds blk (ks.map fun k => (k, g k)) i = if i ∈ ks then g i else blk i := by
  induction ks generalizing blk with
  | nil => simp [upds]
  | cons k ks ih =>
    have e : upds blk ((k :: ks).map fun k => (k, g k)) = upds (upd blk k (g k)) (ks.map fun k => (k, g k)) := rfl
    rw [e, ih]
    by_cases h : i ∈ ks
    · simp [h]
    · by_cases hk : i = k
      · simp [hk, upd]
      · simp [h, hk, upd]
theorem upds_kills (blk0 blk : Nat → Blk) (ks : List Nat) (i : Nat) : upds blk (kills blk0 ks) i = if i ∈ ks then fixOf blk0 ks i else blk i := upds_map _ blk ks i
theorem fixOf_shape (blk : Nat → Blk) (ks : List Nat) (k : Nat) : fixOf blk ks k = .dead ∨ ∃ e ys, fixOf blk ks k = .fix e ys := by
  unfold fixOf
  split
  · split
    · exact .inr ⟨_, _, rfl⟩
    · exact .inl rfl
  · exact .inl rfl
theorem HR.drop {S : Sim} {h : H} {w : World} (r : HR S h w) (b : Nat) : HR S ⟨h.next, upd h.blk b .dead⟩ w ∧ Ext S h w S ⟨h.next, upd h.blk b .dead⟩ w := by
  constructor
  · refine r.turn (· = b) (.refl S) (fun i hi => ⟨by simp [upd, hi], rfl, rfl⟩) (fun _ _ _ _ => rfl) r.imm (fun b o v hv => .inl hv) ?_ ?_ r.fresh
    · rintro i rfl
      refine ⟨fun e ys hk => ?_, fun es hk => ?_, fun l hk => ?_, fun hk => ?_, fun r' hb _ => ?_, fun e ys hk => ?_⟩ <;> first | (simp at hk; done) | (simp [Blk.body] at hb)
    · rintro i rb rfl ho
      rcases ho with ⟨hb, _⟩ | ⟨hk, _⟩
      · simp [Blk.body] at hb
      · simp at hk
  · refine ⟨.refl S, Nat.le_refl _, fun _ _ _ => rfl, ?_, fun _ _ _ hv => .inl hv, .rfl'⟩
    rintro rb ⟨i, ho⟩
    by_cases hi : i = b
    · subst hi
      rcases ho with ⟨hb, _⟩ | ⟨hk, _⟩
      · simp [Blk.body] at hb
      · simp at hk
    · exact .inl ⟨i, (own_upd_ne hi).1 ho⟩
theorem addI_cases {S : Sim} {b lo : Nat} {vs : List Value} {b' o : Nat} {v : Value} (hv : (S.addI b lo vs).I b' o = some v) :
    (b' = b ∧ lo ≤ o ∧ o < lo + vs.length ∧ vs[o - lo]? = some v) ∨ S.I b' o = some v := by
  simp only [Sim.addI] at hv
  split at hv
  · rename_i hc; exact .inl ⟨hc.1, hc.2.1, hc.2.2, hv⟩
  · exact .inr hv
theorem addI_rd {S : Sim} {b lo : Nat} {vs : List Value} : (S.addI b lo vs).rd b lo vs := fun j hj => by
  simp only [Sim.addI]
  rw [if_pos (by simp; omega), Nat.add_sub_cancel_left]
  exact List.getElem?_eq_getElem hj
theorem HR.newTok {S : Sim} {h : H} {w : World} (r : HR S h w) {s : Nat} {vs : List Value} {cs : Array Value} {ty : TypeId}
    (ht : S.tk s = none) (hs : s < h.next) (hp : vs <+: cs.toList) :
    HR ((S.addI w.heap.size 0 vs).addTk s (w.heap.size, vs.length, cs.size)) ⟨h.next, upd h.blk s .tok⟩ (w.alloc (.cells cs ty)) ∧
      Ext S h w ((S.addI w.heap.size 0 vs).addTk s (w.heap.size, vs.length, cs.size)) ⟨h.next, upd h.blk s .tok⟩ (w.alloc (.cells cs ty)) := by
  have le1 : S.Le (S.addI w.heap.size 0 vs) := Sim.le_addI fun o _ _ => by
    cases hI : S.I w.heap.size o with
    | none => rfl
    | some v => have := r.imm_lt hI; omega
  have le : S.Le ((S.addI w.heap.size 0 vs).addTk s (w.heap.size, vs.length, cs.size)) := le1.trans (Sim.le_addTk ht)
  have himm : ∀ b o v, ((S.addI w.heap.size 0 vs).addTk s (w.heap.size, vs.length, cs.size)).I b o = some v → S.I b o = some v ∨ b = w.heap.size := fun b o v hv => by
    rcases addI_cases hv with ⟨h1, _⟩ | h1
    · exact .inr h1
    · exact .inl h1
  have hown : ∀ rb, Own ((S.addI w.heap.size 0 vs).addTk s (w.heap.size, vs.length, cs.size)) ⟨h.next, upd h.blk s .tok⟩ s rb → rb = w.heap.size := fun rb ho => by
    rcases ho with ⟨hb, _⟩ | ⟨_, lo, hi, hk, _⟩
    · simp [Blk.body] at hb
    · simp [Sim.addTk] at hk; exact hk.1.symm
  have hcell : ∀ j, (w.alloc (.cells cs ty)).cell? ⟨w.heap.size, j, none⟩ = cs[j]? := fun j => World.cell?_alloc_new w cs ty j
  constructor
  · refine r.turn (· = s) le (fun i hi => ⟨by simp [upd, hi], rfl, by simp [Sim.addTk, upd, hi, Sim.addI]⟩) (fun i rb _ ho => heap_alloc_old (r.owned_lt ho)) ?_ ?_ ?_ ?_ ?_
    · intro b o v hv
      rcases addI_cases hv with ⟨rfl, _, h2, h3⟩ | h1
      · rw [hcell]
        rw [Nat.sub_zero] at h3
        have := prefix_get hp o (by simpa using h2)
        rw [h3] at this
        simpa using this
      · rw [cell_alloc_old (r.imm_lt h1)]; exact r.imm b o v h1
    · intro b o v hv
      rcases himm b o v hv with h1 | rfl
      · exact .inl h1
      · exact .inr fun i _ ho => Nat.lt_irrefl _ (r.owned_lt ho)
    · rintro i rfl
      refine ⟨fun e ys hk => ?_, fun es hk => ?_, fun l hk => ?_, fun _ rb lo hi hk _ => ?_, fun r' hb _ => ?_, fun _ _ hk => by simp at hk⟩
      · simp at hk
      · simp at hk
      · simp at hk
      · simp [Sim.addTk] at hk
        obtain ⟨rfl, rfl, rfl⟩ := hk
        refine ⟨cs, ty, heap_alloc_new, Nat.le_refl _, fun o ho => ?_⟩
        show (S.addI w.heap.size 0 vs).I w.heap.size o = none
        cases hI : (S.addI w.heap.size 0 vs).I w.heap.size o with
        | none => rfl
        | some v =>
          rcases addI_cases hI with ⟨_, _, h2, _⟩ | h1
          · omega
          · have := r.imm_lt h1; omega
      · simp [Blk.body] at hb
    · rintro i rb rfl ho
      have := hown rb ho
      subst this
      exact ⟨fun j _ hj => Nat.lt_irrefl _ (r.owned_lt hj), fun j hj _ => hj.symm⟩
    · intro b hb
      have hn := r.fresh b hb
      have : b ≠ s := by simp at hb; omega
      exact ⟨hn.1, by simp [Sim.addTk, upd, this, Sim.addI]; exact hn.2⟩
  · refine ⟨le, by simp, fun rb hlt _ => heap_alloc_old hlt, ?_, fun b o v hv => ?_, .alloc (.cells _ _)⟩
    · rintro rb ⟨i, ho⟩
      by_cases hi : i = s
      · subst hi; exact .inr (by rw [hown rb ho]; exact Nat.le_refl _)
      · refine .inl ⟨i, ?_⟩
        simpa [Own, Sim.addTk, upd, hi, Sim.addI] using ho
    · rcases himm b o v hv with h1 | rfl
      · exact .inl h1
      · exact .inr (.inr (Nat.le_refl _))
theorem HR.newI {S : Sim} {h : H} {w : World} (r : HR S h w) {vs : List Value} {cs : Array Value} {ty : TypeId} (hp : vs <+: cs.toList) :
    HR (S.addI w.heap.size 0 vs) h (w.alloc (.cells cs ty)) ∧ Ext S h w (S.addI w.heap.size 0 vs) h (w.alloc (.cells cs ty)) := by
  have le : S.Le (S.addI w.heap.size 0 vs) := Sim.le_addI fun o _ _ => by
    cases hI : S.I w.heap.size o with
    | none => rfl
    | some v => have := r.imm_lt hI; omega
  have himm : ∀ b o v, (S.addI w.heap.size 0 vs).I b o = some v → S.I b o = some v ∨ b = w.heap.size := fun b o v hv => by
    rcases addI_cases hv with ⟨h1, _⟩ | h1
    · exact .inr h1
    · exact .inl h1
  have hcell : ∀ j, (w.alloc (.cells cs ty)).cell? ⟨w.heap.size, j, none⟩ = cs[j]? := fun j => World.cell?_alloc_new w cs ty j
  constructor
  · refine r.turn (fun _ => False) le (fun i _ => ⟨rfl, rfl, rfl⟩) (fun i rb _ ho => heap_alloc_old (r.owned_lt ho)) ?_ ?_ (fun _ h => h.elim) (fun _ _ h => h.elim) r.fresh
    · intro b o v hv
      rcases addI_cases hv with ⟨rfl, _, h2, h3⟩ | h1
      · rw [hcell]
        rw [Nat.sub_zero] at h3
        have := prefix_get hp o (by simpa using h2)
        rw [h3] at this
        simpa using this
      · rw [cell_alloc_old (r.imm_lt h1)]; exact r.imm b o v h1
    · intro b o v hv
      rcases himm b o v hv with h1 | rfl
      · exact .inl h1
      · exact .inr fun i _ ho => Nat.lt_irrefl _ (r.owned_lt ho)
  · refine ⟨le, by simp, fun rb hlt _ => heap_alloc_old hlt, fun rb ⟨i, ho⟩ => .inl ⟨i, ho⟩, fun b o v hv => ?_, .alloc (.cells _ _)⟩
    rcases himm b o v hv with h1 | rfl
    · exact .inl h1
    · exact .inr (.inr (Nat.le_refl _))
def _root_.Go.World.engCells (w : World) (rb : Nat) (cs : Array Value) (ty : TypeId) : World := { w with heap := w.heap.setIfInBounds rb (.cells cs ty (0, 0)) }
theorem size_engCells (w : World) (rb : Nat) (cs : Array Value) (ty : TypeId) : (w.engCells rb cs ty).heap.size = w.heap.size := by simp [World.engCells]
theorem heap_engCells_ne {w : World} {rb b : Nat} {cs : Array Value} {ty : TypeId} (h : b ≠ rb) : (w.engCells rb cs ty).heap[b]? = w.heap[b]? := by
  simp only [World.engCells]
  rw [Array.getElem?_setIfInBounds_ne (Ne.symm h)]
theorem heap_engCells_same {w : World} {rb : Nat} {cs : Array Value} {ty : TypeId} (h : rb < w.heap.size) : (w.engCells rb cs ty).heap[rb]? = some (.cells cs ty (0, 0)) := by
  simp only [World.engCells]
  rw [Array.getElem?_setIfInBounds_self_of_lt h]
theorem HR.setLive {S : Sim} {h : H} {w : World} (r : HR S h w) {b s esz esz' : Nat} {xs xs' : List D} {k : RB} {cs cs' : Array Value} {ty ty' : TypeId} {vs' : List Value}
    (hb : h.blk b = .live esz' xs) (hk : S.φ b = some k) (hcs : w.heap[k.rb]? = some (.cells cs ty (0, 0))) (he : k.esz = esz) (hn : cs'.size = k.n)
    (hs : s = b ∨ (S.φ s = none ∧ s < h.next)) (hx : ∀ x ∈ xs', x.cells.length = esz) (hc : ∀ c ∈ xs'.flatMap D.cells, c.scalar = true)
    (hv : VRs S (xs'.flatMap D.cells) vs') (hp : vs' <+: cs'.toList) :
    let S' : Sim := if s = b then S else S.addφ s k
    let h' : H := ⟨h.next, if s = b then upd h.blk b (.live esz xs') else upd (upd h.blk b .dead) s (.live esz xs')⟩
    HR S' h' (w.engCells k.rb cs' ty') ∧ Ext S h w S' h' (w.engCells k.rb cs' ty') := by
  intro S' h'
  have hlt := size_of_some hcs
  have hob : Own S h b k.rb := .inl ⟨by rw [hb]; rfl, k, hk, rfl⟩
  have le : S.Le S' := by
    show S.Le (if s = b then S else S.addφ s k)
    split
    · exact .refl S
    · rcases hs with hs | hs
      · contradiction
      · exact Sim.le_addφ hs.1
  have hφs : S'.φ s = some k := by
    show (if s = b then S else S.addφ s k).φ s = some k
    split
    · rename_i e; rw [e]; exact hk
    · simp [Sim.addφ]
  have hblks : h'.blk s = .live esz xs' := by
    show (if s = b then upd h.blk b (.live esz xs') else upd (upd h.blk b .dead) s (.live esz xs')) s = _
    split
    · rename_i e; rw [e]; simp
    · simp
  have hI : S'.I = S.I := by
    show (if s = b then S else S.addφ s k).I = S.I
    split <;> rfl
  have hdis : ∀ o, S.I k.rb o = none := fun o => r.disI b k (by rw [hb]; rfl) hk o
  have hcell : ∀ b' o v, S.I b' o = some v → (w.engCells k.rb cs' ty').cell? ⟨b', o, none⟩ = some v := fun b' o v hv => by
    rw [cell_old (heap_engCells_ne fun e => by rw [e, hdis] at hv; cases hv)]
    exact r.imm b' o v hv
  have hblkb : s ≠ b → h'.blk b = .dead := fun hne => by
    show (if s = b then upd h.blk b (.live esz xs') else upd (upd h.blk b .dead) s (.live esz xs')) b = _
    rw [if_neg hne]; simp [upd, Ne.symm hne]
  have hunch : ∀ i, i ≠ s → i ≠ b → h'.blk i = h.blk i ∧ S'.φ i = S.φ i ∧ S'.tk i = S.tk i := fun i h1 h2 => by
    refine ⟨?_, ?_, ?_⟩
    · show (if s = b then upd h.blk b (.live esz xs') else upd (upd h.blk b .dead) s (.live esz xs')) i = _
      split <;> simp [upd, h1, h2]
    · show (if s = b then S else S.addφ s k).φ i = _
      split
      · rfl
      · simp [Sim.addφ, upd, h1]
    · show (if s = b then S else S.addφ s k).tk i = _
      split <;> rfl
  have howns : ∀ rb, Own S' h' s rb → rb = k.rb := fun rb ho => by
    rcases ho with ⟨_, r', hr, rfl⟩ | ⟨hk', _⟩
    · rw [hφs] at hr; cases hr; rfl
    · rw [hblks] at hk'; cases hk'
  have hownb : s ≠ b → ∀ rb, ¬ Own S' h' b rb := fun hne rb ho => by
    rcases ho with ⟨hb', _⟩ | ⟨hk', _⟩
    · rw [hblkb hne] at hb'; cases hb'
    · rw [hblkb hne] at hk'; cases hk'
  constructor
  · refine r.turn (fun i => i = s ∨ i = b) le (fun i hi => hunch i (fun e => hi (.inl e)) (fun e => hi (.inr e))) ?_ (fun b o v hv => hcell b o v (by rw [← hI]; exact hv)) (fun b o v hv => .inl (by rw [← hI]; exact hv)) ?_ ?_ ?_
    · intro i rb hi ho
      refine heap_engCells_ne fun e => ?_
      subst e
      exact hi (.inr (r.inj i b _ ho hob))
    · rintro i hi
      by_cases his : i = s
      · subst his
        refine ⟨fun e ys hk' => ?_, fun es hk' => ?_, fun l hk' => ?_, fun hk' => ?_, fun r' _ hr o => ?_, fun _ _ hk' => by rw [hblks] at hk'; cases hk'⟩
        · rw [hblks] at hk'; cases hk'
          exact ⟨hx, hc, .inr ⟨k, cs', ty', vs', hφs, he, heap_engCells_same hlt, hn, hv.mono le, hp⟩⟩
        · rw [hblks] at hk'; cases hk'
        · rw [hblks] at hk'; cases hk'
        · rw [hblks] at hk'; cases hk'
        · rw [hφs] at hr; cases hr; rw [hI]; exact hdis o
      · have hib : i = b := hi.resolve_left his
        subst hib
        have hd := hblkb (fun e => his e.symm)
        refine ⟨fun e ys hk' => ?_, fun es hk' => ?_, fun l hk' => ?_, fun hk' => ?_, fun r' hb' _ => ?_, fun e ys hk' => ?_⟩ <;> first | (rw [hd] at hk'; cases hk') | (rw [hd] at hb'; cases hb')
    · rintro i rb hi ho
      by_cases his : i = s
      · subst his
        have := howns rb ho
        subst this
        refine ⟨fun j hj hoj => hj (.inr (r.inj j b _ hoj hob)), fun j hj hoj => ?_⟩
        rcases hj with rfl | rfl
        · rfl
        · by_cases e : i = j
          · exact e
          · exact absurd hoj (hownb e _)
      · have hib : i = b := hi.resolve_left his
        subst hib
        exact absurd ho (hownb (fun e => his e.symm) rb)
    · intro b' hb'
      have hn' := r.fresh b' hb'
      have h1 : b' ≠ s := by
        rcases hs with rfl | hs
        · rintro rfl; rw [hn'.1] at hk; cases hk
        · have : h.next ≤ b' := hb'
          omega
      have h2 : b' ≠ b := by rintro rfl; rw [hn'.1] at hk; cases hk
      obtain ⟨_, e1, e2⟩ := hunch b' h1 h2
      rw [e1, e2]; exact hn'
  · refine ⟨le, by rw [size_engCells]; exact Nat.le_refl _, fun rb _ hno => heap_engCells_ne fun e => hno (e ▸ ⟨b, hob⟩), ?_, fun b o v hv => .inl (by rw [← hI]; exact hv), .put rfl ⟨rfl, rfl⟩ (.cells _ _) (by rw [hcs]; exact .cells _ _)⟩
    rintro rb ⟨i, ho⟩
    by_cases his : i = s
    · subst his; rw [howns rb ho]; exact .inl ⟨b, hob⟩
    · by_cases hib : i = b
      · subst hib; exact absurd ho (hownb (fun e => his e.symm) rb)
      · obtain ⟨e1, e2, e3⟩ := hunch i his hib
        refine .inl ⟨i, ?_⟩
        simpa only [Own, e1, e2, e3] using ho
theorem HR.tokGrow {S : Sim} {h : H} {w : World} (r : HR S h w) {o s rb lo hi : Nat} {vs : List Value} {cs cs' : Array Value} {ty ty' : TypeId}
    (ho : h.blk o = .tok) (ht : S.tk o = some (rb, lo, hi)) (hlh : lo < hi) (hcs : w.heap[rb]? = some (.cells cs ty (0, 0))) (hs : S.tk s = none) (hsn : s < h.next)
    (hsz : cs'.size = cs.size) (hle : lo + vs.length ≤ hi) (hold : ∀ j, j < lo → cs'[j]? = cs[j]?) (hnew : ∀ j, j < vs.length → cs'[lo + j]? = vs[j]?) :
    HR ((S.addI rb lo vs).addTk s (rb, lo + vs.length, hi)) ⟨h.next, upd (upd h.blk o .dead) s .tok⟩ (w.engCells rb cs' ty') ∧
      Ext S h w ((S.addI rb lo vs).addTk s (rb, lo + vs.length, hi)) ⟨h.next, upd (upd h.blk o .dead) s .tok⟩ (w.engCells rb cs' ty') := by
  have hlt := size_of_some hcs
  obtain ⟨cs0, ty0, h0, h1, h2⟩ := r.tok o ho rb lo hi ht hlh
  rw [hcs] at h0; cases h0
  have hob : Own S h o rb := .inr ⟨ho, lo, hi, ht, hlh⟩
  have hso : s ≠ o := by rintro rfl; rw [hs] at ht; cases ht
  have le : S.Le ((S.addI rb lo vs).addTk s (rb, lo + vs.length, hi)) := (Sim.le_addI fun o' h3 _ => h2 o' h3).trans (Sim.le_addTk hs)
  have hcell : ∀ j, (w.engCells rb cs' ty').cell? ⟨rb, j, none⟩ = cs'[j]? := fun j => by simp [World.cell?, heap_engCells_same hlt]
  have hcell0 : ∀ j, w.cell? ⟨rb, j, none⟩ = cs[j]? := fun j => by simp [World.cell?, hcs]
  have howns : ∀ rb', Own ((S.addI rb lo vs).addTk s (rb, lo + vs.length, hi)) ⟨h.next, upd (upd h.blk o .dead) s .tok⟩ s rb' → rb' = rb := fun rb' ho' => by
    rcases ho' with ⟨hb, _⟩ | ⟨_, lo', hi', hk, _⟩
    · simp [Blk.body] at hb
    · simp [Sim.addTk] at hk; exact hk.1.symm
  have howno : ∀ rb', ¬ Own ((S.addI rb lo vs).addTk s (rb, lo + vs.length, hi)) ⟨h.next, upd (upd h.blk o .dead) s .tok⟩ o rb' := fun rb' ho' => by
    rcases ho' with ⟨hb, _⟩ | ⟨hk, _⟩
    · simp [upd, Ne.symm hso, Blk.body] at hb
    · simp [upd, Ne.symm hso] at hk
  have himm : ∀ b o' v, ((S.addI rb lo vs).addTk s (rb, lo + vs.length, hi)).I b o' = some v → S.I b o' = some v ∨ b = rb := fun b o' v hv => by
    rcases addI_cases hv with ⟨h3, _⟩ | h3
    · exact .inr h3
    · exact .inl h3
  constructor
  · refine r.turn (fun i => i = s ∨ i = o) le (fun i hi' => by
      have h3 : i ≠ s := fun e => hi' (.inl e)
      have h4 : i ≠ o := fun e => hi' (.inr e)
      exact ⟨by simp [upd, h3, h4], rfl, by simp [Sim.addTk, upd, h3, Sim.addI]⟩) ?_ ?_ ?_ ?_ ?_ ?_
    · intro i rb' hi' ho'
      refine heap_engCells_ne fun e => ?_
      subst e
      exact hi' (.inr (r.inj i o _ ho' hob))
    · intro b o' v hv
      rcases addI_cases hv with ⟨rfl, h3, h4, h5⟩ | h3
      · rw [hcell]
        have := hnew (o' - lo) (by omega)
        rw [h5, show lo + (o' - lo) = o' by omega] at this
        exact this
      · by_cases e : b = rb
        · subst e
          have hlo : o' < lo := by
            rcases Nat.lt_or_ge o' lo with h6 | h6
            · exact h6
            · rw [h2 o' h6] at h3; cases h3
          rw [hcell, hold o' hlo, ← hcell0]
          exact r.imm _ _ _ h3
        · rw [cell_old (heap_engCells_ne e)]; exact r.imm _ _ _ h3
    · intro b o' v hv
      rcases himm b o' v hv with h3 | rfl
      · exact .inl h3
      · exact .inr fun i hi' ho' => hi' (.inr (r.inj i o _ ho' hob))
    · rintro i hi'
      by_cases his : i = s
      · subst his
        refine ⟨fun e ys hk => ?_, fun es hk => ?_, fun l hk => ?_, fun _ rb' lo' hi'' hk _ => ?_, fun r' hb _ => ?_, fun _ _ hk => by simp at hk⟩
        · simp at hk
        · simp at hk
        · simp at hk
        · simp [Sim.addTk] at hk
          obtain ⟨rfl, rfl, rfl⟩ := hk
          refine ⟨cs', ty', heap_engCells_same hlt, by omega, fun o' ho' => ?_⟩
          show (S.addI rb lo vs).I rb o' = none
          cases hI : (S.addI rb lo vs).I rb o' with
          | none => rfl
          | some v =>
            rcases addI_cases hI with ⟨_, _, h3, _⟩ | h3
            · omega
            · rw [h2 o' (by omega)] at h3; cases h3
        · simp [Blk.body] at hb
      · have hio : i = o := hi'.resolve_left his
        subst hio
        refine ⟨fun e ys hk => ?_, fun es hk => ?_, fun l hk => ?_, fun hk => ?_, fun r' hb _ => ?_, fun e ys hk => ?_⟩ <;> first | (simp [upd, his] at hk; done) | (simp [upd, his, Blk.body] at hb)
    · rintro i rb' hi' ho'
      by_cases his : i = s
      · subst his
        have := howns rb' ho'
        subst this
        refine ⟨fun j hj hoj => hj (.inr (r.inj j o _ hoj hob)), fun j hj hoj => ?_⟩
        rcases hj with rfl | rfl
        · rfl
        · exact absurd hoj (howno _)
      · have hio : i = o := hi'.resolve_left his
        subst hio
        exact absurd ho' (howno rb')
    · intro b hb
      have hn := r.fresh b hb
      have : b ≠ s := by simp at hb; omega
      exact ⟨hn.1, by simp [Sim.addTk, upd, this, Sim.addI]; exact hn.2⟩
  · refine ⟨le, by rw [size_engCells]; exact Nat.le_refl _, fun rb' _ hno => heap_engCells_ne fun e => hno (e ▸ ⟨o, hob⟩), ?_, fun b o' v hv => ?_, .put rfl ⟨rfl, rfl⟩ (.cells _ _) (by rw [hcs]; exact .cells _ _)⟩
    · rintro rb' ⟨i, ho'⟩
      by_cases his : i = s
      · subst his; rw [howns rb' ho']; exact .inl ⟨o, hob⟩
      · by_cases hio : i = o
        · subst hio; exact absurd ho' (howno rb')
        · refine .inl ⟨i, ?_⟩
          simpa [Own, Sim.addTk, upd, his, hio, Sim.addI] using ho'
    · rcases himm b o' v hv with h3 | rfl
      · exact .inl h3
      · exact .inr (.inl ⟨o, hob⟩)
theorem HR.idleTok {S : Sim} {h : H} {w : World} (r : HR S h w) {s rb lo : Nat} (ht : S.tk s = none) (hs : s < h.next) :
    HR (S.addTk s (rb, lo, lo)) ⟨h.next, upd h.blk s .tok⟩ w ∧ Ext S h w (S.addTk s (rb, lo, lo)) ⟨h.next, upd h.blk s .tok⟩ w := by
  have le : S.Le (S.addTk s (rb, lo, lo)) := Sim.le_addTk ht
  have hno : ∀ rb', ¬ Own (S.addTk s (rb, lo, lo)) ⟨h.next, upd h.blk s .tok⟩ s rb' := fun rb' ho => by
    rcases ho with ⟨hb, _⟩ | ⟨_, lo', hi', hk, hl⟩
    · simp [Blk.body] at hb
    · simp [Sim.addTk] at hk; omega
  constructor
  · refine r.turn (· = s) le (fun i hi => ⟨by simp [upd, hi], rfl, by simp [Sim.addTk, upd, hi]⟩) (fun _ _ _ _ => rfl) r.imm (fun b o v hv => .inl hv) ?_ (fun i rb' hi ho => by subst hi; exact absurd ho (hno rb')) ?_
    · rintro i rfl
      refine ⟨fun e ys hk => ?_, fun es hk => ?_, fun l hk => ?_, fun _ rb' lo' hi' hk hl => ?_, fun r' hb _ => ?_, fun _ _ hk => by simp at hk⟩
      · simp at hk
      · simp at hk
      · simp at hk
      · simp [Sim.addTk] at hk; omega
      · simp [Blk.body] at hb
    · intro b hb
      have hn := r.fresh b hb
      have : b ≠ s := by simp at hb; omega
      exact ⟨hn.1, by simp [Sim.addTk, upd, this]; exact hn.2⟩
  · refine ⟨le, Nat.le_refl _, fun _ _ _ => rfl, ?_, fun b o v hv => .inl hv, .rfl'⟩
    rintro rb' ⟨i, ho⟩
    by_cases hi : i = s
    · subst hi; exact absurd ho (hno rb')
    · refine .inl ⟨i, ?_⟩
      simpa [Own, Sim.addTk, upd, hi] using ho
theorem HR.voidLive {S : Sim} {h : H} {w : World} (r : HR S h w) {s esz : Nat} (hφ : S.φ s = none) :
    HR S ⟨h.next, upd h.blk s (.live esz [])⟩ w ∧ Ext S h w S ⟨h.next, upd h.blk s (.live esz [])⟩ w := by
  have hno : ∀ rb', ¬ Own S ⟨h.next, upd h.blk s (.live esz [])⟩ s rb' := fun rb' ho => by
    rcases ho with ⟨_, r', hr, _⟩ | ⟨hk, _⟩
    · rw [hφ] at hr; cases hr
    · simp at hk
  constructor
  · refine r.turn (· = s) (.refl S) (fun i hi => ⟨by simp [upd, hi], rfl, rfl⟩) (fun _ _ _ _ => rfl) r.imm (fun b o v hv => .inl hv) ?_ (fun i rb' hi ho => by subst hi; exact absurd ho (hno rb')) r.fresh
    rintro i rfl
    refine ⟨fun e ys hk => ?_, fun es hk => ?_, fun l hk => ?_, fun hk => ?_, fun r' _ hr => ?_, fun _ _ hk => by simp at hk⟩
    · simp at hk; obtain ⟨rfl, rfl⟩ := hk
      exact ⟨by simp, by simp, .inl ⟨rfl, hφ⟩⟩
    · simp at hk
    · simp at hk
    · simp at hk
    · rw [hφ] at hr; cases hr
  · refine ⟨.refl S, Nat.le_refl _, fun _ _ _ => rfl, ?_, fun b o v hv => .inl hv, .rfl'⟩
    rintro rb' ⟨i, ho⟩
    by_cases hi : i = s
    · subst hi; exact absurd ho (hno rb')
    · exact .inl ⟨i, (own_upd_ne hi).1 ho⟩
open Classical in
noncomputable def Sim.fz (S : Sim) (h : H) (w : World) (ks : List Nat) : Sim :=
  { S with I := fun b o => if (∃ k ∈ ks, (h.blk k).body = true ∧ Own S h k b) then w.cell? ⟨b, o, none⟩ else S.I b o }
theorem HR.fz_le {S : Sim} {h : H} {w : World} (r : HR S h w) (ks : List Nat) : S.Le (S.fz h w ks) :=
  ⟨fun _ _ h => h, fun _ _ h => h, fun b o v hv => by
    simp only [Sim.fz]
    split
    · exact r.imm b o v hv
    · exact hv⟩
theorem HR.killG {S : Sim} {h : H} {w : World} (r : HR S h w) (ks : List Nat) {g : Nat → Blk} (hg : ∀ k ∈ ks, g k = .dead ∨ ∃ e ys, g k = .fix e ys ∧ Fixed (S.fz h w ks) k e ys) :
    HR (S.fz h w ks) ⟨h.next, upds h.blk (ks.map fun k => (k, g k))⟩ w ∧ Ext S h w (S.fz h w ks) ⟨h.next, upds h.blk (ks.map fun k => (k, g k))⟩ w := by
  have le := r.fz_le ks
  have hno : ∀ i rb, i ∈ ks → ¬ Own (S.fz h w ks) ⟨h.next, upds h.blk (ks.map fun k => (k, g k))⟩ i rb := fun i rb hi ho => by
    have hb : upds h.blk (ks.map fun k => (k, g k)) i = g i := by rw [upds_map, if_pos hi]
    rcases hg i hi with h1 | ⟨e, ys, h1, _⟩
    all_goals
      rw [h1] at hb
      rcases ho with ⟨hbd, _⟩ | ⟨hk, _⟩
      · simp only [hb] at hbd; cases hbd
      · simp only [hb] at hk; cases hk
  have hI : ∀ b o v, (S.fz h w ks).I b o = some v → (S.I b o = some v) ∨ ((∃ k ∈ ks, (h.blk k).body = true ∧ Own S h k b) ∧ w.cell? ⟨b, o, none⟩ = some v) := fun b o v hv => by
    simp only [Sim.fz] at hv
    split at hv
    · rename_i hk; exact .inr ⟨hk, hv⟩
    · exact .inl hv
  constructor
  · refine r.turn (· ∈ ks) le (fun i hi => ⟨by simp only [upds_map, if_neg hi], rfl, rfl⟩) (fun _ _ _ _ => rfl) ?_ ?_ ?_ (fun i rb hi ho => absurd ho (hno i rb hi)) r.fresh
    · intro b o v hv
      rcases hI b o v hv with h1 | ⟨_, h1⟩
      · exact r.imm b o v h1
      · exact h1
    · intro b o v hv
      rcases hI b o v hv with h1 | ⟨⟨k, hk, _, ho⟩, _⟩
      · exact .inl h1
      · exact .inr fun i hi ho' => hi (r.inj i k b ho' ho ▸ hk)
    · intro i hi
      have hd : upds h.blk (ks.map fun k => (k, g k)) i = g i := by rw [upds_map, if_pos hi]
      rcases hg i hi with h1 | ⟨e, ys, h1, h2⟩
      · rw [h1] at hd
        refine ⟨fun e ys hk => ?_, fun es hk => ?_, fun l hk => ?_, fun hk => ?_, fun r' hb _ => ?_, fun e ys hk => ?_⟩ <;> first | (simp only [hd] at hk; cases hk; done) | (simp only [hd] at hb; cases hb)
      · rw [h1] at hd
        refine ⟨fun e ys hk => ?_, fun es hk => ?_, fun l hk => ?_, fun hk => ?_, fun r' hb _ => ?_, fun e' ys' hk => ?_⟩
        · simp only [hd] at hk; cases hk
        · simp only [hd] at hk; cases hk
        · simp only [hd] at hk; cases hk
        · simp only [hd] at hk; cases hk
        · simp only [hd] at hb; cases hb
        · simp only [hd] at hk; cases hk; exact h2
  · refine ⟨le, Nat.le_refl _, fun _ _ _ => rfl, ?_, fun b o v hv => ?_, .rfl'⟩
    · rintro rb ⟨i, ho⟩
      by_cases hi : i ∈ ks
      · exact absurd ho (hno i rb hi)
      · refine .inl ⟨i, ?_⟩
        have hb : upds h.blk (ks.map fun k => (k, g k)) i = h.blk i := by rw [upds_map, if_neg hi]
        simpa only [Own, hb, Sim.fz] using ho
    · rcases hI b o v hv with h1 | ⟨⟨k, hk, _, ho⟩, _⟩
      · exact .inl h1
      · exact .inr (.inl ⟨k, ho⟩)
end Go.Eng
namespace Go.Eng
open Go
theorem VR.of_cells {S : Sim} {x : D} {u : List Value} (h : VRs S x.cells u) (hc : ∀ c ∈ x.cells, c.scalar = true) : ∃ v, VR S x v ∧ v.cells.toList = u := by
  cases x with
  | agg cs => exact ⟨.agg u.toArray, .agg hc (by simpa using h), by simp [Value.cells]⟩
  | tup cs => simp [D.scalar] at hc
  | _ =>
    cases h with
    | cons h1 h2 =>
      cases h2
      refine ⟨_, h1, ?_⟩
      cases h1 <;> rfl
def IncI (S : Sim) (h : H) (w : World) (S' : Sim) (ks : List Nat) : Prop :=
  (∀ b o x, S.I b o = some x → S'.I b o = some x) ∧ ∀ k ∈ ks, ∀ rb, Own S h k rb → ∀ o x, w.cell? ⟨rb, o, none⟩ = some x → S'.I rb o = some x
theorem IncI.left {S S' : Sim} {h : H} {w : World} {ks ks' : List Nat} (i : IncI S h w S' (ks ++ ks')) : IncI S h w S' ks :=
  ⟨i.1, fun k hk => i.2 k (List.mem_append_left _ hk)⟩
theorem IncI.right {S S' : Sim} {h : H} {w : World} {ks ks' : List Nat} (i : IncI S h w S' (ks ++ ks')) : IncI S h w S' ks' :=
  ⟨i.1, fun k hk => i.2 k (List.mem_append_right _ hk)⟩
theorem IncI.pure {S S' : Sim} {h : H} {w : World} {ks : List Nat} (i : IncI S h w S' ks) : IncI S h w S'.pure ks := i
def SnapOk (S : Sim) (h : H) (w : World) (d d' : D) (ks : List Nat) : Prop :=
  (∀ k ∈ ks, (h.blk k).row.isSome = true) ∧ d'.cells.length = d.cells.length ∧ (d.okc = true → d'.okc = true) ∧ (d.scalar = true → d'.scalar = true) ∧
  ∀ v, VR S d v → ∀ S', IncI S h w S' ks → VR S' d' v
theorem mapK_ok {S : Sim} {h : H} {w : World} {f : D → Option (D × List Nat)} (hf : ∀ d d' ks, f d = some (d', ks) → SnapOk S h w d d' ks) :
    ∀ (ds ds' : List D) (ks : List Nat), mapK f ds = some (ds', ks) → (∀ k ∈ ks, (h.blk k).row.isSome = true) ∧ ds'.length = ds.length ∧
      ((∀ d ∈ ds, d.scalar = true) → ∀ d ∈ ds', d.scalar = true) ∧
      (∀ (i : Nat) (d' : D), ds'[i]? = some d' → ∃ d : D, ds[i]? = some d ∧ d'.cells.length = d.cells.length) ∧
      ∀ vs, VRs S ds vs → ∀ S', IncI S h w S' ks → VRs S' ds' vs
  | [], ds', ks, e => by
    simp [mapK] at e; obtain ⟨rfl, rfl⟩ := e
    refine ⟨by simp, rfl, by simp, by simp, fun vs hv S' _ => ?_⟩
    cases hv; exact .nil
  | d :: ds, ds', ks, e => by
    simp only [mapK] at e
    cases h1 : f d with
    | none => rw [h1] at e; cases e
    | some y =>
      obtain ⟨y, k⟩ := y
      rw [h1] at e; simp only at e
      cases h2 : mapK f ds with
      | none => rw [h2] at e; cases e
      | some z =>
        obtain ⟨ys, k'⟩ := z
        rw [h2] at e; simp only [Option.some.injEq, Prod.mk.injEq] at e
        obtain ⟨rfl, rfl⟩ := e
        obtain ⟨a1, a2, _, a4, a5⟩ := hf d y k h1
        obtain ⟨b1, b2, b3, b4, b5⟩ := mapK_ok hf ds ys k' h2
        refine ⟨?_, by simp [b2], ?_, ?_, ?_⟩
        · intro x hx
          rcases List.mem_append.1 hx with hx | hx
          · exact a1 x hx
          · exact b1 x hx
        · intro hs x hx
          rcases List.mem_cons.1 hx with rfl | hx
          · exact a4 (hs d (List.mem_cons_self ..))
          · exact b3 (fun z hz => hs z (List.mem_cons_of_mem _ hz)) x hx
        · intro i d' hd
          cases i with
          | zero => simp at hd; subst hd; exact ⟨d, rfl, a2⟩
          | succ i => simp at hd ⊢; exact b4 i d' hd
        · intro vs hv S' hi
          cases hv with
          | cons v1 v2 => exact .cons (a5 _ v1 S' hi.left) (b5 _ v2 S' hi.right)
theorem elems_vals {S : Sim} {esz : Nat} : ∀ (xs : List D) (u : List Value), VRs S (xs.flatMap D.cells) u → (∀ c ∈ xs.flatMap D.cells, c.scalar = true) →
    ∃ es : List Value, VRs S xs es ∧ es.flatMap (fun v => v.cells.toList) = u
  | [], u, h, _ => by cases h; exact ⟨[], .nil, rfl⟩
  | x :: xs, u, h, hc => by
    rw [List.flatMap_cons] at h hc
    obtain ⟨u1, u2, rfl, h1, h2⟩ := h.split
    obtain ⟨v, hv, rfl⟩ := VR.of_cells h1 (fun c hm => hc c (List.mem_append_left _ hm))
    obtain ⟨es, he, rfl⟩ := elems_vals (esz := esz) xs u2 h2 (fun c hm => hc c (List.mem_append_right _ hm))
    exact ⟨v :: es, .cons hv he, rfl⟩
theorem flat_vals {S : Sim} : ∀ (xs : List D) (es : List Value), VRs S xs es → VRs S (xs.flatMap D.cells) (es.flatMap fun v => v.cells.toList)
  | [], _, h => by cases h; exact .nil
  | x :: xs, _, h => by
    cases h with
    | cons h1 h2 => exact h1.cells.append (flat_vals xs _ h2)
theorem mem_flat {xs : List D} {c : D} (h : c ∈ xs.flatMap D.cells) : ∃ x ∈ xs, c ∈ x.cells := List.mem_flatMap.1 h
theorem okc_of_scalars {x : D} (h : ∀ c ∈ x.cells, c.scalar = true) : x.okc = true := by
  cases x <;> first | rfl | (simp [D.scalar] at h)
theorem mapK_row {S : Sim} {h : H} {w : World} {f : D → Option (D × List Nat)} (hf : ∀ d d' ks, f d = some (d', ks) → SnapOk S h w d d' ks)
    {xs ys : List D} {ks : List Nat} {u : List Value} {esz : Nat} (e : mapK f xs = some (ys, ks)) (hx : ∀ x ∈ xs, x.cells.length = esz)
    (hc : ∀ c ∈ xs.flatMap D.cells, c.scalar = true) (hu : VRs S (xs.flatMap D.cells) u) {S' : Sim} (hi : IncI S h w S' ks) :
    (∀ y ∈ ys, y.cells.length = esz) ∧ (∀ c ∈ ys.flatMap D.cells, c.scalar = true) ∧ VRs S' (ys.flatMap D.cells) u := by
  obtain ⟨es, hes, rfl⟩ := elems_vals (esz := esz) xs u hu hc
  obtain ⟨_, b2, _, b4, b5⟩ := mapK_ok hf xs ys ks e
  have hys := b5 es hes S' hi
  have hok : ∀ y ∈ ys, y.okc = true := by
    intro y hy
    obtain ⟨i, hi', hiy⟩ := List.getElem_of_mem hy
    have hy? : ys[i]? = some y := by rw [List.getElem?_eq_getElem hi', hiy]
    obtain ⟨d, hd, _⟩ := b4 i y hy?
    have hdm : d ∈ xs := List.mem_of_getElem? hd
    have hdo : d.okc = true := okc_of_scalars fun c hcc => hc c (List.mem_flatMap.2 ⟨d, hdm, hcc⟩)
    clear hiy
    have key : ∀ (l l' : List D) (k : List Nat), mapK f l = some (l', k) → ∀ (j : Nat) (a b : D), l[j]? = some a → l'[j]? = some b → a.okc = true → b.okc = true := by
      intro l
      induction l with
      | nil => intro l' k e j a b ha; simp at ha
      | cons x l ih =>
        intro l' k e j a b ha hb hao
        simp only [mapK] at e
        cases h1 : f x with
        | none => rw [h1] at e; cases e
        | some y1 =>
          obtain ⟨y1, k1⟩ := y1
          rw [h1] at e; simp only at e
          cases h2 : mapK f l with
          | none => rw [h2] at e; cases e
          | some z =>
            obtain ⟨zs, k2⟩ := z
            rw [h2] at e; simp only [Option.some.injEq, Prod.mk.injEq] at e
            obtain ⟨rfl, rfl⟩ := e
            cases j with
            | zero => simp at ha hb; subst ha; subst hb; exact (hf _ _ _ h1).2.2.1 hao
            | succ j => simp at ha hb; exact ih zs k2 h2 j a b ha hb hao
    exact key xs ys ks e i d y hd hy? hdo
  refine ⟨?_, ?_, flat_vals ys es hys⟩
  · intro y hy
    obtain ⟨i, hi', hiy⟩ := List.getElem_of_mem hy
    obtain ⟨d, hd, hl⟩ := b4 i y (by rw [List.getElem?_eq_getElem hi', hiy])
    rw [hl]; exact hx d (List.mem_of_getElem? hd)
  · intro c hcm
    obtain ⟨y, hy, hcy⟩ := mem_flat hcm
    obtain ⟨i, hi', hiy⟩ := List.getElem_of_mem hy
    obtain ⟨v, _, hv⟩ := hys.get i (by rw [List.getElem?_eq_getElem hi', hiy])
    exact hv.scalars (hok y hy) c hcy
theorem own_body {S : Sim} {h : H} {k rb : Nat} (hr : (h.blk k).row.isSome = true) (ho : Own S h k rb) : (h.blk k).body = true := by
  rcases ho with ⟨hb, _⟩ | ⟨hk, _⟩
  · exact hb
  · rw [hk] at hr; simp at hr
theorem HR.row {S : Sim} {h : H} {w : World} (r : HR S h w) {b esz : Nat} {xs : List D} (hb : (h.blk b).row = some (esz, xs)) :
    (∀ x ∈ xs, x.cells.length = esz) ∧ (∀ c ∈ xs.flatMap D.cells, c.scalar = true) ∧ ((xs = [] ∧ S.φ b = none) ∨
      ∃ r0 vs, S.φ b = some r0 ∧ r0.esz = esz ∧ VRs S (xs.flatMap D.cells) vs ∧ (∀ j (hj : j < vs.length), w.cell? ⟨r0.rb, j, none⟩ = some vs[j]) ∧ ((h.blk b).body = true ∨ S.rd r0.rb 0 vs)) := by
  cases hk : h.blk b with
  | live e ys =>
    rw [hk] at hb; simp at hb
    obtain ⟨rfl, rfl⟩ := hb
    obtain ⟨h1, h2, h3⟩ := r.live b _ _ hk
    refine ⟨h1, h2, ?_⟩
    rcases h3 with h3 | ⟨r0, cs, ty, vs, h3, h4, h5, h6, h7, h8⟩
    · exact .inl h3
    · refine .inr ⟨r0, vs, h3, h4, h7, fun j hj => ?_, .inl rfl⟩
      have hp := prefix_get h8 j hj
      simp only [World.cell?, h5, Option.isSome_none, Bool.false_eq_true, if_false]
      rw [← Array.getElem?_toList, hp, List.getElem?_eq_getElem hj]
  | fix e ys =>
    rw [hk] at hb; simp at hb
    obtain ⟨rfl, rfl⟩ := hb
    obtain ⟨h1, h2, h3⟩ := r.fix b _ _ hk
    refine ⟨h1, h2, ?_⟩
    rcases h3 with h3 | ⟨r0, vs, h3, h4, h5, h6⟩
    · exact .inl h3
    · exact .inr ⟨r0, vs, h3, h4, h5.mono S.pure_le, fun j hj => by have := r.imm _ _ _ (h6 j hj); simpa using this, .inr h6⟩
  | _ => rw [hk] at hb; simp at hb
theorem snap_ok {S : Sim} {h : H} {w : World} (r : HR S h w) : ∀ (n : Nat) (kp : Bool) (d d' : D) (ks : List Nat), snap kp h.blk n d = some (d', ks) → SnapOk S h w d d' ks := by
  intro n
  induction n with
  | zero => intro kp d d' ks e; simp [snap] at e
  | succ n ih =>
    intro kp d d' ks e
    have simple : ∀ x : D, d = x → (∀ v, VR S x v → ∀ S', IncI S h w S' [] → VR S' x v) → some (x, []) = some (d', ks) → SnapOk S h w d d' ks := by
      intro x hx hv hs
      simp only [Option.some.injEq, Prod.mk.injEq] at hs
      obtain ⟨rfl, rfl⟩ := hs
      subst hx
      exact ⟨by simp, rfl, id, id, hv⟩
    cases d with
    | bool b => exact simple _ rfl (fun v hv S' _ => by cases hv; constructor) (by simpa [snap] using e)
    | int k x => exact simple _ rfl (fun v hv S' _ => by cases hv; constructor) (by simpa [snap] using e)
    | str s => exact simple _ rfl (fun v hv S' _ => by cases hv; constructor) (by simpa [snap] using e)
    | nilp => exact simple _ rfl (fun v hv S' _ => by cases hv; constructor) (by simpa [snap] using e)
    | nilfn => exact simple _ rfl (fun v hv S' _ => by cases hv; constructor) (by simpa [snap] using e)
    | nilm => exact simple _ rfl (fun v hv S' _ => by cases hv; constructor) (by simpa [snap] using e)
    | iref x =>
      simp only [snap] at e
      cases h1 : snap false h.blk n x with
      | none => rw [h1] at e; cases e
      | some z =>
        obtain ⟨y, k⟩ := z
        rw [h1] at e; simp only [Option.some.injEq, Prod.mk.injEq] at e
        obtain ⟨rfl, rfl⟩ := e
        obtain ⟨a1, a2, a3, _, a5⟩ := ih false x y k h1
        refine ⟨a1, rfl, fun _ => rfl, fun _ => rfl, fun v hv S' hi => ?_⟩
        cases hv with
        | iref hc hs hr =>
          obtain ⟨v', hv', rfl⟩ := VR.of_cells (hs.mono S.pure_le) hc
          have hy := a5 v' hv' S'.pure hi.pure
          have hyo := a3 (okc_of_scalars hc)
          exact .iref (hy.scalars hyo) hy.cells fun j hj => hi.1 _ _ _ (hr j hj)
    | frz xs tk =>
      simp only [snap] at e
      cases h1 : mapK (snap false h.blk n) xs with
      | none => rw [h1] at e; cases e
      | some z =>
        obtain ⟨ys, k⟩ := z
        rw [h1] at e; simp only [Option.some.injEq, Prod.mk.injEq] at e
        obtain ⟨rfl, rfl⟩ := e
        obtain ⟨b1, b2, _⟩ := mapK_ok (fun d d' ks => ih false d d' ks) xs ys k h1
        refine ⟨b1, rfl, fun _ => rfl, fun _ => rfl, fun v hv S' hi => ?_⟩
        cases hv with
        | frz he hq hs hr ht hc hn =>
          obtain ⟨c1, c2, c3⟩ := mapK_row (fun d d' ks => ih false d d' ks) h1 he hq (hs.mono S.pure_le) (S' := S'.pure) hi.pure
          rw [← b2] at ht hc ⊢
          refine .frz c1 c2 c3 ?_ ?_ hc fun ha => ?_
          · rcases hr with hr | ⟨x, h1, h2, h3⟩
            · exact .inl hr
            · exact .inr ⟨x, h1, h2, fun j hj => hi.1 _ _ _ (h3 j hj)⟩
          · cases tk <;> cases kp <;> first | exact trivial | exact ht
          · have := hn ha
            subst this
            exact List.eq_nil_of_length_eq_zero b2
    | agg cs =>
      simp only [snap] at e
      cases h1 : mapK (snap kp h.blk n) cs with
      | none => rw [h1] at e; cases e
      | some z =>
        obtain ⟨ys, k⟩ := z
        rw [h1] at e; simp only [Option.some.injEq, Prod.mk.injEq] at e
        obtain ⟨rfl, rfl⟩ := e
        obtain ⟨b1, b2, b3, _, b5⟩ := mapK_ok (fun d d' ks => ih kp d d' ks) cs ys k h1
        refine ⟨b1, b2, fun _ => rfl, fun h => (by cases h), fun v hv S' hi => ?_⟩
        cases hv with
        | agg hc hs => exact .agg (b3 hc) (b5 _ hs S' hi)
    | tup cs =>
      simp only [snap] at e
      cases h1 : mapK (snap kp h.blk n) cs with
      | none => rw [h1] at e; cases e
      | some z =>
        obtain ⟨ys, k⟩ := z
        rw [h1] at e; simp only [Option.some.injEq, Prod.mk.injEq] at e
        obtain ⟨rfl, rfl⟩ := e
        obtain ⟨b1, _, _, _, b5⟩ := mapK_ok (fun d d' ks => ih kp d d' ks) cs ys k h1
        refine ⟨b1, rfl, fun h => (by cases h), fun h => (by cases h), fun v hv S' hi => ?_⟩
        cases hv with
        | tup hs => exact .tup (b5 _ hs S' hi)
    | fn f cs =>
      simp only [snap] at e
      cases h1 : mapK (snap kp h.blk n) cs with
      | none => rw [h1] at e; cases e
      | some z =>
        obtain ⟨ys, k⟩ := z
        rw [h1] at e; simp only [Option.some.injEq, Prod.mk.injEq] at e
        obtain ⟨rfl, rfl⟩ := e
        obtain ⟨b1, _, _, _, b5⟩ := mapK_ok (fun d d' ks => ih kp d d' ks) cs ys k h1
        refine ⟨b1, rfl, fun _ => rfl, fun _ => rfl, fun v hv S' hi => ?_⟩
        cases hv with
        | fn hs => exact .fn (b5 _ hs S' hi)
    | sl b esz off len ex =>
      simp only [snap] at e
      cases hb : (h.blk b).row with
      | none => rw [hb] at e; cases e
      | some z0 =>
        obtain ⟨e0, xs⟩ := z0
        rw [hb] at e; simp only at e
        split at e
        · rename_i hcond
          obtain ⟨rfl, hlen⟩ := hcond
          cases h1 : mapK (snap false h.blk n) ((xs.drop off).take len) with
          | none => rw [h1] at e; cases e
          | some z =>
            obtain ⟨ys, k⟩ := z
            rw [h1] at e; simp only [Option.some.injEq, Prod.mk.injEq] at e
            obtain ⟨rfl, rfl⟩ := e
            have hbody : (h.blk b).row.isSome = true := by rw [hb]; rfl
            obtain ⟨hx, hc, hlie⟩ := r.row hb
            have hx' : ∀ x ∈ (xs.drop off).take len, x.cells.length = e0 := fun x hm => hx x (List.mem_of_mem_drop (List.mem_of_mem_take hm))
            have hc' : ∀ c ∈ ((xs.drop off).take len).flatMap D.cells, c.scalar = true := fun c hm => by
              obtain ⟨x, hxm, hcx⟩ := mem_flat hm
              exact hc c (List.mem_flatMap.2 ⟨x, List.mem_of_mem_drop (List.mem_of_mem_take hxm), hcx⟩)
            obtain ⟨b1, b2, _⟩ := mapK_ok (fun d d' ks => ih false d d' ks) _ ys k h1
            have hyl : ys.length = len := by rw [b2]; simp; omega
            refine ⟨fun j hj => ?_, rfl, fun _ => rfl, fun _ => rfl, fun v hv S' hi => ?_⟩
            · rcases List.mem_cons.1 hj with rfl | hj
              · exact hbody
              · exact b1 j hj
            · have hi' : IncI S h w S' k := ⟨hi.1, fun j hj => hi.2 j (List.mem_cons_of_mem _ hj)⟩
              cases hv with
              | slv a =>
                have : ys = [] := List.eq_nil_of_length_eq_zero hyl
                subst this
                exact .frz (esz := e0) (vs := []) (a := a) (cap := 0) (by simp) (by simp) .nil (.inl rfl) (by cases kp <;> cases ex <;> first | exact rfl | exact trivial) (Nat.le_refl _) (fun _ => rfl)
              | sl hr he hl hex hn =>
                rename_i cap r0
                rcases hlie with ⟨hxe, hφ⟩ | ⟨r1, vs, h3, h4, h7, h8, h9⟩
                · rw [hr] at hφ; cases hφ
                · rw [hr] at h3; cases h3
                  have hvs : VRs S (((xs.drop off).take len).flatMap D.cells) ((vs.drop (off * e0)).take (len * e0)) := by
                    rw [flat_take (fun x hm => hx x (List.mem_of_mem_drop hm)), flat_drop hx]
                    exact (h7.drop _).take _
                  obtain ⟨c1, c2, c3⟩ := mapK_row (fun d d' ks => ih false d d' ks) h1 hx' hc' hvs (S' := S'.pure) hi'.pure
                  rw [← hyl] at hl
                  have := VR.frz (S := S') (xs := ys) (tk := if (kp && ex) = true then Tok.exact else Tok.unk) (a := some ⟨r0.rb, off * e0, none⟩) (cap := cap) c1 c2 c3 (.inr ⟨_, rfl, rfl, fun j hj => ?_⟩) ?_ hl (fun h => by cases h)
                  · rw [hyl] at this; exact this
                  · have hjl : j < (vs.drop (off * e0)).length := by
                      have := hj; rw [List.length_take] at this; omega
                    have hjv : off * e0 + j < vs.length := by rw [List.length_drop] at hjl; omega
                    have hval : ((vs.drop (off * e0)).take (len * e0))[j] = vs[off * e0 + j] := by simp
                    rw [hval]
                    rcases h9 with h9 | h9
                    · exact hi.2 b (List.mem_cons_self ..) r0.rb (.inl ⟨h9, r0, hr, rfl⟩) _ _ (h8 _ hjv)
                    · have := hi.1 _ _ _ (h9 _ hjv); simpa using this
                  · cases kp <;> cases ex <;> first | exact trivial | (rw [hyl]; exact hex rfl)
        · cases e
    | ptr b i o =>
      cases i with
      | succ i => simp [snap] at e
      | zero =>
        cases o with
        | succ o => simp [snap] at e
        | zero =>
          simp only [snap] at e
          cases hb : (h.blk b).row with
          | none => rw [hb] at e; cases e
          | some z0 =>
            obtain ⟨e0, xs⟩ := z0
            rw [hb] at e
            match xs, hb, e with
            | [x], hb, e =>
              simp only at e
              cases h1 : snap false h.blk n x with
              | none => rw [h1] at e; cases e
              | some z =>
                obtain ⟨y, k⟩ := z
                rw [h1] at e; simp only [Option.some.injEq, Prod.mk.injEq] at e
                obtain ⟨rfl, rfl⟩ := e
                have hbody : (h.blk b).row.isSome = true := by rw [hb]; rfl
                obtain ⟨hx, hc, hlie⟩ := r.row hb
                obtain ⟨a1, a2, a3, _, a5⟩ := ih false x y k h1
                refine ⟨fun j hj => ?_, rfl, fun _ => rfl, fun _ => rfl, fun v hv S' hi => ?_⟩
                · rcases List.mem_cons.1 hj with rfl | hj
                  · exact hbody
                  · exact a1 j hj
                · have hi' : IncI S h w S' k := ⟨hi.1, fun j hj => hi.2 j (List.mem_cons_of_mem _ hj)⟩
                  cases hv with
                  | ptr _ _ hr =>
                    rename_i r0
                    rcases hlie with ⟨hxe, hφ⟩ | ⟨r1, vs, h3, h4, h7, h8, h9⟩
                    · cases hxe
                    · rw [hr] at h3; cases h3
                      simp only [List.flatMap_cons, List.flatMap_nil, List.append_nil] at h7 hc
                      obtain ⟨v', hv', rfl⟩ := VR.of_cells h7 hc
                      have hy := a5 v' hv' S'.pure hi'.pure
                      have hyo := a3 (okc_of_scalars hc)
                      rw [Nat.zero_mul, Nat.zero_add]
                      refine .iref (hy.scalars hyo) hy.cells fun j hj => ?_
                      rcases h9 with h9 | h9
                      · have := hi.2 b (List.mem_cons_self ..) r0.rb (.inl ⟨h9, r0, hr, rfl⟩) _ _ (h8 j hj)
                        rw [Nat.zero_add]; exact this
                      · exact hi.1 _ _ _ (h9 j hj)
            | [], hb, e => simp at e
            | x :: y :: l, hb, e => simp at e
    | yld l => simp [snap] at e
    | mp b => simp [snap] at e
theorem mask_eq {ks : List Nat} {blk : Nat → Blk} {b : Nat} {k : Blk} (h : mask ks blk b = k) (hk : k ≠ .none) : b ∈ ks ∧ blk b = k := by
  unfold mask at h
  split at h
  · rename_i hb; exact ⟨hb, h⟩
  · exact absurd h.symm hk
theorem own_mask {S : Sim} {h : H} {ks : List Nat} {i rb : Nat} (ho : Own S ⟨h.next, mask ks h.blk⟩ i rb) : i ∈ ks ∧ Own S h i rb := by
  by_cases hi : i ∈ ks
  · refine ⟨hi, ?_⟩
    have : mask ks h.blk i = h.blk i := by simp [mask, hi]
    simpa only [Own, this] using ho
  · exfalso
    have : mask ks h.blk i = .none := by simp [mask, hi]
    rcases ho with ⟨hb, _⟩ | ⟨hk, _⟩
    · simp only [this] at hb; cases hb
    · simp only [this] at hk; cases hk
theorem HR.mask {S : Sim} {h : H} {w : World} (r : HR S h w) (ks : List Nat) : HR S ⟨h.next, mask ks h.blk⟩ w where
  imm := r.imm
  live b e xs hb := r.live b e xs (mask_eq hb (by simp)).2
  map b es hb := r.map b es (mask_eq hb (by simp)).2
  loop b l hb := r.loop b l (mask_eq hb (by simp)).2
  tok t ht := r.tok t (mask_eq ht (by simp)).2
  disI b r' hb hr o := by
    have : (h.blk b).body = true := by
      simp only [Go.Eng.mask] at hb
      split at hb
      · exact hb
      · cases hb
    exact r.disI b r' this hr o
  inj i j rb hi hj := r.inj i j rb (own_mask hi).2 (own_mask hj).2
  fresh := r.fresh
  fix b e xs hb := r.fix b e xs (mask_eq hb (by simp)).2
theorem fixed_of {S : Sim} {h : H} {w : World} (r : HR S h w) {ks : List Nat} {k e : Nat} {ys : List D} (hk : k ∈ ks) (hf : fixOf h.blk ks k = .fix e ys) : Fixed (S.fz h w ks) k e ys := by
  unfold fixOf at hf
  split at hf
  case h_2 => cases hf
  rename_i e0 xs hrow
  split at hf
  case h_2 => cases hf
  rename_i ys0 k0 hm
  injection hf with hf1 hf2
  subst hf1 hf2
  have rm := r.mask ks
  obtain ⟨hx, hc, hlie⟩ := r.row hrow
  have hle := r.fz_le ks
  rcases hlie with ⟨rfl, hφ⟩ | ⟨r0, vs, h3, h4, h7, h8, h9⟩
  · simp [mapK] at hm
    obtain ⟨rfl, _⟩ := hm
    exact ⟨by simp, by simp, .inl ⟨rfl, hφ⟩⟩
  · obtain ⟨b1, _⟩ := mapK_ok (S := S) (h := ⟨h.next, Go.Eng.mask ks h.blk⟩) (w := w) (fun d d' ks' e' => snap_ok rm snapDepth false d d' ks' e') _ _ _ hm
    have hinc : IncI S ⟨h.next, Go.Eng.mask ks h.blk⟩ w (S.fz h w ks).pure k0 := ⟨hle.I, fun q hq rb ho o x hx' => by
      have hb := own_body (b1 q hq) ho
      obtain ⟨hqk, ho'⟩ := own_mask ho
      have hbq : (h.blk q).body = true := by
        simp only [Go.Eng.mask, if_pos hqk] at hb; exact hb
      show (S.fz h w ks).I rb o = some x
      simp only [Sim.fz]
      rw [if_pos ⟨q, hqk, hbq, ho'⟩]
      exact hx'⟩
    obtain ⟨c1, c2, c3⟩ := mapK_row (fun d d' ks' e' => snap_ok rm snapDepth false d d' ks' e') hm hx hc h7 hinc
    refine ⟨c1, c2, .inr ⟨r0, vs, h3, h4, c3, fun j hj => ?_⟩⟩
    rcases h9 with h9 | h9
    · simp only [Sim.fz]
      rw [if_pos ⟨k, hk, h9, .inl ⟨h9, r0, h3, rfl⟩⟩, Nat.zero_add]
      exact h8 j hj
    · exact hle.I _ _ _ (h9 j hj)
theorem HR.kill {S : Sim} {h : H} {w : World} (r : HR S h w) (ks : List Nat) :
    HR (S.fz h w ks) ⟨h.next, upds h.blk (kills h.blk ks)⟩ w ∧ Ext S h w (S.fz h w ks) ⟨h.next, upds h.blk (kills h.blk ks)⟩ w :=
  r.killG ks fun k hk => by
    rcases fixOf_shape h.blk ks k with h1 | ⟨e, ys, h1⟩
    · exact .inl h1
    · exact .inr ⟨e, ys, h1, fixed_of r hk h1⟩
end Go.Eng
namespace Go.Eng
open Go
def Sim.none : Sim := ⟨fun _ => Option.none, fun _ => Option.none, fun _ _ => Option.none⟩
theorem Sim.none_le (S : Sim) : Sim.none.Le S := ⟨fun _ _ h => (by cases h), fun _ _ h => (by cases h), fun _ _ _ h => (by cases h)⟩
structure TOK (P : Program) (T : Tab) : Prop where
  und : ∀ t, T.ok t = true → P.underlying t = some (T.desc t)
  info : ∀ t, T.ok t = true → ∃ i z, P.info? t = some i ∧ i.size = T.size t ∧ i.bytes = T.bytes t ∧ i.zero = some z ∧ VR Sim.none (T.zero t) z
  zlen : ∀ t, T.ok t = true → (T.zero t).cells.length = T.size t
  zokc : ∀ t, T.ok t = true → (T.zero t).okc = true
  guard : ∀ t, T.ok t = true → P.eqGuardType P.depth t = false
  held : ∀ t, T.ok t = true → P.stoodInHeld t = false
  fields : ∀ t fs, T.ok t = true → T.desc t = .struct fs → ∀ f ∈ fs.toList, T.ok f.type = true
section
variable {P : Program} {T : Tab} (hT : TOK P T) {t : TypeId} (ht : T.ok t = true) (w : World)
include hT ht
theorem run_und : (underlying t).run P w = .ok (T.desc t) w := by simp [underlying, hT.und t ht]
theorem run_info : ∃ i z, (typeInfo t).run P w = .ok i w ∧ i.size = T.size t ∧ i.bytes = T.bytes t ∧ i.zero = some z ∧ VR Sim.none (T.zero t) z := by
  obtain ⟨i, z, h1, h2⟩ := hT.info t ht
  exact ⟨i, z, by simp [typeInfo, h1], h2⟩
theorem run_size : (sizeOf t).run P w = .ok (T.size t) w := by
  obtain ⟨i, z, h1, h2, _⟩ := run_info hT ht w
  simp [sizeOf, h1, h2]
theorem run_agg : (isAgg t).run P w = .ok (T.agg t) w := by
  simp only [isAgg, Sem.run_bind, run_und hT ht, Result.andThen_ok, Tab.agg]
  cases T.desc t <;> rfl
theorem run_zero : ∃ z, (zeroValue t).run P w = .ok z w ∧ VR Sim.none (T.zero t) z := by
  obtain ⟨i, z, h1, _, _, h4, h5⟩ := run_info hT ht w
  exact ⟨z, by simp [zeroValue, h1, h4], h5⟩
end
theorem VR.of_none {S : Sim} {d : D} {v : Value} (h : VR Sim.none d v) : VR S d v := h.mono (Sim.none_le S)
theorem add_none (b o n : Nat) : (⟨b, o, none⟩ : Addr).add n = ⟨b, o + n, none⟩ := by
  unfold Addr.add; split
  · rename_i h; subst h; rfl
  · rfl
theorem add_spot {x : Addr} (h : x.spot = none) (n : Nat) : x.add n = ⟨x.block, x.off + n, none⟩ := by
  cases x; simp at h; subst h; exact add_none _ _ _
theorem eq_of_spot {x : Addr} (h : x.spot = none) : x = ⟨x.block, x.off, none⟩ := by cases x; simp at h; subst h; rfl
theorem run_loadCellsFrom {P : Program} {w : World} {b o : Nat} : ∀ (n i : Nat) (acc : Array Value) (vs : List Value), vs.length = n →
    (∀ j (hj : j < vs.length), w.cell? ⟨b, o + i + j, none⟩ = some vs[j]) → (loadCellsFrom ⟨b, o, none⟩ i n acc).run P w = .ok (acc ++ vs.toArray) w
  | 0, i, acc, vs, hl, _ => by
    have : vs = [] := List.eq_nil_of_length_eq_zero hl
    subst this; simp [loadCellsFrom]
  | n + 1, i, acc, v :: vs, hl, h => by
    have h0 := h 0 (by simp)
    simp at h0
    simp only [loadCellsFrom, Sem.run_bind, run_load, add_none, h0, Result.andThen_ok]
    rw [run_loadCellsFrom n (i + 1) _ vs (by simpa using hl) (fun j hj => by
      have := h (j + 1) (by simpa using hj)
      simp at this
      rw [← this]; congr 2; omega)]
    congr 1; apply Array.ext'; simp
theorem run_loadCells {P : Program} {w : World} {b o n : Nat} {vs : List Value} (hl : vs.length = n) (h : ∀ j (hj : j < vs.length), w.cell? ⟨b, o + j, none⟩ = some vs[j]) :
    (loadCells ⟨b, o, none⟩ n).run P w = .ok vs.toArray w := by
  unfold loadCells
  rw [run_loadCellsFrom n 0 #[] vs hl (by simpa using h)]; simp
theorem run_loadVar {P : Program} {T : Tab} (hT : TOK P T) {S : Sim} {w : World} {t : TypeId} {cs : List D} {off : Nat} {d : D} {vs : List Value} {b base : Nat}
    (hp : partD T t cs off = some d) (hv : VRs S cs vs) (hc : ∀ c ∈ cs, c.scalar = true) (hm : ∀ j (hj : j < vs.length), w.cell? ⟨b, base + j, none⟩ = some vs[j]) :
    ∃ v, (loadVar t ⟨b, base + off, none⟩).run P w = .ok v w ∧ VR S d v := by
  unfold partD at hp
  split at hp
  · rename_i ht
    simp only [loadVar, Sem.run_bind, run_agg hT ht, Result.andThen_ok]
    cases ha : T.agg t with
    | true =>
      rw [ha] at hp
      simp only [if_true] at hp
      split at hp
      · rename_i hlen
        cases hp
        have hvl := hv.length
        simp only [if_true, Sem.run_bind, run_size hT ht, Result.andThen_ok]
        have hvs : ((vs.drop off).take (T.size t)).length = T.size t := by simp; omega
        rw [run_loadCells hvs (fun j hj => by
          have h1 : off + j < vs.length := by rw [hvs] at hj; omega
          have := hm (off + j) h1
          rw [show base + off + j = base + (off + j) by omega, this]
          simp)]
        refine ⟨_, rfl, .agg (fun c hcc => hc c (List.mem_of_mem_drop (List.mem_of_mem_take hcc))) (by simpa using (hv.drop off).take (T.size t))⟩
      · cases hp
    | false =>
      rw [ha] at hp
      simp only [Bool.false_eq_true, if_false] at hp
      obtain ⟨v, h1, h2⟩ := hv.get off hp
      have hlt : off < vs.length := by
        rcases Nat.lt_or_ge off vs.length with h | h
        · exact h
        · rw [List.getElem?_eq_none h] at h1; cases h1
      have := hm off hlt
      have hve : vs[off] = v := by simpa [List.getElem?_eq_getElem hlt] using h1
      simp only [Bool.false_eq_true, if_false, run_load, this, hve]
      exact ⟨v, rfl, h2⟩
  · cases hp
theorem heap_engCells_self {w : World} {b : Nat} {cs : Array Value} {ty : TypeId} (h : w.heap[b]? = some (.cells cs ty (0, 0))) : (w.engCells b cs ty).heap = w.heap := by
  have hlt := size_of_some h
  simp only [World.engCells]
  apply Array.ext
  · simp
  · intro i h1 h2
    rw [Array.getElem_setIfInBounds]
    split
    · rename_i e; subst e
      have : w.heap[b] = .cells cs ty (0, 0) := by simpa [Array.getElem?_eq_getElem hlt] using h
      rw [this]
    · rfl
theorem run_storeCells {P : Program} {b o : Nat} {ty : TypeId} : ∀ (vs : List Value) (i : Nat) (w : World) (cs : Array Value), w.heap[b]? = some (.cells cs ty (0, 0)) →
    (∀ v ∈ vs, v.oneCell' = true) → o + i + vs.length ≤ cs.size →
    ∃ w' cs', (storeCells ⟨b, o, none⟩ vs i).run P w = .ok () w' ∧ w'.heap = (w.engCells b cs' ty).heap ∧ cs'.toList = cs.toList.take (o + i) ++ vs ++ cs.toList.drop (o + i + vs.length) ∧ w'.os = w.os ∧ w'.output = w.output
  | [], i, w, cs, h, _, _ => by
    refine ⟨w, cs, by simp [storeCells], (heap_engCells_self h).symm, by simp, rfl, rfl⟩
  | v :: vs, i, w, cs, h, hv, hl => by
    simp only [List.length_cons] at hl
    have hlt := size_of_some h
    have hc : w.cell? ⟨b, o + i, none⟩ = some cs[o + i] := by
      simp only [World.cell?, h, Option.isSome_none, Bool.false_eq_true, if_false]
      rw [Array.getElem?_eq_getElem (by omega)]
    have hf : w.frozen? ⟨b, o + i, none⟩ = false := by simp [World.frozen?, h]
    have hset : (w.setCell ⟨b, o + i, none⟩ v).heap = (w.engCells b (cs.setIfInBounds (o + i) v) ty).heap := by
      simp only [World.setCell, World.engCells]
      apply Array.ext
      · simp
      · intro j h1 h2
        rw [Array.getElem_setIfInBounds, Array.getElem_modify]
        split
        · rename_i e; subst e
          have : w.heap[b] = .cells cs ty (0, 0) := by simpa [Array.getElem?_eq_getElem hlt] using h
          simp [this]
        · rfl
    have h' : (w.setCell ⟨b, o + i, none⟩ v).heap[b]? = some (.cells (cs.setIfInBounds (o + i) v) ty (0, 0)) := by
      rw [hset]; exact heap_engCells_same hlt
    obtain ⟨w', cs', r1, r2, r3, r4⟩ := run_storeCells (P := P) (b := b) (o := o) vs (i + 1) _ _ h' (fun u hu => hv u (List.mem_cons_of_mem _ hu)) (by simp; omega)
    refine ⟨w', cs', ?_, ?_, ?_, ?_⟩
    · simp only [storeCells, Sem.run_bind, add_none, run_store P w _ v .plain (hv v (List.mem_cons_self ..)), hc, hf, Bool.false_eq_true, if_false, Result.andThen_ok]
      exact r1
    · rw [r2]
      simp only [World.engCells, hset]
      apply Array.ext
      · simp
      · intro j h1 h2
        rw [Array.getElem_setIfInBounds, Array.getElem_setIfInBounds, Array.getElem_setIfInBounds]
        · split <;> rfl
        all_goals (simp at h2 ⊢; omega)
    · rw [r3]
      have e1 : (cs.setIfInBounds (o + i) v).toList = cs.toList.set (o + i) v := by simp
      rw [e1, show o + (i + 1) = o + i + 1 by omega, List.length_cons]
      have hlen : o + i < cs.toList.length := by simp; omega
      rw [List.take_set, List.drop_set_of_lt (by omega), show o + i + 1 + vs.length = o + i + (vs.length + 1) by omega]
      have : (cs.toList.take (o + i + 1)).set (o + i) v = cs.toList.take (o + i) ++ [v] := by
        have hm : min (o + i) cs.size = o + i := by simp at hlen; omega
        rw [List.take_succ_eq_append_getElem hlen, List.set_append_right _ _ (by simp; omega)]
        simp [hm]
      rw [this]; simp
    · exact r4
theorem isNil_spec {S : Sim} {x : D} {b : Bool} (h : isNilD x = some b) {a : Option Addr} {len cap : Nat} (hv : VR S x (.slice a len cap)) : a.isNone = b := by
  cases hv with
  | frz he hq hs hr htk hc hn =>
    simp only [isNilD] at h
    split at h
    · rename_i e; subst e; cases h; rw [htk.1]; rfl
    · split at h
      · cases h
      · cases h
        rename_i hne
        cases a with
        | none => rw [hn rfl] at hne; simp at hne
        | some x => rfl
  | sl hr he hl hx hn => simp only [isNilD] at h; split at h <;> cases h; rfl
  | slv a => simp [isNilD] at h
theorem run_part {P : Program} {T : Tab} (hT : TOK P T) {S : Sim} {t : TypeId} {cs : List D} {off : Nat} {d : D} {vs : Array Value} (w : World)
    (hp : partD T t cs off = some d) (hv : VRs S cs vs.toList) (hc : ∀ c ∈ cs, c.scalar = true) : ∃ v, (part t vs off).run P w = .ok v w ∧ VR S d v := by
  unfold partD at hp
  split at hp
  · rename_i ht
    simp only [part, Sem.run_bind, run_agg hT ht, Result.andThen_ok]
    cases ha : T.agg t with
    | true =>
      rw [ha] at hp
      simp only [if_true] at hp
      split at hp
      · cases hp
        simp only [if_true, Sem.run_bind, run_size hT ht, Result.andThen_ok]
        refine ⟨_, rfl, .agg (fun c hcc => hc c (List.mem_of_mem_drop (List.mem_of_mem_take hcc))) ?_⟩
        have : (vs.extract off (off + T.size t)).toList = (vs.toList.drop off).take (T.size t) := by simp [List.extract_eq_drop_take]
        rw [this]
        exact (hv.drop off).take _
      · cases hp
    | false =>
      rw [ha] at hp
      simp only [Bool.false_eq_true, if_false] at hp
      obtain ⟨v, h1, h2⟩ := hv.get off hp
      have : vs[off]? = some v := by rw [← Array.getElem?_toList]; exact h1
      simp only [Bool.false_eq_true, if_false, this]
      exact ⟨v, rfl, h2⟩
  · cases hp
theorem eqD_sound {P : Program} {T : Tab} (hT : TOK P T) {S : Sim} (w : World) : ∀ (d : Nat) (t : TypeId) (x y : D) (b : Bool) (vx vy : Value) (n : Nat), eqD T d t x y = some b → VR S x vx → VR S y vy → d ≤ n →
    (Op.equalIn n t vx vy).run P w = .ok b w := by
  intro d
  induction d with
  | zero => intro t x y b vx vy n h; simp [eqD] at h
  | succ d ih =>
    intro t x y b vx vy n h hx hy hn
    obtain ⟨n, rfl⟩ : ∃ m, n = m + 1 := ⟨n - 1, by omega⟩
    simp only [eqD] at h
    split at h
    case isFalse => cases h
    rename_i ht
    have hu := run_und hT ht w
    unfold Op.equalIn
    simp only [Sem.run_bind, hu, Result.andThen_ok]
    split at h
    · rename_i hd; cases hx; cases hy; rw [hd]; cases h; rfl
    · rename_i hd
      cases hx; cases hy; rw [hd]
      split at h
      · rename_i hk; cases h; simp [hk]
      · cases h
    · rename_i hd; cases hx; cases hy; rw [hd]; cases h; rfl
    · rename_i fs xs ys hd
      cases hx with
      | agg hcx hsx =>
      cases hy with
      | agg hcy hsy =>
      rename_i vx vy
      rw [hd]
      simp only [Sem.run_bind, run_program, Result.andThen_ok, hT.held t ht, Bool.false_eq_true, if_false]
      have key : ∀ (l : List Field), allD (fun f : Field => if f.name = "_" then none else
          match partD T f.type xs f.offset, partD T f.type ys f.offset with
          | some a, some b => eqD T d f.type a b
          | _, _ => none) l = some b →
          ∃ r : Option Bool × Unit, (forIn l ((none, ()) : Option Bool × Unit) (fun (f : Field) r => if f.name ≠ "_" then do
              if !(← Op.equalIn n f.type (← part f.type vx f.offset) (← part f.type vy f.offset)) then pure (ForInStep.done (some false, ())) else pure (ForInStep.yield (none, ())) else pure (ForInStep.yield (none, ())))).run P w = .ok r w ∧
            r.1 = if b then none else some false := by
        intro l
        induction l with
        | nil => intro h; simp [allD] at h; subst h; exact ⟨_, rfl, rfl⟩
        | cons f l ihl =>
          intro h
          simp only [allD] at h
          split at h
          · rename_i hf
            split at hf
            · cases hf
            · rename_i hnm
              split at hf
              · rename_i a c ha hc
                obtain ⟨va, e1, r1⟩ := run_part hT w ha hsx hcx
                obtain ⟨vc, e2, r2⟩ := run_part hT w hc hsy hcy
                have := ih f.type a c true va vc n hf r1 r2 (by omega)
                simp only [List.forIn_cons, Sem.run_bind, hnm, ne_eq, not_false_eq_true, if_true, e1, e2, this, Result.andThen_ok, Bool.not_true, Bool.false_eq_true, if_false, Sem.run_pure]
                exact ihl h
              · cases hf
          · rename_i hf
            cases h
            split at hf
            · cases hf
            · rename_i hnm
              split at hf
              · rename_i a c ha hc
                obtain ⟨va, e1, r1⟩ := run_part hT w ha hsx hcx
                obtain ⟨vc, e2, r2⟩ := run_part hT w hc hsy hcy
                have := ih f.type a c false va vc n hf r1 r2 (by omega)
                simp only [List.forIn_cons, Sem.run_bind, hnm, ne_eq, not_false_eq_true, if_true, e1, e2, this, Result.andThen_ok, Bool.not_false, Sem.run_pure]
                exact ⟨_, rfl, rfl⟩
              · cases hf
          · cases h
      obtain ⟨⟨r1, r2⟩, e1, e2⟩ := key fs.toList h
      simp only [Array.forIn_toList] at e1
      simp only at e2
      rw [e1, e2]
      cases b <;> rfl
    · rename_i len e xs ys hd
      cases hx with
      | agg hcx hsx =>
      cases hy with
      | agg hcy hsy =>
      rename_i vx vy
      rw [hd]
      split at h
      case isFalse => cases h
      rename_i he
      have key : ∀ (l : List Nat), allD (fun i => match partD T e xs (i * T.size e), partD T e ys (i * T.size e) with
          | some a, some b => eqD T d e a b
          | _, _ => none) l = some b →
          ∃ r : Option Bool × Unit, (forIn l ((none, ()) : Option Bool × Unit) (fun (i : Nat) r => do
              if !(← Op.equalIn n e (← part e vx (i * T.size e)) (← part e vy (i * T.size e))) then pure (ForInStep.done (some false, ())) else pure (ForInStep.yield (none, ())))).run P w = .ok r w ∧
            r.1 = if b then none else some false := by
        intro l
        induction l with
        | nil => intro h; simp [allD] at h; subst h; exact ⟨_, rfl, rfl⟩
        | cons f l ihl =>
          intro h
          simp only [allD] at h
          split at h
          · rename_i hf
            split at hf
            · rename_i a c ha hc
              obtain ⟨va, e1, r1⟩ := run_part hT w ha hsx hcx
              obtain ⟨vc, e2, r2⟩ := run_part hT w hc hsy hcy
              have := ih e a c true va vc n hf r1 r2 (by omega)
              simp only [List.forIn_cons, Sem.run_bind, e1, e2, this, Result.andThen_ok, Bool.not_true, Bool.false_eq_true, if_false, Sem.run_pure]
              exact ihl h
            · cases hf
          · rename_i hf
            cases h
            split at hf
            · rename_i a c ha hc
              obtain ⟨va, e1, r1⟩ := run_part hT w ha hsx hcx
              obtain ⟨vc, e2, r2⟩ := run_part hT w hc hsy hcy
              have := ih e a c false va vc n hf r1 r2 (by omega)
              simp only [List.forIn_cons, Sem.run_bind, e1, e2, this, Result.andThen_ok, Bool.not_false, if_true, Sem.run_pure]
              exact ⟨_, rfl, rfl⟩
            · cases hf
          · cases h
      obtain ⟨⟨r1, r2⟩, e1, e2⟩ := key (List.range len) h
      simp only at e2
      simp only [Sem.run_bind, run_size hT he, Result.andThen_ok, Std.Legacy.Range.forIn_eq_forIn_range', Std.Legacy.Range.size, Nat.sub_zero, Nat.add_sub_cancel, Nat.div_one, ← List.range_eq_range']
      rw [e1, e2]
      cases b <;> rfl
    · rw [‹T.desc t = TypeDesc.slice _›]
      cases hy with
      | frz he hq hs hr htk hc hn' =>
        obtain ⟨rfl, _, rfl⟩ := htk
        have hsl : ∃ a l c, vx = .slice a l c := by cases hx <;> first | exact ⟨_, _, _, rfl⟩ | (simp [isNilD] at h)
        obtain ⟨a, l, c, rfl⟩ := hsl
        have := isNil_spec h hx
        cases a <;> simp_all
    · rw [‹T.desc t = TypeDesc.slice _›]
      cases hx with
      | frz he hq hs hr htk hc hn' =>
        obtain ⟨rfl, _, rfl⟩ := htk
        have hsl : ∃ a l c, vy = .slice a l c := by cases hy <;> first | exact ⟨_, _, _, rfl⟩ | (simp [isNilD] at h)
        obtain ⟨a, l, c, rfl⟩ := hsl
        have := isNil_spec h hy
        cases a <;> simp_all
    · rename_i hd; cases hx; cases hy; rw [hd]; cases h; rfl
    · rename_i hd; cases hx; cases hy; rw [hd]; cases h; rfl
    · rename_i hd; cases hx; cases hy; rw [hd]; cases h; rfl
    · rename_i hd; cases hx; cases hy; rw [hd]; cases h; rfl
    · rename_i hd; cases hx; cases hy; rw [hd]; cases h; rfl
    · rename_i hd; cases hx; cases hy; rw [hd]; cases h; rfl
    · rename_i hd; cases hx; cases hy; rw [hd]; cases h; rfl
    · cases h
end Go.Eng
namespace Go.Eng
open Go
structure FR (N : Nat) (S : Sim) (A : Nat → D) (a : Act) : Prop where
  size : a.tmps.size = N
  val : ∀ t, VR S (A t) (a.tmps.getD t undef)
theorem FR.mono {N : Nat} {S S' : Sim} {A : Nat → D} {a : Act} (h : S.Le S') (f : FR N S A a) : FR N S' A a := ⟨f.size, fun t => (f.val t).mono h⟩
theorem VR.undef {S : Sim} : VR S D.undef undef := .tup .nil
theorem ofVal_sim {S : Sim} {v : Value} {d : D} (h : ofVal v = some d) : VR S d v := by
  unfold ofVal at h
  split at h <;> first | (cases h; constructor; done) | (cases h; done) | skip
  cases h
  exact .frz (esz := 0) (vs := []) (a := none) (cap := 0) (xs := []) (by simp) (by simp) .nil (.inl rfl) ⟨rfl, rfl, rfl⟩ (Nat.le_refl _) (fun _ => rfl)
theorem opd_sim {N : Nat} {S : Sim} {A : Nat → D} {a : Act} (f : FR N S A a) {x : Operand} {d : D} (h : opd A x = some d) : VR S d (a.eval x) := by
  cases x with
  | tmp t => cases h; exact f.val t
  | const v => exact ofVal_sim h
  | global g => cases h
  | func g => cases h; exact .fn .nil
theorem mapO_sim {N : Nat} {S : Sim} {A : Nat → D} {a : Act} (f : FR N S A a) : ∀ {xs : List Operand} {ds : List D}, mapO (opd A) xs = some ds → VRs S ds (xs.map a.eval)
  | [], ds, h => by cases h; exact .nil
  | x :: xs, ds, h => by
    simp only [mapO] at h
    split at h
    · rename_i y hy
      split at h
      · rename_i ys hys
        cases h
        exact .cons (opd_sim f hy) (mapO_sim f hys)
      · cases h
    · cases h
theorem mapO_length {α β : Type} {f : α → Option β} : ∀ {xs : List α} {ys : List β}, mapO f xs = some ys → ys.length = xs.length
  | [], ys, h => by cases h; rfl
  | x :: xs, ys, h => by
    simp only [mapO] at h
    split at h
    · split at h
      · rename_i hys; cases h; simp [mapO_length hys]
      · cases h
    · cases h
def OpSim (P : Program) (S : Sim) (h : H) (w : World) (s : Nat) (e : Eff) (m : Sem Next) : Prop :=
  ∃ nx w' S', m.run P w = .ok nx w' ∧ (∃ v, (nx = .value v ∨ (nx = .skip ∧ v = undef)) ∧ VR S' e.v v) ∧ Ext S h w S' ⟨h.next, upds h.blk e.wr⟩ w' ∧
    HR S' ⟨h.next, upds h.blk e.wr⟩ w' ∧ ∀ b, b ≠ s → S'.φ b = S.φ b ∧ S'.tk b = S.tk b
section
variable {P : Program} {T : Tab} {S : Sim} {h : H} {w : World} {s : Nat} {e : Eff}
theorem OpSim.pure {m : Sem Next} {v : Value} (hr : HR S h w) (hm : m.run P w = .ok (.value v) w) (hv : VR S e.v v) (hw : e.wr = []) : OpSim P S h w s e m :=
  ⟨_, w, S, hm, ⟨v, .inl rfl, hv⟩, by rw [hw]; exact Ext.refl S h w, by rw [hw]; exact hr, fun _ _ => ⟨rfl, rfl⟩⟩
theorem pick_sim {c : Bool} {x y : D} {vx vy : Value} (hx : VR S x vx) (hy : VR S y vy) : VR S (pickD c x y) (if c then vx else vy) := by
  unfold pickD
  split
  · cases hx; cases hy; cases c <;> exact .bool _
  · cases c
    · exact hy
    · exact hx
theorem sim_newLive (hr : HR S h w) (hφ : S.φ s = none) (hs : s < h.next) {esz : Nat} {xs : List D} {cs : Array Value} {ty : TypeId} {vs : List Value} {ex : D} {wr : List (Nat × Blk)} {rd : List Nat} {m : Sem Next} {v : Value}
    (hx : ∀ x ∈ xs, x.cells.length = esz) (hc : ∀ c ∈ xs.flatMap D.cells, c.scalar = true) (hv : VRs S (xs.flatMap D.cells) vs) (hp : vs <+: cs.toList)
    (hm : m.run P w = .ok (.value v) (w.alloc (.cells cs ty))) (hw : wr = [(s, .live esz xs)])
    (hval : ∀ S' : Sim, S'.φ s = some ⟨w.heap.size, esz, cs.size⟩ → VR S' ex v) : OpSim P S h w s { v := ex, wr := wr, rd := rd } m := by
  obtain ⟨h1, h2⟩ := hr.newLive (ty := ty) hφ hs hx hc hv hp
  subst hw
  refine ⟨_, _, _, hm, ⟨v, .inl rfl, hval _ (by simp [Sim.addφ])⟩, h2, h1, fun b hb => ⟨by simp [Sim.addφ, upd, hb], rfl⟩⟩
theorem sim_alloc (hT : TOK P T) (hr : HR S h w) (hφ : S.φ s = none) (hs : s < h.next) {t : TypeId} (ht : T.ok t = true) :
    OpSim P S h w s { v := .ptr s 0 0, wr := [(s, .live (T.size t) [T.zero t])] } (do pure (.value (← Instr.alloc t true (.tuple #[])))) := by
  obtain ⟨z, hz, hv⟩ := run_zero hT ht w
  have hv' : VR S (T.zero t) z := hv.of_none
  refine sim_newLive (cs := z.cells) (ty := t) (vs := z.cells.toList) (v := .pointer (some ⟨w.heap.size, 0, none⟩)) hr hφ hs ?_ ?_ ?_ ⟨[], by simp⟩ ?_ rfl ?_
  · intro x hx; simp at hx; subst hx; exact hT.zlen t ht
  · intro c hc; simp at hc; exact hv'.scalars (hT.zokc t ht) c hc
  · simpa using hv'.cells
  · simp [Instr.alloc, hz, newVar, newRow]
  · intro S' hS'
    simpa using VR.ptr (S := S') (b := s) 0 0 hS'
theorem sim_box (hr : HR S h w) (hφ : S.φ s = none) (hs : s < h.next) {t : TypeId} {d : D} {v : Value} (hv : VR S d v) (hl : d.cells.length = T.size t) (ho : d.okc = true) :
    OpSim P S h w s { v := .ptr s 0 0, wr := [(s, .live (T.size t) [d])] } (do pure (.value (← Instr.box t v))) := by
  refine sim_newLive (cs := v.cells) (ty := t) (vs := v.cells.toList) (v := .pointer (some ⟨w.heap.size, 0, none⟩)) hr hφ hs ?_ ?_ ?_ ⟨[], by simp⟩ ?_ rfl ?_
  · intro x hx; simp at hx; subst hx; exact hl
  · intro c hc; simp at hc; exact hv.scalars ho c hc
  · simpa using hv.cells
  · simp [Instr.box, newVar, newRow]
  · intro S' hS'
    simpa using VR.ptr (S := S') (b := s) 0 0 hS'
theorem sim_load (hT : TOK P T) (hr : HR S h w) {t : TypeId} {x : D} {vx : Value} (hx : VR S x vx) (he : loadD T h.blk t x = some e) :
    OpSim P S h w s e (do pure (.value (← Instr.loadAt t vx))) := by
  unfold loadD at he
  split at he
  · rename_i d
    cases hx with
    | iref hc hs hrd =>
      rename_i b off vs
      cases hp : partD T t d.cells 0 with
      | none => rw [hp] at he; cases he
      | some d' =>
        rw [hp] at he; cases he
        obtain ⟨v, e1, e2⟩ := run_loadVar hT (w := w) (b := b) (base := off) hp hs hc (fun j hj => hr.imm _ _ _ (hrd j hj))
        exact OpSim.pure hr (by simpa [Instr.loadAt, Instr.sureAddr] using congrArg (fun r => r.andThen fun a w' => (Result.ok (Next.value a) w')) e1) (e2.mono S.pure_le) rfl
  · rename_i b i o
    split at he
    · rename_i esz xs hb
      split at he
      · rename_i el hel
        cases hp : partD T t el.cells o with
        | none => rw [hp] at he; cases he
        | some d' =>
          rw [hp] at he; cases he
          cases hx with
          | ptr _ _ hφ =>
            rename_i r
            obtain ⟨hl, hc, hlie⟩ := hr.row hb
            rcases hlie with ⟨h1, h2⟩ | ⟨r1, vs, h3, h4, h7, h8, _⟩
            · rw [hφ] at h2; cases h2
            · rw [hφ] at h3; cases h3
              subst h4
              have hcell := flat_get hl hel
              have hv : VRs S el.cells ((vs.drop (i * r.esz)).take r.esz) := by rw [hcell]; exact (h7.drop _).take _
              have hcs : ∀ c ∈ el.cells, c.scalar = true := fun c hcc => hc c (List.mem_flatMap.2 ⟨el, List.mem_of_getElem? hel, hcc⟩)
              obtain ⟨v, e1, e2⟩ := run_loadVar hT (w := w) (b := r.rb) (base := i * r.esz) hp hv hcs (fun j hj => by
                have hj1 : j < (vs.drop (i * r.esz)).length := by rw [List.length_take] at hj; omega
                have hj2 : i * r.esz + j < vs.length := by rw [List.length_drop] at hj1; omega
                rw [h8 _ hj2]
                simp)
              exact OpSim.pure hr (by simpa [Instr.loadAt, Instr.sureAddr] using congrArg (fun r => r.andThen fun a w' => (Result.ok (Next.value a) w')) e1) e2 rfl
      · cases he
    · cases he
  · cases he
theorem setPart_sim {el v e' : D} {o : Nat} (h : setPart el v o = some e') : o + v.cells.length ≤ el.cells.length ∧ e'.cells = el.cells.take o ++ v.cells ++ el.cells.drop (o + v.cells.length) := by
  unfold setPart at h
  split at h
  · rename_i hc
    cases h
    obtain ⟨rfl, h2⟩ := hc
    refine ⟨by omega, ?_⟩
    simp [h2]
  · split at h
    · split at h
      · cases h; rename_i hl; exact ⟨hl, rfl⟩
      · cases h
    · cases h
theorem sim_store (hT : TOK P T) (hr : HR S h w) {t : TypeId} {x d : D} {vx v : Value} (hx : VR S x vx) (hd : VR S d v) (he : storeD T h.blk t x d = some e) :
    OpSim P S h w s e (do Instr.storeAt t vx v; pure .skip) := by
  unfold storeD at he
  split at he
  case h_2 => cases he
  rename_i b i o
  split at he
  case h_2 => cases he
  rename_i esz xs hb
  split at he
  case h_2 => cases he
  rename_i el hel
  split at he
  case isFalse => cases he
  rename_i hcond
  simp only [Bool.and_eq_true, beq_iff_eq] at hcond
  obtain ⟨⟨ht, hlen⟩, hok⟩ := hcond
  split at he
  case h_2 => cases he
  rename_i e' hset
  cases he
  obtain ⟨hle, hcells⟩ := setPart_sim hset
  cases hx with
  | ptr _ _ hφ =>
    rename_i r
    obtain ⟨hl, hc, hlie⟩ := hr.live b esz xs hb
    rcases hlie with ⟨h1, h2⟩ | ⟨r1, cs, ty, vs, h3, h4, h5, h6, h7, h8⟩
    · rw [hφ] at h2; cases h2
    · rw [hφ] at h3; cases h3
      subst h4
      have hi : i < xs.length := by
        rcases Nat.lt_or_ge i xs.length with h | h
        · exact h
        · rw [List.getElem?_eq_none h] at hel; cases hel
      have hell : el.cells.length = r.esz := hl el (List.mem_of_getElem? hel)
      have he'l : e'.cells.length = r.esz := by rw [hcells]; simp; omega
      have hvl := h7.length
      have hfl := flat_len hl
      have hdv := hd.cells.length
      have hdc := hd.scalars hok
      have hmul : (i + 1) * r.esz ≤ xs.length * r.esz := Nat.mul_le_mul_right _ hi
      rw [Nat.succ_mul] at hmul
      have hcsl : vs.length ≤ cs.toList.length := h8.length_le
      have hone : ∀ u ∈ v.cells.toList, u.oneCell' = true := fun u hu => by
        obtain ⟨j, hj, hju⟩ := List.getElem_of_mem hu
        have hjd : j < d.cells.length := by omega
        obtain ⟨u', hu1, hu2⟩ := hd.cells.get j (List.getElem?_eq_getElem hjd)
        rw [List.getElem?_eq_getElem hj, Option.some.injEq] at hu1
        rw [← hju, hu1]
        exact hu2.oneCell (hdc _ (List.getElem_mem hjd))
      obtain ⟨w', cs', r1, r2, r3, r4⟩ := run_storeCells (P := P) (b := r.rb) (o := i * r.esz + o) (ty := ty) v.cells.toList 0 w cs h5 hone (by
        have : cs.toList.length = cs.size := by simp
        omega)
      have hcsz : cs'.size = cs.size := by
        have := congrArg List.length r3
        simp at this
        have h9 : cs.toList.length = cs.size := by simp
        have h10 : v.cells.toList.length = v.cells.size := by simp
        omega
      have hvx : vs.length = xs.length * r.esz := by omega
      have hnewv : VRs S ((xs.set i e').flatMap D.cells) (vs.take (i * r.esz + o) ++ v.cells.toList ++ vs.drop (i * r.esz + o + d.cells.length)) := by
        rw [flat_set hl hi he'l, hcells, flat_get hl hel]
        have e1 : (List.take o (List.take r.esz (List.drop (i * r.esz) (xs.flatMap D.cells)))) = (List.drop (i * r.esz) (xs.flatMap D.cells)).take o := by
          rw [List.take_take, Nat.min_eq_left (by omega)]
        have e2 : List.take (i * r.esz) (xs.flatMap D.cells) ++ List.take o (List.drop (i * r.esz) (xs.flatMap D.cells)) = (xs.flatMap D.cells).take (i * r.esz + o) := by
          rw [List.take_add]
        have e3 : List.drop (o + d.cells.length) (List.take r.esz (List.drop (i * r.esz) (xs.flatMap D.cells))) ++ List.drop (i * r.esz + r.esz) (xs.flatMap D.cells) =
            (xs.flatMap D.cells).drop (i * r.esz + o + d.cells.length) := by
          rw [List.drop_take, List.drop_drop]
          have : List.drop (i * r.esz + r.esz) (xs.flatMap D.cells) = List.drop (r.esz - (o + d.cells.length)) (List.drop (i * r.esz + (o + d.cells.length)) (xs.flatMap D.cells)) := by
            rw [List.drop_drop]; congr 1; omega
          rw [this, List.take_append_drop]; congr 1; omega
        rw [e1]
        have : List.take (i * r.esz) (xs.flatMap D.cells) ++ (List.take o (List.drop (i * r.esz) (xs.flatMap D.cells)) ++ d.cells ++ List.drop (o + d.cells.length) (List.take r.esz (List.drop (i * r.esz) (xs.flatMap D.cells)))) ++ List.drop (i * r.esz + r.esz) (xs.flatMap D.cells)
            = (xs.flatMap D.cells).take (i * r.esz + o) ++ d.cells ++ (xs.flatMap D.cells).drop (i * r.esz + o + d.cells.length) := by
          rw [← e2, ← e3]; simp [List.append_assoc]
        rw [this]
        exact ((h7.take _).append hd.cells).append (h7.drop _)
      have hpre : (vs.take (i * r.esz + o) ++ v.cells.toList ++ vs.drop (i * r.esz + o + d.cells.length)) <+: cs'.toList := by
        obtain ⟨tl, htl⟩ := h8
        refine ⟨tl, ?_⟩
        rw [r3, ← htl, Nat.add_zero, List.take_append_of_le_length (by omega), List.drop_append_of_le_length (by simp at hdv ⊢; omega)]
        simp at hdv
        simp [hdv]
      have hxs' : ∀ z ∈ xs.set i e', z.cells.length = r.esz := fun z hz => by
        rcases List.mem_or_eq_of_mem_set hz with hz | rfl
        · exact hl z hz
        · exact he'l
      have hcs' : ∀ c ∈ (xs.set i e').flatMap D.cells, c.scalar = true := fun c hcm => by
        obtain ⟨z, hz, hcz⟩ := mem_flat hcm
        rcases List.mem_or_eq_of_mem_set hz with hz | rfl
        · exact hc c (List.mem_flatMap.2 ⟨z, hz, hcz⟩)
        · rw [hcells] at hcz
          have hel' : ∀ c ∈ el.cells, c.scalar = true := fun c hcc => hc c (List.mem_flatMap.2 ⟨el, List.mem_of_getElem? hel, hcc⟩)
          rcases List.mem_append.1 hcz with hcz | hcz
          · rcases List.mem_append.1 hcz with hcz | hcz
            · exact hel' c (List.mem_of_mem_take hcz)
            · exact hdc c hcz
          · exact hel' c (List.mem_of_mem_drop hcz)
      have hst := hr.setLive (s := b) (cs' := cs') (ty' := ty) hb hφ h5 rfl (hcsz.trans h6) (.inl rfl) hxs' hcs' hnewv hpre
      simp only [if_true] at hst
      refine ⟨.skip, w', S, ?_, ⟨undef, .inr ⟨rfl, rfl⟩, .undef⟩, hst.2.heap r2 r4, hst.1.heap r2, fun _ _ => ⟨rfl, rfl⟩⟩
      have hsz : v.cells.size = T.size t := by rw [← hlen, hdv]; simp
      simp only [Instr.storeAt, Instr.sureAddr, Sem.run_bind, Sem.run_pure, Result.andThen_ok, storeVar, run_size hT ht, hsz, ne_eq, not_true_eq_false, if_false, Sem.run_ite, r1]
end
end Go.Eng
namespace Go.Eng
open Go
theorem HR.newBody {S : Sim} {h : H} {w : World} (r : HR S h w) {s : Nat} {k : Blk} {o : Obj} (hφ : S.φ s = none) (hs : s < h.next) (hk : k.body = true) (hth : Thaw (some o))
    (hAt : ∀ S' : Sim, S.Le S' → S'.φ s = some ⟨w.heap.size, 0, 0⟩ → (∀ x, S'.I w.heap.size x = none) → At S' ⟨h.next, upd h.blk s k⟩ (w.alloc o) s) :
    HR (S.addφ s ⟨w.heap.size, 0, 0⟩) ⟨h.next, upd h.blk s k⟩ (w.alloc o) ∧ Ext S h w (S.addφ s ⟨w.heap.size, 0, 0⟩) ⟨h.next, upd h.blk s k⟩ (w.alloc o) := by
  have le : S.Le (S.addφ s ⟨w.heap.size, 0, 0⟩) := Sim.le_addφ hφ
  have hown : ∀ rb, Own (S.addφ s ⟨w.heap.size, 0, 0⟩) ⟨h.next, upd h.blk s k⟩ s rb → rb = w.heap.size := fun rb ho => by
    rcases ho with ⟨_, r', hr, rfl⟩ | ⟨hk', _⟩
    · simp [Sim.addφ] at hr; rw [← hr]
    · simp at hk'; rw [hk'] at hk; cases hk
  have hI : ∀ x, S.I w.heap.size x = none := fun x => by
    cases hI : S.I w.heap.size x with
    | none => rfl
    | some v => have := r.imm_lt hI; omega
  constructor
  · refine r.turn (· = s) le (fun i hi => ⟨by simp [upd, hi], by simp [Sim.addφ, upd, hi], rfl⟩) (fun i rb _ ho => heap_alloc_old (r.owned_lt ho))
      (fun b o v hv => by rw [cell_alloc_old (r.imm_lt hv)]; exact r.imm b o v hv) (fun b o v hv => .inl hv) ?_ ?_ ?_
    · rintro i rfl
      exact hAt _ le (by simp [Sim.addφ]) hI
    · rintro i rb rfl ho
      have := hown rb ho
      subst this
      exact ⟨fun j _ hj => Nat.lt_irrefl _ (r.owned_lt hj), fun j hj _ => hj.symm⟩
    · intro b hb
      have hn := r.fresh b hb
      have : b ≠ s := by simp at hb; omega
      exact ⟨by simp [Sim.addφ, upd, this]; exact hn.1, hn.2⟩
  · refine ⟨le, by simp, fun rb hlt _ => heap_alloc_old hlt, ?_, fun b o v hv => .inl hv, .alloc hth⟩
    rintro rb ⟨i, ho⟩
    by_cases hi : i = s
    · subst hi; exact .inr (by rw [hown rb ho]; exact Nat.le_refl _)
    · refine .inl ⟨i, ?_⟩
      simpa [Own, Sim.addφ, upd, hi] using ho
def _root_.Go.World.engObj (w : World) (b : Nat) (o : Obj) : World := { w with heap := w.heap.setIfInBounds b o }
theorem size_engObj (w : World) (b : Nat) (o : Obj) : (w.engObj b o).heap.size = w.heap.size := by simp [World.engObj]
theorem heap_engObj_ne {w : World} {rb b : Nat} {o : Obj} (h : b ≠ rb) : (w.engObj rb o).heap[b]? = w.heap[b]? := by
  simp only [World.engObj]
  rw [Array.getElem?_setIfInBounds_ne (Ne.symm h)]
theorem heap_engObj_same {w : World} {rb : Nat} {o : Obj} (h : rb < w.heap.size) : (w.engObj rb o).heap[rb]? = some o := by
  simp only [World.engObj]
  rw [Array.getElem?_setIfInBounds_self_of_lt h]
theorem HR.setBody {S : Sim} {h : H} {w : World} (r : HR S h w) {b : Nat} {k : Blk} {o : Obj} {x : RB} (hb : (h.blk b).body = true) (hφ : S.φ b = some x) (hlt : x.rb < w.heap.size) (hth : Thaw (some o)) (hth0 : Thaw w.heap[x.rb]?)
    (hAt : At S ⟨h.next, upd h.blk b k⟩ (w.engObj x.rb o) b) (hk : k ≠ .tok) :
    HR S ⟨h.next, upd h.blk b k⟩ (w.engObj x.rb o) ∧ Ext S h w S ⟨h.next, upd h.blk b k⟩ (w.engObj x.rb o) := by
  have hob : Own S h b x.rb := .inl ⟨hb, x, hφ, rfl⟩
  have hown : ∀ rb, Own S ⟨h.next, upd h.blk b k⟩ b rb → rb = x.rb := fun rb ho => by
    rcases ho with ⟨_, r', hr, rfl⟩ | ⟨hk', _⟩
    · rw [hφ] at hr; cases hr; rfl
    · simp at hk'; exact absurd hk' hk
  constructor
  · refine r.turn (· = b) (.refl S) (fun i hi => ⟨by simp [upd, hi], rfl, rfl⟩) (fun i rb hi ho => heap_engObj_ne fun e => hi (r.inj i b _ (e ▸ ho) hob)) ?_ (fun b o v hv => .inl hv) (fun i hi => hi ▸ hAt) ?_ r.fresh
    · intro b' o' v hv
      rw [cell_old (heap_engObj_ne fun e => by rw [e, r.disI b x hb hφ] at hv; cases hv)]
      exact r.imm b' o' v hv
    · rintro i rb rfl ho
      have := hown rb ho
      subst this
      exact ⟨fun j hj hoj => hj (r.inj j i _ hoj hob), fun j hj _ => hj.symm⟩
  · refine ⟨.refl S, by rw [size_engObj]; exact Nat.le_refl _, fun rb _ hno => heap_engObj_ne fun e => hno (e ▸ ⟨b, hob⟩), ?_, fun b o v hv => .inl hv, .put rfl ⟨rfl, rfl⟩ hth hth0⟩
    rintro rb ⟨i, ho⟩
    by_cases hi : i = b
    · subst hi; rw [hown rb ho]; exact .inl ⟨i, hob⟩
    · exact .inl ⟨i, (own_upd_ne hi).1 ho⟩
section
variable {P : Program} {T : Tab} {S : Sim} {h : H} {w : World} {s : Nat} {e : Eff}
theorem fieldOf_spec (hT : TOK P T) {t f : Nat} {fd : Field} (he : fieldOf T t f = some fd) (w : World) : ∃ fs : Array Field, (underlying t).run P w = .ok (.struct fs) w ∧ fs[f]? = some fd := by
  unfold fieldOf at he
  split at he
  · rename_i ht
    have hu := run_und hT ht w
    split at he
    · rename_i fs hd; rw [hd] at hu; exact ⟨fs, hu, he⟩
    · cases he
  · cases he
theorem partD_cells {t : TypeId} {cs : List D} {o : Nat} {d : D} (hp : partD T t cs o = some d) (hc : ∀ c ∈ cs, c.scalar = true) : ∃ n, d.cells = (cs.drop o).take n ∧ (n = 0 ∨ o + n ≤ cs.length) := by
  unfold partD at hp
  split at hp
  · split at hp
    · split at hp
      · rename_i hl; cases hp; exact ⟨T.size t, rfl, .inr hl⟩
      · cases hp
    · refine ⟨1, ?_, .inr ?_⟩
      · have hm := List.mem_of_getElem? hp
        have hs := hc d hm
        have hlt : o < cs.length := by
          rcases Nat.lt_or_ge o cs.length with h | h
          · exact h
          · rw [List.getElem?_eq_none h] at hp; cases hp
        have hd : cs[o] = d := by simpa [List.getElem?_eq_getElem hlt] using hp
        rw [List.drop_eq_getElem_cons hlt, hd]
        cases d <;> first | rfl | cases hs
      · rcases Nat.lt_or_ge o cs.length with h | h
        · exact h
        · rw [List.getElem?_eq_none h] at hp; cases hp
  · cases hp
theorem iref_part {t : TypeId} {v d : D} {b off o : Nat} (hv : VR S (.iref v) (.pointer (some ⟨b, off, none⟩))) (hp : partD T t v.cells o = some d) : VR S (.iref d) (.pointer (some ⟨b, off + o, none⟩)) := by
  cases hv with
  | iref hc hs hr =>
    rename_i vs
    obtain ⟨n, hn, hlen⟩ := partD_cells hp hc
    refine .iref (vs := (vs.drop o).take n) (fun c hcc => ?_) ?_ ?_
    · rw [hn] at hcc; exact hc c (List.mem_of_mem_drop (List.mem_of_mem_take hcc))
    · rw [hn]; exact (hs.drop o).take n
    · intro j hj
      have hj1 : j < (vs.drop o).length := by rw [List.length_take] at hj; omega
      have hj2 : o + j < vs.length := by rw [List.length_drop] at hj1; omega
      rw [show off + o + j = off + (o + j) by omega, hr (o + j) hj2]
      simp
theorem ptr_shape {d : D} {v : Value} (hv : VR S (.iref d) v) : ∃ b off, v = .pointer (some ⟨b, off, none⟩) := by
  cases hv; exact ⟨_, _, rfl⟩
theorem sim_fieldAddr (hT : TOK P T) (hr : HR S h w) {t f : Nat} {x : D} {vx : Value} (hx : VR S x vx) {fd : Field} (hf : fieldOf T t f = some fd) (hfo : T.ok fd.type = true) (hsz : T.size fd.type ≠ 0) {y : D}
    (he : (∃ b i o, x = .ptr b i o ∧ y = .ptr b i (o + fd.offset)) ∨ (∃ v d, x = .iref v ∧ partD T fd.type v.cells fd.offset = some d ∧ y = .iref d)) :
    OpSim P S h w s { v := y } (do pure (.value (← Instr.fieldAt t vx f))) := by
  obtain ⟨fs, hu, hfs⟩ := fieldOf_spec hT hf w
  have hz := run_size hT hfo w
  rcases he with ⟨b, i, o, rfl, rfl⟩ | ⟨v, d, rfl, hp, rfl⟩
  · cases hx with
    | ptr _ _ hφ =>
      rename_i r
      refine OpSim.pure hr ?_ (VR.ptr i (o + fd.offset) hφ) rfl
      simp [Instr.fieldAt, Instr.sureAddr, hu, hfs, fieldPlace, hz, hsz, add_none, Nat.add_assoc]
  · obtain ⟨b, off, rfl⟩ := ptr_shape hx
    refine OpSim.pure hr ?_ (iref_part hx hp) rfl
    simp [Instr.fieldAt, Instr.sureAddr, hu, hfs, fieldPlace, hz, hsz, add_none]
theorem sim_indexAddr (hT : TOK P T) (hr : HR S h w) {t : Nat} {x ix : D} {vx vi : Value} (hx : VR S x vx) (hi : VR S ix vi) {y : D} (he : indexAddrD T t x ix = some y) :
    OpSim P S h w s { v := y } (do pure (.value (← Instr.indexAt t vx vi))) := by
  unfold indexAddrD at he
  split at he
  case h_2 => cases he
  rename_i k n
  cases hi
  split at he
  case isFalse => cases he
  rename_i ht
  have hu := run_und hT ht w
  split at he
  · rename_i el hd
    rw [hd] at hu
    split at he
    case isFalse => cases he
    rename_i hel
    have hz := run_size hT hel w
    split at he
    · rename_i xs tk
      split at he
      case isFalse => cases he
      rename_i hb
      split at he
      case h_2 => cases he
      rename_i v hv
      split at he
      case isFalse => cases he
      rename_i hvl
      cases he
      cases hx with
      | frz hesz hsc hs hrd htk hcap hnil =>
        rename_i a cap esz vs
        have hee : esz = T.size el := by rw [← hesz v (List.mem_of_getElem? hv)]; exact hvl.1
        subst hee
        cases a with
        | none =>
          have := hnil rfl
          subst this
          simp at hb; omega
        | some ad =>
          rcases hrd with hrd | ⟨ad', e1, hspot, hrd⟩
          · have : v.cells = [] := by
              have hl := hs.length
              rw [flat_len hesz, hrd] at hl
              have : xs.length * T.size el = 0 := by simpa using hl
              rcases Nat.mul_eq_zero.1 this with h0 | h0
              · omega
              · exact absurd h0 hvl.2
            rw [this] at hvl; exact absurd hvl.1.symm hvl.2
          · cases e1
            refine OpSim.pure hr (v := .pointer (some ⟨ad.block, ad.off + n.toNat * T.size el, none⟩)) ?_ ?_ rfl
            · simp [Instr.indexAt, asIntOf, hu, hz, hb, add_spot hspot]
            · have hcell := flat_get hesz hv
              refine .iref (vs := (vs.drop (n.toNat * T.size el)).take (T.size el)) (fun c hcc => hsc c (List.mem_flatMap.2 ⟨v, List.mem_of_getElem? hv, hcc⟩)) (by rw [hcell]; exact (hs.drop _).take _) fun j hj => ?_
              have hj1 : j < (vs.drop (n.toNat * T.size el)).length := by rw [List.length_take] at hj; omega
              have hj2 : n.toNat * T.size el + j < vs.length := by rw [List.length_drop] at hj1; omega
              rw [Nat.add_assoc, hrd _ hj2]
              simp
    · rename_i b esz off len ex
      split at he
      case isFalse => cases he
      rename_i hb
      obtain ⟨hb1, hb2, rfl⟩ := hb
      cases he
      cases hx with
      | sl hφ hesz hl hex hn =>
        rename_i cap r
        refine OpSim.pure hr (v := .pointer (some ⟨r.rb, off * T.size el + n.toNat * T.size el, none⟩)) ?_ ?_ rfl
        · simp [Instr.indexAt, asIntOf, hu, hz, hb1, hb2, add_none]
        · have := VR.ptr (S := S) (off + n.toNat) 0 hφ
          rw [hesz, Nat.add_zero, Nat.add_mul] at this
          exact this
      | slv a => omega
    · cases he
  · rename_i len el hd
    rw [hd] at hu
    split at he
    case isFalse => cases he
    rename_i hel
    have hz := run_size hT hel w
    split at he
    case isFalse => cases he
    rename_i hb
    split at he
    · rename_i b i o
      cases he
      cases hx with
      | ptr _ _ hφ =>
        rename_i r
        refine OpSim.pure hr ?_ (VR.ptr i (o + n.toNat * T.size el) hφ) rfl
        simp [Instr.indexAt, asIntOf, Instr.sureAddr, hu, hz, hb, add_none, Nat.add_assoc]
    · rename_i v
      cases hp : partD T el v.cells (n.toNat * T.size el) with
      | none => rw [hp] at he; cases he
      | some d =>
        rw [hp] at he; cases he
        obtain ⟨b, off, rfl⟩ := ptr_shape hx
        refine OpSim.pure hr ?_ (iref_part hx hp) rfl
        simp [Instr.indexAt, asIntOf, Instr.sureAddr, hu, hz, hb, add_none]
    · cases he
  · cases he
end
end Go.Eng
namespace Go.Eng
open Go
theorem splice_list (off : Nat) : ∀ (l : List Value) (k : Nat) (cs : Array Value), off + k + l.length ≤ cs.size →
    ((l.zipIdx k).foldl (fun cs (p : Value × Nat) => cs.setIfInBounds (off + p.2) p.1) cs).toList = cs.toList.take (off + k) ++ l ++ cs.toList.drop (off + k + l.length)
  | [], k, cs, _ => by simp
  | v :: l, k, cs, h => by
    simp only [List.length_cons] at h
    simp only [List.zipIdx_cons, List.foldl_cons]
    rw [splice_list off l (k + 1) _ (by simp; omega)]
    have hlen : off + k < cs.toList.length := by simp; omega
    have e1 : (cs.setIfInBounds (off + k) v).toList = cs.toList.set (off + k) v := by simp
    rw [e1, show off + (k + 1) = off + k + 1 by omega, List.length_cons, List.take_set, List.drop_set_of_lt (by omega), show off + k + 1 + l.length = off + k + (l.length + 1) by omega]
    have : (cs.toList.take (off + k + 1)).set (off + k) v = cs.toList.take (off + k) ++ [v] := by
      have hm : min (off + k) cs.size = off + k := by simp at hlen; omega
      rw [List.take_succ_eq_append_getElem hlen, List.set_append_right _ _ (by simp; omega)]
      simp [hm]
    rw [this]; simp
theorem splice_cells (off : Nat) (v : Value) (cs : Array Value) (h : off + v.cells.size ≤ cs.size) :
    (v.cells.zipIdx.foldl (fun cs (p : Value × Nat) => cs.setIfInBounds (off + p.2) p.1) cs).toList = cs.toList.take off ++ v.cells.toList ++ cs.toList.drop (off + v.cells.size) := by
  have := splice_list off v.cells.toList 0 cs (by simpa using h)
  rw [← Array.foldl_toList, Array.toList_zipIdx]
  simpa using this
theorem fill_cons {place : Nat → Option (Nat × Nat)} {i off size : Nat} {v : Value} {rest : List (Nat × Value)} {cs : Array Value} (hp : place i = some (off, size)) (hs : v.cells.size = size) (hl : off + size ≤ cs.size) :
    Instr.fill place cs ((i, v) :: rest) = Instr.fill place (v.cells.zipIdx.foldl (fun cs (p : Value × Nat) => cs.setIfInBounds (off + p.2) p.1) cs) rest := by
  simp only [Instr.fill, hp, hs]
  rw [if_neg (by simp; omega)]
theorem fill_seq {size : Nat} : ∀ (vs : List Value) (k : Nat) (cs : Array Value), cs.size = (k + vs.length) * size → (∀ v ∈ vs, v.cells.size = size) →
    ∃ cs', Instr.fill (fun i => some (i * size, size)) cs ((List.range' k vs.length).zip vs) = some cs' ∧ cs'.toList = cs.toList.take (k * size) ++ vs.flatMap (fun v => v.cells.toList)
  | [], k, cs, h, _ => ⟨cs, by simp [Instr.fill], by simp at h; simp; rw [List.take_of_length_le (by simp [h])]⟩
  | v :: vs, k, cs, h, hv => by
    simp only [List.length_cons] at h
    have h1 : v.cells.size = size := hv v (List.mem_cons_self ..)
    have h2 : (k + (vs.length + 1)) * size = k * size + size + vs.length * size := by rw [Nat.add_mul, Nat.add_mul]; omega
    have h3 := splice_cells (k * size) v cs (by rw [h1]; omega)
    have hsz : (v.cells.zipIdx.foldl (fun cs (p : Value × Nat) => cs.setIfInBounds (k * size + p.2) p.1) cs).size = cs.size := by
      have := congrArg List.length h3
      rw [Array.length_toList] at this
      simp only [List.length_append, List.length_take, List.length_drop, Array.length_toList] at this
      omega
    obtain ⟨cs', e1, e2⟩ := fill_seq vs (k + 1) _ (by rw [hsz, h]; congr 1; omega) (fun u hu => hv u (List.mem_cons_of_mem _ hu))
    refine ⟨cs', ?_, ?_⟩
    · rw [List.length_cons, List.range'_succ, List.zip_cons_cons, fill_cons (off := k * size) (size := size) rfl h1 (by omega)]
      exact e1
    · rw [e2, h3, Nat.succ_mul, h1]
      have hk : k * size ≤ cs.size := by omega
      rw [List.take_append_of_le_length (by simp [h1]; omega)]
      have : (cs.toList.take (k * size) ++ v.cells.toList).take (k * size + size) = cs.toList.take (k * size) ++ v.cells.toList := List.take_of_length_le (by simp [h1]; omega)
      rw [this]; simp
theorem zip_fst_snd {α β : Type} : ∀ (l : List (α × β)), l = (l.map (·.1)).zip (l.map (·.2))
  | [] => rfl
  | (a, b) :: l => by simp [← zip_fst_snd l]
theorem fill_build {T : Tab} {S : Sim} {t : TypeId} {place : Nat → Option (Nat × Nat)} (hpl : ∀ i x, placeD T t i = some x → place i = some x) :
    ∀ (ps : List (Nat × D)) (vs : List (Nat × Value)) (cs ds : List D) (cells : Array Value), buildD T t ps cs = some ds → ps.map (·.1) = vs.map (·.1) → VRs S (ps.map (·.2)) (vs.map (·.2)) →
      VRs S cs cells.toList → (∀ c ∈ cs, c.scalar = true) → (∀ p ∈ ps, p.2.okc = true) →
      ∃ cells', Instr.fill place cells vs = some cells' ∧ VRs S ds cells'.toList ∧ ∀ c ∈ ds, c.scalar = true
  | [], vs, cs, ds, cells, hb, hf, _, hc, hs, _ => by
    cases vs with
    | nil => cases hb; exact ⟨cells, rfl, hc, hs⟩
    | cons v vs => simp at hf
  | (i, x) :: ps, vs, cs, ds, cells, hb, hf, hv, hc, hs, ho => by
    cases vs with
    | nil => simp at hf
    | cons p vs =>
      obtain ⟨j, u⟩ := p
      simp only [List.map_cons, List.cons.injEq] at hf
      obtain ⟨rfl, hf⟩ := hf
      simp only [List.map_cons] at hv
      cases hv with
      | cons h1 h2 =>
        simp only [buildD] at hb
        split at hb
        case h_2 => cases hb
        rename_i off sz hp
        split at hb
        case isFalse => cases hb
        rename_i hl
        have hxo : x.okc = true := ho (i, x) (List.mem_cons_self ..)
        have hul : u.cells.size = sz := by rw [← hl.1, h1.cells.length]; simp
        have hcl := hc.length
        have hle : off + sz ≤ cells.size := by simp at hcl; omega
        have hsp := splice_cells off u cells (by rw [hul]; exact hle)
        have hc' : VRs S (cs.take off ++ x.cells ++ cs.drop (off + sz)) ((u.cells.zipIdx.foldl (fun cs (p : Value × Nat) => cs.setIfInBounds (off + p.2) p.1) cells).toList) := by
          rw [hsp, hul]; exact ((hc.take _).append h1.cells).append (hc.drop _)
        obtain ⟨cells', e1, e2, e3⟩ := fill_build hpl ps vs _ ds _ hb hf h2 hc' (fun c hcc => by
          rcases List.mem_append.1 hcc with hcc | hcc
          · rcases List.mem_append.1 hcc with hcc | hcc
            · exact hs c (List.mem_of_mem_take hcc)
            · exact h1.scalars hxo c hcc
          · exact hs c (List.mem_of_mem_drop hcc)) (fun p hp => ho p (List.mem_cons_of_mem _ hp))
        exact ⟨cells', by rw [fill_cons (hpl i (off, sz) hp) hul hle]; exact e1, e2, e3⟩
section
variable {P : Program} {T : Tab} {S : Sim} {h : H} {w : World} {s : Nat} {e : Eff}
theorem elemOf_spec (hT : TOK P T) {t el : TypeId} (he : elemOf? T t = some el) (w : World) : (underlying t).run P w = .ok (.slice el) w ∧ T.ok el = true := by
  unfold elemOf? at he
  split at he
  · rename_i ht
    have hu := run_und hT ht w
    split at he
    · rename_i e' hd
      rw [hd] at hu
      split at he
      · rename_i hok; cases he; exact ⟨hu, hok⟩
      · cases he
    · cases he
  · cases he
theorem frz_newI {S' : Sim} {b : Nat} {xs : List D} {vs : List Value} {esz : Nat} (cap : Nat) (hx : ∀ x ∈ xs, x.cells.length = esz) (hc : ∀ c ∈ xs.flatMap D.cells, c.scalar = true)
    (hv : VRs S'.pure (xs.flatMap D.cells) vs) (hr : S'.rd b 0 vs) {tk : Tok} (htk : TokR S' (some ⟨b, 0, none⟩) xs.length cap esz tk) (hcap : xs.length ≤ cap) : VR S' (.frz xs tk) (.slice (some ⟨b, 0, none⟩) xs.length cap) :=
  .frz hx hc hv (.inr ⟨_, rfl, rfl, hr⟩) htk hcap (fun h => by cases h)
theorem mapO_parts {N : Nat} {A : Nat → D} {a : Act} (f : FR N S A a) : ∀ {ps : List (Nat × Operand)} {ds : List D}, mapO (fun p => opd A p.2) ps = some ds → VRs S ds (ps.map fun p => a.eval p.2)
  | [], ds, h => by cases h; exact .nil
  | x :: xs, ds, h => by
    simp only [mapO] at h
    split at h
    · rename_i y hy
      split at h
      · rename_i ys hys
        cases h
        exact .cons (opd_sim f hy) (mapO_parts f hys)
      · cases h
    · cases h
theorem VRs.cell_sizes : ∀ {ds : List D} {vs : List Value} {z : Nat}, VRs S ds vs → (∀ d ∈ ds, d.cells.length = z) → ∀ v ∈ vs, v.cells.size = z
  | [], _, z, h, _ => by cases h; simp
  | d :: ds, _, z, h, hz => by
    cases h with
    | cons h1 h2 =>
      intro v hv
      rcases List.mem_cons.1 hv with rfl | hv
      · have := h1.cells.length; rw [hz d (List.mem_cons_self ..)] at this; simpa using this.symm
      · exact VRs.cell_sizes h2 (fun d hd => hz d (List.mem_cons_of_mem _ hd)) v hv
theorem flat_scalars : ∀ {ds : List D} {vs : List Value}, VRs S ds vs → (∀ d ∈ ds, d.okc = true) → ∀ c ∈ ds.flatMap D.cells, c.scalar = true
  | [], _, h, _ => by simp
  | d :: ds, _, h, ho => by
    cases h with
    | cons h1 h2 =>
      intro c hc
      rw [List.flatMap_cons] at hc
      rcases List.mem_append.1 hc with hc | hc
      · exact h1.scalars (ho d (List.mem_cons_self ..)) c hc
      · exact flat_scalars h2 (fun d hd => ho d (List.mem_cons_of_mem _ hd)) c hc
theorem run_buildSlice (hT : TOK P T) {t el : TypeId} (he : elemOf? T t = some el) {len : Nat} {parts : Array (Nat × Value)} (hf : parts.toList.map (·.1) = List.range len) (hlen : len * T.size el ≤ 16777216)
    (hv : ∀ v ∈ parts.toList.map (·.2), v.cells.size = T.size el) :
    ∃ cs : Array Value, (Instr.buildSlice t len parts).run P w = .ok (.slice (some ⟨w.heap.size, 0, none⟩) len len) (w.alloc (.cells cs el)) ∧ cs.toList = (parts.toList.map (·.2)).flatMap (fun v => v.cells.toList) := by
  obtain ⟨hu, hok⟩ := elemOf_spec hT he w
  have hz := run_size hT hok w
  obtain ⟨z, hz1, hz2⟩ := run_zero hT hok w
  have hzc : z.cells.size = T.size el := by have := hz2.cells.length; rw [hT.zlen el hok] at this; simpa using this.symm
  have hpl : parts.toList.length = len := by have := congrArg List.length hf; simpa using this
  have h1 : ¬ (len * T.size el > 2 ^ 24) := by omega
  let zero : Array Value := if len * T.size el = 0 then #[] else z.cells
  have hseq := fill_seq (size := T.size el) (parts.toList.map (·.2)) 0 ((Array.range (len * T.size el)).map (zero[· % zero.size]!)) (by simp [← hpl]) hv
  obtain ⟨cs, e1, e2⟩ := hseq
  have hparts : (List.range' 0 (parts.toList.map (·.2)).length).zip (parts.toList.map (·.2)) = parts.toList := by
    conv => rhs; rw [zip_fst_snd parts.toList, hf]
    simp [hpl, List.range_eq_range']
  rw [hparts] at e1
  refine ⟨cs, ?_, by simpa using e2⟩
  simp only [Instr.buildSlice, Sem.run_bind, hu, Result.andThen_ok, hz, h1, if_false, Sem.run_pure]
  by_cases h0 : len * T.size el = 0
  · simp only [h0, if_true, Sem.run_pure, Result.andThen_ok]
    have : zero = #[] := by simp [zero, h0]
    rw [this, h0] at e1
    simp only [Sem.run_bind, Sem.run_pure, Result.andThen_ok]
    rw [e1]
    simp [newRow]
  · simp only [h0, if_false, hz1, Sem.run_bind, Sem.run_pure, Result.andThen_ok]
    have : zero = z.cells := by simp [zero, h0]
    rw [this] at e1
    rw [e1]
    simp [newRow]
theorem sim_buildSlice (hT : TOK P T) (hr : HR S h w) (hφ : S.φ s = none) (hs : s < h.next) {mu : TypeId → Bool} {N : Nat} {A : Nat → D} {a : Act} (f : FR N S A a) {t : TypeId} {len : Nat} {parts : Array (Nat × Operand)}
    (he : evalOp T mu s h.blk (opd A) (.buildSlice t len parts) = some e) :
    OpSim P S h w s e (do pure (.value (← Instr.buildSlice t len (parts.map fun p => (p.1, a.eval p.2))))) := by
  simp only [evalOp] at he
  split at he
  case h_1 => cases he
  rename_i el hel
  split at he
  case h_1 => cases he
  rename_i xs hxs
  split at he
  case isFalse => cases he
  rename_i hcond
  obtain ⟨hfst, hlen, hokc⟩ := hcond
  have hvs := mapO_parts f hxs
  have hokc' : ∀ d ∈ xs, d.okc = true := by simpa using hokc
  have hpl : xs.length = len := by
    have h1 := mapO_length hxs
    have h2 := congrArg List.length hfst
    simp at h1 h2; omega
  have e1 : (parts.map fun p => (p.1, a.eval p.2)).toList.map (·.1) = List.range len := by rw [← hfst]; simp [Function.comp_def]
  have e2 : (parts.map fun p => (p.1, a.eval p.2)).toList.map (·.2) = parts.toList.map fun p => a.eval p.2 := by simp [Function.comp_def]
  split at he
  · split at he
    case isFalse => cases he
    rename_i hsz
    cases he
    obtain ⟨cs, r1, r2⟩ := run_buildSlice (w := w) hT hel e1 hlen (by rw [e2]; exact VRs.cell_sizes hvs hsz)
    rw [e2] at r2
    refine sim_newLive (cs := cs) (ty := el) (vs := cs.toList) (v := .slice (some ⟨w.heap.size, 0, none⟩) len len) hr hφ hs hsz (flat_scalars hvs hokc') ?_ ⟨[], by simp⟩ ?_ rfl ?_
    · rw [r2]; exact flat_vals _ _ hvs
    · simp [r1]
    · intro S' hS'
      have hcl : cs.size = len * T.size el := by
        have h1 := (flat_vals _ _ hvs).length
        rw [flat_len hsz, ← r2, hpl] at h1
        simpa using h1.symm
      have := VR.sl (S := S') (esz := T.size el) (off := 0) (len := len) (cap := len) (ex := true) hS' rfl (Nat.le_refl _) (fun _ => rfl) (by simp [hcl])
      simpa using this
  · split at he
    case h_2 => cases he
    rename_i zs k hk
    split at he
    case isFalse => cases he
    rename_i hsz
    cases he
    obtain ⟨b1, b2, b3, b4, b5⟩ := mapK_ok (fun d d' ks hh => snap_ok hr snapDepth false d d' ks hh) xs zs k hk
    have hlz : ∀ x ∈ xs, x.cells.length = T.size el := fun x hx => by
      obtain ⟨i, hi, hix⟩ := List.getElem_of_mem hx
      have hi' : i < zs.length := by omega
      obtain ⟨d, hd, hdl⟩ := b4 i zs[i] (List.getElem?_eq_getElem hi')
      rw [List.getElem?_eq_getElem hi, Option.some.injEq] at hd
      rw [← hix, hd, ← hdl]
      exact hsz _ (List.getElem_mem hi')
    obtain ⟨cs, r1, r2⟩ := run_buildSlice (w := w) hT hel e1 hlen (by rw [e2]; exact VRs.cell_sizes hvs hlz)
    rw [e2] at r2
    obtain ⟨k1, k2⟩ := hr.kill k
    obtain ⟨n1, n2⟩ := k1.newI (vs := cs.toList) (cs := cs) (ty := el) ⟨[], by simp⟩
    refine ⟨_, _, _, by simp [r1]; rfl, ⟨_, .inl rfl, ?_⟩, k2.trans n2, n1, fun _ _ => ⟨rfl, rfl⟩⟩
    have hinc : IncI S h w ((S.fz h w k).addI w.heap.size 0 cs.toList).pure k := by
      have hle := hr.fz_le k
      have hle2 := n2.le
      refine ⟨fun b o x hx => hle2.I _ _ _ (hle.I _ _ _ hx), fun j hj rb ho o x hx => hle2.I _ _ _ ?_⟩
      simp only [Sim.fz]
      rw [if_pos ⟨j, hj, own_body (b1 j hj) ho, ho⟩]; exact hx
    obtain ⟨c1, c2, c3⟩ := mapK_row (fun d d' ks hh => snap_ok hr snapDepth false d d' ks hh) hk hlz (flat_scalars hvs hokc') (flat_vals _ _ hvs) hinc
    rw [← r2] at c3
    have hzl : zs.length = len := by omega
    have := frz_newI (S' := (S.fz h w k).addI w.heap.size 0 cs.toList) (b := w.heap.size) len c1 c2 c3 addI_rd (tk := .exact) hzl.symm (by omega)
    rw [hzl] at this
    exact this
theorem run_mapM {α β : Type} {g : α → Sem β} {q : α → β} : ∀ (l : List α), (∀ x ∈ l, (g x).run P w = .ok (q x) w) → (l.mapM g).run P w = .ok (l.map q) w
  | [], _ => by simp
  | x :: l, hg => by
    rw [List.mapM_cons]
    simp only [Sem.run_bind, hg x (List.mem_cons_self ..), Result.andThen_ok, run_mapM l (fun y hy => hg y (List.mem_cons_of_mem _ hy)), Sem.run_pure, List.map_cons]
theorem sim_build (hT : TOK P T) (hr : HR S h w) {N : Nat} {A : Nat → D} {a : Act} (f : FR N S A a) {t : TypeId} {parts : Array (Nat × Operand)} {mu : TypeId → Bool}
    (he : evalOp T mu s h.blk (opd A) (.build t parts) = some e) :
    OpSim P S h w s e (do pure (.value (← Instr.build t (parts.map fun p => (p.1, a.eval p.2))))) := by
  simp only [evalOp] at he
  split at he
  case isFalse => cases he
  rename_i ht
  split at he
  case h_2 => cases he
  rename_i ps hps
  split at he
  case isFalse => cases he
  rename_i hbl
  simp only [Bool.and_eq_true] at hbl
  obtain ⟨hbl, hokc0⟩ := hbl
  cases hb : buildD T t ps (T.zero t).cells with
  | none => rw [hb] at he; cases he
  | some ds =>
    rw [hb] at he; cases he
    have hu := run_und hT ht w
    obtain ⟨z, hz1, hz2⟩ := run_zero hT ht w
    have hz3 : VR S (T.zero t) z := hz2.of_none
    have hps' : ∀ {l : List (Nat × Operand)} {ps : List (Nat × D)}, mapO (fun p : Nat × Operand => (opd A p.2).map fun v => (p.1, v)) l = some ps → ps.map (·.1) = l.map (·.1) ∧ VRs S (ps.map (·.2)) (l.map fun p => a.eval p.2) := by
      intro l
      induction l with
      | nil => intro ps h; cases h; exact ⟨rfl, .nil⟩
      | cons x l ih =>
        intro ps h
        simp only [mapO] at h
        split at h
        · rename_i y hy
          split at h
          · rename_i ys hys
            cases h
            cases hox : opd A x.2 with
            | none => rw [hox] at hy; cases hy
            | some d =>
              rw [hox] at hy; cases hy
              obtain ⟨h1, h2⟩ := ih hys
              exact ⟨by simp [h1], .cons (opd_sim f hox) h2⟩
          · cases h
        · cases h
    obtain ⟨h1, h2⟩ := hps' hps
    have e1 : (parts.map fun p => (p.1, a.eval p.2)).toList.map (·.1) = parts.toList.map (·.1) := by simp [Function.comp_def]
    have e2 : (parts.map fun p => (p.1, a.eval p.2)).toList.map (·.2) = parts.toList.map fun p => a.eval p.2 := by simp [Function.comp_def]
    have hokc : ∀ p ∈ ps, p.2.okc = true := by simpa using hokc0
    cases hd : T.desc t with
    | struct fs =>
      rw [hd] at hu
      have hplaces : ∀ i x, placeD T t i = some x → (fs.map fun f => (f.offset, T.size f.type))[i]? = some x := fun i x hx => by
        unfold placeD at hx
        rw [hd] at hx
        simp only at hx
        split at hx
        · rename_i fd hfd
          split at hx
          · cases hx; simp [hfd]
          · cases hx
        · cases hx
      obtain ⟨cells', g1, g2, g3⟩ := fill_build (S := S) hplaces ps (parts.map fun p => (p.1, a.eval p.2)).toList _ ds z.cells hb (by rw [h1, e1]) (by rw [e2]; exact h2) hz3.cells (hz3.scalars (hT.zokc t ht)) hokc
      have hm : (fs.mapM fun (f : Field) => do pure (f.offset, ← sizeOf f.type)).run P w = .ok (fs.map fun (f : Field) => (f.offset, T.size f.type)) w := by
        rw [Array.mapM_eq_mapM_toList]
        simp only [Sem.run_map]
        rw [run_mapM (q := fun f : Field => (f.offset, T.size f.type)) fs.toList (fun x hx => by simp [run_size hT (hT.fields t fs ht hd x hx) w])]
        simp only [Result.andThen_ok]
        congr 1
        apply Array.ext'; simp
      refine OpSim.pure hr (v := .agg cells') ?_ (.agg g3 g2) rfl
      simp only [Instr.build, Sem.run_bind, hz1, Result.andThen_ok, hu, hm, g1, Sem.run_pure]
    | array n el =>
      rw [hd] at hu
      have hel : T.ok el = true := by simpa [buildable, hd] using hbl
      have hplaces : ∀ i x, placeD T t i = some x → (fun i => some (i * T.size el, T.size el)) i = some x := fun i x hx => by
        unfold placeD at hx
        rw [hd] at hx
        simp only [hel, if_true] at hx
        exact hx
      obtain ⟨cells', g1, g2, g3⟩ := fill_build (S := S) hplaces ps (parts.map fun p => (p.1, a.eval p.2)).toList _ ds z.cells hb (by rw [h1, e1]) (by rw [e2]; exact h2) hz3.cells (hz3.scalars (hT.zokc t ht)) hokc
      refine OpSim.pure hr (v := .agg cells') ?_ (.agg g3 g2) rfl
      simp only [Instr.build, Sem.run_bind, hz1, Result.andThen_ok, hu, run_size hT hel, g1, Sem.run_pure]
    | _ => simp [buildable, hd] at hbl
end
end Go.Eng
namespace Go.Eng
open Go
section
variable {P : Program} {T : Tab} {S : Sim} {h : H} {w : World} {s : Nat} {e : Eff}
theorem run_loadCells_zero {w : World} {a : Addr} : (loadCells a 0).run P w = .ok #[] w := by simp [loadCells, loadCellsFrom]
theorem elems_first (hr : HR S h w) {y : D} {vy : Value} {ys : List D} {rd : List Nat} (hy : VR S y vy) (he : elemsD h.blk y = some (ys, rd)) :
    ∃ a cap esz vs, vy = .slice a ys.length cap ∧ (∀ y ∈ ys, y.cells.length = esz) ∧ (∀ c ∈ ys.flatMap D.cells, c.scalar = true) ∧ VRs S (ys.flatMap D.cells) vs ∧
      ∀ (w' : World) (size : Nat), w'.heap = w.heap → (ys = [] ∨ size = esz) → (Builtin.firstCells size ys.length vy).run P w' = .ok vs.toArray w' := by
  unfold elemsD at he
  split at he
  · rename_i xs tk
    cases he
    cases hy with
    | frz hx hc hs hrd htk hcap hnil =>
      rename_i a cap esz vs
      refine ⟨a, cap, esz, vs, rfl, hx, hc, hs.mono S.pure_le, fun w' size hw hsz => ?_⟩
      have hl : vs.length = ys.length * size := by
        have h1 := hs.length
        rw [flat_len hx] at h1
        rcases hsz with h2 | h2
        · rw [h2] at h1 ⊢; simpa using h1.symm
        · rw [h2]; exact h1.symm
      cases a with
      | none =>
        have := hnil rfl
        subst this
        have : vs = [] := List.eq_nil_of_length_eq_zero (by simpa using hl)
        subst this
        simp [Builtin.firstCells]
      | some ad =>
        simp only [Builtin.firstCells]
        rcases hrd with h1 | ⟨x, e1, hspot, h1⟩
        · subst h1
          rw [show ys.length * size = 0 by simpa using hl.symm]
          exact run_loadCells_zero
        · cases e1
          rw [eq_of_spot hspot]
          exact run_loadCells hl (fun j hj => by rw [cell_heap hw]; exact hr.imm _ _ _ (h1 j hj))
  · rename_i b esz off len ex
    split at he
    case h_2 => cases he
    rename_i e0 xs hb
    split at he
    case isFalse => cases he
    rename_i hcond
    obtain ⟨rfl, hlen⟩ := hcond
    cases he
    obtain ⟨hx, hc, hlie⟩ := hr.row hb
    have hx' : ∀ x ∈ (xs.drop off).take len, x.cells.length = e0 := fun x hm => hx x (List.mem_of_mem_drop (List.mem_of_mem_take hm))
    have hc' : ∀ c ∈ ((xs.drop off).take len).flatMap D.cells, c.scalar = true := fun c hm => by
      obtain ⟨x, hxm, hcx⟩ := mem_flat hm
      exact hc c (List.mem_flatMap.2 ⟨x, List.mem_of_mem_drop (List.mem_of_mem_take hxm), hcx⟩)
    have hyl : ((xs.drop off).take len).length = len := by simp; omega
    cases hy with
    | slv a =>
      have : (xs.drop off).take 0 = [] := by simp
      rw [this] at hx' hc' ⊢
      refine ⟨a, 0, e0, [], rfl, hx', hc', .nil, fun w' size hw hsz => ?_⟩
      cases a with
      | none => simp [Builtin.firstCells]
      | some ad => simp [Builtin.firstCells, run_loadCells_zero]
    | sl hφ hesz hl hex hn =>
      rename_i cap r
      rcases hlie with ⟨h1, h2⟩ | ⟨r1, vs, h3, h4, h7, h8, _⟩
      · rw [hφ] at h2; cases h2
      · rw [hφ] at h3; cases h3
        have hvs : VRs S (((xs.drop off).take len).flatMap D.cells) ((vs.drop (off * e0)).take (len * e0)) := by
          rw [flat_take (fun x hm => hx x (List.mem_of_mem_drop hm)), flat_drop hx]
          exact (h7.drop _).take _
        have hl1 := hvs.length
        rw [flat_len hx', hyl] at hl1
        refine ⟨some ⟨r.rb, off * e0, none⟩, cap, e0, (vs.drop (off * e0)).take (len * e0), by rw [hyl], hx', hc', hvs, fun w' size hw hsz => ?_⟩
        rw [hyl]
        simp only [Builtin.firstCells]
        have hsz' : len * size = len * e0 := by
          rcases hsz with h9 | h9
          · have := congrArg List.length h9; rw [hyl] at this; simp at this; simp [this]
          · rw [h9]
        rw [hsz']
        exact run_loadCells hl1.symm (fun j hj => by
          have hj1 : j < (vs.drop (off * e0)).length := by rw [List.length_take] at hj; omega
          have hj2 : off * e0 + j < vs.length := by rw [List.length_drop] at hj1; omega
          rw [cell_heap hw, h8 _ hj2]
          simp)
  · cases he
theorem growBy_le (newLen : Nat) : ∀ (k c : Nat), 256 ≤ c → c ≤ 2 * newLen → Builtin.growBy newLen k c ≤ 2 * newLen
  | 0, c, _, h => h
  | k + 1, c, h1, h2 => by
    simp only [Builtin.growBy]
    split
    · exact h2
    · exact growBy_le newLen k _ (by omega) (by omega)
theorem nextslicecap_le {n c : Nat} (h : c < n) : Builtin.nextslicecap n c ≤ 2 * n := by
  unfold Builtin.nextslicecap
  split
  · omega
  · split
    · omega
    · exact growBy_le n 4 c (by omega) (by omega)
theorem zeroCells_size (z : Array Value) (n : Nat) : (Builtin.zeroCells z n).size = n * z.size := by simp [Builtin.zeroCells]
theorem run_append (hT : TOK P T) {t t' el el' ty : TypeId} (hel : elemOf? T t = some el) (ht' : T.ok t' = true) (hd' : T.desc t' = .slice el') {base : Option Addr} {sLen sCap n : Nat} {vy : Value} {ya : Option Addr} {ycap : Nat}
    (hvy : vy = .slice ya n ycap) {old new : List Value}
    (hnew : ∀ w' : World, w'.heap = w.heap → (Builtin.firstCells (T.size el) n vy).run P w' = .ok new.toArray w')
    (hold : ∀ w' : World, w'.heap = w.heap → (Builtin.firstCells (T.size el) sLen (.slice base sLen sCap)).run P w' = .ok old.toArray w')
    (hb : (sLen + n) * T.bytes el * 2 ≤ maxAppend) (hb0 : T.bytes el ≠ 0) :
    (sLen + n ≤ sCap → (Builtin.append_ #[t, t'] ty #[.slice base sLen sCap, vy]).run P w =
      match base with
      | none => .ok (.slice base (sLen + n) sCap) w
      | some a => ((storeCells (a.add (sLen * T.size el)) new).run P w).andThen fun _ w' => .ok (.slice base (sLen + n) sCap) w') ∧
    (¬ sLen + n ≤ sCap → ∃ newCap rest, sLen + n ≤ newCap ∧ rest.length = (newCap - (sLen + n)) * T.size el ∧ (Builtin.append_ #[t, t'] ty #[.slice base sLen sCap, vy]).run P w =
      .ok (.slice (some ⟨w.heap.size, 0, none⟩) (sLen + n) newCap) (w.drew.alloc (.cells (old ++ new ++ rest).toArray el))) := by
  obtain ⟨hu, hok⟩ := elemOf_spec hT hel w
  have hz := run_size hT hok w
  have hu' := run_und hT ht' w
  rw [hd'] at hu'
  obtain ⟨i, zv, hi1, hi2, hi3, hi4, hi5⟩ := run_info hT hok w
  have hlen : (Builtin.lenOf vy).run P w = .ok n w := by subst hvy; simp [Builtin.lenOf]
  constructor
  · intro hle
    simp only [Builtin.append_, List.getElem?_toArray, List.getElem?_cons_zero, List.getElem?_cons_succ, Sem.run_bind, hu, Result.andThen_ok, hz, hu', Sem.run_pure, Bool.false_eq_true, if_false, hlen]
    simp only [Bool.not_false, if_true, hle, Sem.run_bind, hnew w rfl, Result.andThen_ok]
    cases base with
    | none => rfl
    | some a => simp
  · intro hnle
    have hcap := nextslicecap_le (n := sLen + n) (c := sCap) (by omega)
    have hbb : ¬ (Builtin.nextslicecap (sLen + n) sCap * T.bytes el > 2 ^ 48) := by
      have := Nat.mul_le_mul_right (T.bytes el) hcap
      rw [show 2 * (sLen + n) * T.bytes el = (sLen + n) * T.bytes el * 2 by rw [Nat.mul_comm 2, Nat.mul_assoc, Nat.mul_comm 2, ← Nat.mul_assoc]] at this
      unfold maxAppend at hb
      omega
    have hbz : ¬ (((sLen + n : Nat) : Int) > IntKind.i64.max ∧ (False ∨ T.bytes el = 0)) := fun hh => by
      rcases hh.2 with h0 | h0
      · exact h0
      · exact hb0 h0
    let q : Question := .appendCap (sLen + n) sCap el
    have hq : sLen + n ≤ q.cut (w.tape w.drawn q) := by simp [q, Question.cut]
    refine ⟨q.cut (w.tape w.drawn q), (Builtin.zeroCells zv.cells (q.cut (w.tape w.drawn q) - (sLen + n))).toList, hq, ?_, ?_⟩
    · have hzc : zv.cells.size = T.size el := by have := hi5.cells.length; rw [hT.zlen el hok] at this; simpa using this.symm
      simp [zeroCells_size, hzc]
    · have hz2 : (typeInfo el).run P w.drew = .ok i w.drew := by
        have h1 := hT.info el hok
        obtain ⟨i', z', h2, _⟩ := h1
        have : (typeInfo el).run P w = .ok i' w := by simp [typeInfo, h2]
        rw [hi1] at this; cases this
        simp [typeInfo, h2]
      have hforced : q.forced = false := rfl
      simp only [Builtin.append_, List.getElem?_toArray, List.getElem?_cons_zero, List.getElem?_cons_succ, Sem.run_bind, hu, Result.andThen_ok, hz, hu', Sem.run_pure, Bool.false_eq_true, if_false, hlen, hnle, hi1, hi3, Sem.run_ite]
      rw [if_neg hbz, if_neg hbb]
      simp only [Sem.run_pure, Result.andThen_ok, run_choose, Question.forced, Bool.false_eq_true, if_false, World.drew_eq, hz2, run_askRoom, hold w.drew rfl, hnew w.drew rfl, Bool.not_false, if_true, zeroValue, Sem.run_bind, hi4, newRow, run_newObj, World.alloc_eq, World.size_drew]
      simp only [Result.ok.injEq, q, true_and]
      congr 2; apply Array.ext'; simp
theorem frz_first (hr : HR S h w) {xs : List D} {a : Option Addr} {cap esz : Nat} {vs : List Value} (hx : ∀ x ∈ xs, x.cells.length = esz) (hs : VRs S.pure (xs.flatMap D.cells) vs) (hrd : S.rdO a vs)
    (hnil : a = none → xs = []) (w' : World) (size : Nat) (hw : w'.heap = w.heap) (hsz : xs = [] ∨ size = esz) : (Builtin.firstCells size xs.length (.slice a xs.length cap)).run P w' = .ok vs.toArray w' := by
  have hl : vs.length = xs.length * size := by
    have h1 := hs.length
    rw [flat_len hx] at h1
    rcases hsz with h2 | h2
    · rw [h2] at h1 ⊢; simpa using h1.symm
    · rw [h2]; exact h1.symm
  cases a with
  | none =>
    have := hnil rfl
    subst this
    have : vs = [] := List.eq_nil_of_length_eq_zero (by simpa using hl)
    subst this
    simp [Builtin.firstCells]
  | some ad =>
    simp only [Builtin.firstCells]
    rcases hrd with h1 | ⟨x, e1, hspot, h1⟩
    · subst h1
      rw [show xs.length * size = 0 by simpa using hl.symm]
      exact run_loadCells_zero
    · cases e1
      rw [eq_of_spot hspot]
      exact run_loadCells hl (fun j hj => by rw [cell_heap hw]; exact hr.imm _ _ _ (h1 j hj))
theorem VR.frz_own {S' : Sim} {xs : List D} {a : Option Addr} {cap z : Nat} {vs : List Value} {t : Nat} (hx : ∀ x ∈ xs, x.cells.length = z) (hc : ∀ c ∈ xs.flatMap D.cells, c.scalar = true)
    (hs : VRs S'.pure (xs.flatMap D.cells) vs) (hrd : S'.rdO a vs) (hcap : xs.length ≤ cap) (hnil : a = none → xs = [])
    (ht : cap = 0 ∨ ∃ y, a = some y ∧ y.spot = none ∧ S'.tk t = some (y.block, y.off + xs.length * z, y.off + cap * z)) : VR S' (.frz xs (.own t z)) (.slice a xs.length cap) :=
  .frz hx hc hs hrd ⟨hcap, fun _ => rfl, ht⟩ hcap hnil
theorem rd_append {S' : Sim} {b off : Nat} {vs ws : List Value} (h1 : S'.rd b off vs) (h2 : S'.rd b (off + vs.length) ws) : S'.rd b off (vs ++ ws) := fun j hj => by
  by_cases h : j < vs.length
  · rw [List.getElem_append_left h]; exact h1 j h
  · have h3 : j - vs.length < ws.length := by simp at hj; omega
    rw [List.getElem_append_right (by omega)]
    have := h2 (j - vs.length) h3
    rw [show off + vs.length + (j - vs.length) = off + j by omega] at this
    exact this
theorem opSim_ofVal {m : Sem Value} {v : Value} {w' : World} {S' : Sim} {h' : H} (hm : m.run P w = .ok v w') (hv : VR S' e.v v) (hh : (⟨h.next, upds h.blk e.wr⟩ : H) = h') (hx : Ext S h w S' h' w') (hr : HR S' h' w')
    (hφ : ∀ b, b ≠ s → S'.φ b = S.φ b ∧ S'.tk b = S.tk b) : OpSim P S h w s e (do pure (Next.value (← m))) :=
  ⟨_, w', S', by simp only [Sem.run_bind, hm, Result.andThen_ok, Sem.run_pure], ⟨v, .inl rfl, hv⟩, by rw [hh]; exact hx, by rw [hh]; exact hr, hφ⟩
theorem sim_append_frz (hT : TOK P T) (hr : HR S h w) (htks : S.tk s = none) (hs : s < h.next) {t t' el el' ty : TypeId} {xs ys zs : List D} {tk : Tok} {y : D} {vx vy : Value} {rd k : List Nat}
    (hx : VR S (.frz xs tk) vx) (hy : VR S y vy) (hel : elemOf? T t = some el) (ht' : T.ok t' = true) (hd' : T.desc t' = .slice el') (hys : elemsD h.blk y = some (ys, rd))
    (hk : mapK (snap false h.blk snapDepth) ys = some (zs, k)) (hsz : ∀ z ∈ xs ++ zs, z.cells.length = T.size el) (hb : (xs.length + ys.length) * T.bytes el * 2 ≤ maxAppend) (hz0 : T.size el ≠ 0) (hb0 : T.bytes el ≠ 0)
    (he : (tk = .exact ∨ tk = .nil) ∧ e = { v := .frz (xs ++ zs) (.own s (T.size el)), wr := kills h.blk k ++ [(s, .tok)], rd := rd } ∨
      ∃ o, tk = .own o (T.size el) ∧ h.blk o = .tok ∧ e = { v := .frz (xs ++ zs) (.own s (T.size el)), wr := kills h.blk k ++ [(o, .dead), (s, .tok)], rd := o :: rd }) :
    OpSim P S h w s e (do pure (.value (← Builtin.append_ #[t, t'] ty #[vx, vy]))) := by
  obtain ⟨hu, hok⟩ := elemOf_spec hT hel w
  obtain ⟨ya, ycap, yesz, new, rfl, y1, y2, y3, y4⟩ := elems_first (P := P) hr hy hys
  obtain ⟨b1, b2, b3, b4, b5⟩ := mapK_ok (fun d d' ks hh => snap_ok hr snapDepth false d d' ks hh) ys zs k hk
  have hye : ys = [] ∨ T.size el = yesz := by
    cases ys with
    | nil => exact .inl rfl
    | cons q ys =>
      refine .inr ?_
      have hl : 0 < zs.length := by rw [b2]; simp
      obtain ⟨d, hd, hdl⟩ := b4 0 zs[0] (List.getElem?_eq_getElem hl)
      simp at hd; subst hd
      rw [← hsz _ (List.mem_append_right _ (List.getElem_mem hl)), hdl]
      exact y1 _ (List.mem_cons_self ..)
  cases hx with
  | frz hx hc hs0 hrd htk hcap hnil =>
    rename_i a cap esz old
    have hxe : xs = [] ∨ T.size el = esz := by
      cases xs with
      | nil => exact .inl rfl
      | cons q xs => exact .inr (by rw [← hsz q (by simp), hx q (List.mem_cons_self ..)])
    have hxl : old.length = xs.length * T.size el := by
      have h1 := hs0.length
      rw [flat_len (fun x hm => hsz x (List.mem_append_left _ hm))] at h1
      exact h1.symm
    have hyl : new.length = ys.length * T.size el := by
      have h1 := y3.length
      rw [flat_len y1] at h1
      rcases hye with h2 | h2
      · rw [h2] at h1 ⊢; simpa using h1.symm
      · rw [h2]; exact h1.symm
    obtain ⟨run1, run2⟩ := run_append (w := w) (ty := ty) hT hel ht' hd' (base := a) (sLen := xs.length) (sCap := cap) rfl (new := new) (old := old)
      (fun w' hw => y4 w' (T.size el) hw hye) (fun w' hw => frz_first hr hx hs0 hrd hnil w' (T.size el) hw hxe) hb hb0
    obtain ⟨k1, k2⟩ := hr.kill k
    have hle1 := hr.fz_le (w := w) k
    have hzs : ∀ S' : Sim, (S.fz h w k).Le S' → VRs S'.pure ((xs ++ zs).flatMap D.cells) (old ++ new) ∧ ∀ c ∈ (xs ++ zs).flatMap D.cells, c.scalar = true := fun S' hle => by
      have hinc : IncI S h w S'.pure k := ⟨fun b o x hx => hle.I _ _ _ (hle1.I _ _ _ hx), fun j hj rb ho o x hx => hle.I _ _ _ (by simp only [Sim.fz]; rw [if_pos ⟨j, hj, own_body (b1 j hj) ho, ho⟩]; exact hx)⟩
      obtain ⟨c1, c2, c3⟩ := mapK_row (fun d d' ks hh => snap_ok hr snapDepth false d d' ks hh) hk y1 y2 y3 hinc
      rw [List.flatMap_append]
      exact ⟨(hs0.mono (hle1.trans hle).pure).append c3, fun c hcm => (List.mem_append.1 hcm).elim (hc c) (c2 c)⟩
    have hzl : zs.length = ys.length := b2
    have hlen : (xs ++ zs).length = xs.length + ys.length := by simp [hzl]
    have htks1 : (S.fz h w k).tk s = none := htks
    have hso : ∀ o, h.blk o = .tok → o ∉ k := fun o ho hm => by have := b1 o hm; rw [ho] at this; simp at this
    by_cases hcase : xs.length + ys.length ≤ cap
    · have hrun := run1 hcase
      have idle : ∀ (wr0 : List (Nat × Blk)) (S1 : Sim) (h1 : H), HR S1 h1 w → Ext S h w S1 h1 w → S1 = S.fz h w k → h1 = ⟨h.next, upds h.blk wr0⟩ → ys.length = 0 → cap = xs.length →
          ∀ rd', OpSim P S h w s { v := .frz (xs ++ zs) (.own s (T.size el)), wr := wr0 ++ [(s, .tok)], rd := rd' } (do pure (.value (← Builtin.append_ #[t, t'] ty #[.slice a xs.length cap, .slice ya ys.length ycap]))) := by
        intro wr0 S1 h1 hr1 hx1 hS1 hh1 hy0 hc0 rd'
        have hnew0 : new = [] := List.eq_nil_of_length_eq_zero (by rw [hyl, hy0]; simp)
        have hz0' : zs = [] := List.eq_nil_of_length_eq_zero (by omega)
        have hrun' : (Builtin.append_ #[t, t'] ty #[.slice a xs.length cap, .slice ya ys.length ycap]).run P w = .ok (.slice a (xs ++ zs).length cap) w := by
          rw [hrun, hlen, hnew0]
          cases a with
          | none => rfl
          | some ad => simp [storeCells]
        obtain ⟨i1, i2⟩ := hr1.idleTok (s := s) (rb := (a.map (·.block)).getD 0) (lo := (a.map (·.off)).getD 0 + xs.length * T.size el) (by rw [hS1]; exact htks) (by rw [hh1]; exact hs)
        have hblk : (⟨h.next, upds h.blk (wr0 ++ [(s, .tok)])⟩ : H) = ⟨h1.next, upd h1.blk s .tok⟩ := by rw [hh1, upds_append]; rfl
        refine opSim_ofVal hrun' ?_ hblk (hx1.trans i2) i1 (fun b hb' => ⟨by rw [hS1]; rfl, (upd_ne _ _ _ _ hb').trans (by rw [hS1]; rfl)⟩)
        have hle2 : (S.fz h w k).Le (S1.addTk s ((a.map (·.block)).getD 0, (a.map (·.off)).getD 0 + xs.length * T.size el, (a.map (·.off)).getD 0 + xs.length * T.size el)) := hS1 ▸ i2.le
        obtain ⟨q1, q2⟩ := hzs _ hle2
        refine VR.frz_own hsz q2 q1 ?_ (by omega) (fun ha => by rw [hnil ha, hz0']; rfl) ?_
        · rw [hnew0, List.append_nil]; exact hrd.mono (hx1.le.trans i2.le)
        · cases xs with
          | nil => exact .inl (by rw [hc0]; rfl)
          | cons q xs =>
            rcases hrd with h2 | ⟨ad, rfl, hspot, _⟩
            · rw [h2] at hxl
              have : (xs.length + 1) * T.size el = 0 := by simpa using hxl.symm
              rcases Nat.mul_eq_zero.1 this with h3 | h3
              · omega
              · exact absurd h3 hz0
            · exact .inr ⟨ad, rfl, hspot, by simp [Sim.addTk, hz0', hc0]⟩
      rcases he with ⟨htk', rfl⟩ | ⟨o, rfl, ho, rfl⟩
      · have hce : cap = xs.length := by
          rcases htk' with rfl | rfl
          · exact htk
          · rw [htk.2.1, htk.2.2]
        exact idle (kills h.blk k) _ _ k1 k2 rfl rfl (by omega) hce rd
      · obtain ⟨t1, t2, t3⟩ := htk
        have ho1 : (⟨h.next, upds h.blk (kills h.blk k)⟩ : H).blk o = .tok := by
          show upds h.blk (kills h.blk k) o = .tok
          rw [upds_kills, if_neg (hso o ho)]; exact ho
        have hidle : ys.length = 0 → cap = xs.length → OpSim P S h w s { v := .frz (xs ++ zs) (.own s (T.size el)), wr := kills h.blk k ++ [(o, .dead), (s, .tok)], rd := o :: rd } (do pure (.value (← Builtin.append_ #[t, t'] ty #[.slice a xs.length cap, .slice ya ys.length ycap]))) := by
          intro h1 h2
          obtain ⟨d1, d2⟩ := k1.drop o
          have hblk : (⟨h.next, upd (upds h.blk (kills h.blk k)) o .dead⟩ : H) = ⟨h.next, upds h.blk (kills h.blk k ++ [(o, .dead)])⟩ := by rw [upds_append]; rfl
          have := idle (kills h.blk k ++ [(o, .dead)]) (S.fz h w k) ⟨h.next, upd (upds h.blk (kills h.blk k)) o .dead⟩ d1 (k2.trans d2) rfl hblk h1 h2 (o :: rd)
          rw [List.append_assoc] at this
          exact this
        rcases t3 with t3 | ⟨ad, rfl, hspot, t3⟩
        · exact hidle (by omega) (by omega)
        · by_cases hfull : cap = xs.length
          · exact hidle (by omega) hfull
          ·
            have hlt : ad.off + xs.length * T.size el < ad.off + cap * T.size el := by
              have : xs.length * T.size el < cap * T.size el := Nat.mul_lt_mul_of_pos_right (by omega) (Nat.pos_of_ne_zero hz0)
              omega
            obtain ⟨cs, ct, g1, g2, g3⟩ := k1.tok o ho1 _ _ _ t3 hlt
            have hmul : (xs.length + ys.length) * T.size el ≤ cap * T.size el := Nat.mul_le_mul_right _ hcase
            rw [Nat.add_mul] at hmul
            have hone : ∀ u ∈ new, u.oneCell' = true := fun u hu' => by
              obtain ⟨j, hj, hju⟩ := List.getElem_of_mem hu'
              have hjd : j < (ys.flatMap D.cells).length := by rw [y3.length]; exact hj
              obtain ⟨u', hu1, hu2⟩ := y3.get j (List.getElem?_eq_getElem hjd)
              rw [List.getElem?_eq_getElem hj, Option.some.injEq] at hu1
              rw [← hju, hu1]
              exact hu2.oneCell (y2 _ (List.getElem_mem hjd))
            obtain ⟨w', cs', r1, r2, r3, r4⟩ := run_storeCells (P := P) (b := ad.block) (o := ad.off + xs.length * T.size el) (ty := ct) new 0 w cs g1 hone (by omega)
            rw [Nat.add_zero] at r3
            have hcsz : cs'.size = cs.size := by
              have := congrArg List.length r3
              simp only [List.length_append, List.length_take, List.length_drop, Array.length_toList] at this
              omega
            obtain ⟨m1, m2⟩ := k1.tokGrow (s := s) (cs' := cs') (ty' := ct) (vs := new) ho1 t3 hlt g1 htks1 hs hcsz (by omega)
              (fun j hj => by
                rw [← Array.getElem?_toList, r3, List.append_assoc, List.getElem?_append_left (by simp; omega), List.getElem?_take_of_lt hj]
                simp)
              (fun j hj => by
                rw [← Array.getElem?_toList, r3, List.append_assoc, List.getElem?_append_right (by simp; omega), List.getElem?_append_left (by simp; omega)]
                congr 1; simp; omega)
            have hblk : (⟨h.next, upds h.blk (kills h.blk k ++ [(o, .dead), (s, .tok)])⟩ : H) = ⟨h.next, upd (upd (upds h.blk (kills h.blk k)) o .dead) s .tok⟩ := by rw [upds_append]; rfl
            have hrun' : (Builtin.append_ #[t, t'] ty #[.slice (some ad) xs.length cap, .slice ya ys.length ycap]).run P w = .ok (.slice (some ad) (xs ++ zs).length cap) w' := by
              rw [hrun, hlen]
              simp only [add_spot hspot, r1, Result.andThen_ok]
            refine opSim_ofVal hrun' ?_ hblk ((k2.trans m2).heap r2 r4) (m1.heap r2) (fun b hb' => ⟨rfl, (upd_ne _ _ _ _ hb').trans rfl⟩)
            obtain ⟨q1, q2⟩ := hzs _ m2.le
            refine VR.frz_own hsz q2 q1 (.inr ⟨ad, rfl, hspot, rd_append ?_ ?_⟩) (by omega) (fun hh => by cases hh) (.inr ⟨ad, rfl, hspot, ?_⟩)
            · rcases hrd with h2 | ⟨_, e1, _, h2⟩
              · rw [h2]; exact fun j hj => absurd hj (by simp)
              · cases e1
                exact (h2.mono hle1).mono m2.le
            · rw [hxl]; exact addI_rd
            · simp [Sim.addTk, hyl, hzl, Nat.add_mul, Nat.add_assoc]
    · obtain ⟨newCap, rest, c1, c2, c3⟩ := run2 hcase
      have hpre : (old ++ new) <+: (old ++ new ++ rest).toArray.toList := ⟨rest, by simp⟩
      have hcsz : (old ++ new ++ rest).toArray.size = newCap * T.size el := by
        simp only [List.size_toArray, List.length_append, hxl, hyl, c2, ← Nat.add_mul]
        congr 1; omega
      have grow : ∀ (wr0 : List (Nat × Blk)) (h1 : H) (rd' : List Nat), HR (S.fz h w k) h1 w → Ext S h w (S.fz h w k) h1 w → h1 = ⟨h.next, upds h.blk wr0⟩ →
          OpSim P S h w s { v := .frz (xs ++ zs) (.own s (T.size el)), wr := wr0 ++ [(s, .tok)], rd := rd' } (do pure (.value (← Builtin.append_ #[t, t'] ty #[.slice a xs.length cap, .slice ya ys.length ycap]))) := by
        intro wr0 h1 rd' hr1 hx1 hh1
        have hr1' : HR (S.fz h w k) h1 w.drew := HR.heap (w := w) (w' := w.drew) rfl hr1
        obtain ⟨n1, n2⟩ := hr1'.newTok (s := s) (vs := old ++ new) (cs := (old ++ new ++ rest).toArray) (ty := el) htks (by rw [hh1]; exact hs) hpre
        have hblk : (⟨h.next, upds h.blk (wr0 ++ [(s, .tok)])⟩ : H) = ⟨h1.next, upd h1.blk s .tok⟩ := by rw [hh1, upds_append]; rfl
        have hx1' : Ext S h w (S.fz h w k) h1 w.drew := Ext.heap (w' := w) (w'' := w.drew) rfl hx1
        refine opSim_ofVal (v := .slice (some ⟨w.heap.size, 0, none⟩) (xs ++ zs).length newCap) (by rw [c3, hlen]) ?_ hblk (hx1'.trans n2) n1 (fun b hb' => ⟨rfl, (upd_ne _ _ _ _ hb').trans rfl⟩)
        obtain ⟨q1, q2⟩ := hzs _ n2.le
        refine VR.frz_own hsz q2 q1 (.inr ⟨_, rfl, rfl, ?_⟩) (by omega) (fun hh => by cases hh) (.inr ⟨_, rfl, rfl, ?_⟩)
        · exact addI_rd (S := S.fz h w k) (b := w.heap.size) (lo := 0) (vs := old ++ new)
        · show upd _ s _ s = _
          rw [upd_same, hcsz]
          simp [hxl, hyl, hzl, Nat.add_mul]
      rcases he with ⟨_, rfl⟩ | ⟨o, rfl, ho, rfl⟩
      · exact grow (kills h.blk k) _ rd k1 k2 rfl
      · obtain ⟨d1, d2⟩ := k1.drop o
        have hblk : (⟨h.next, upd (upds h.blk (kills h.blk k)) o .dead⟩ : H) = ⟨h.next, upds h.blk (kills h.blk k ++ [(o, .dead)])⟩ := by rw [upds_append]; rfl
        have := grow (kills h.blk k ++ [(o, .dead)]) ⟨h.next, upd (upds h.blk (kills h.blk k)) o .dead⟩ (o :: rd) d1 (k2.trans d2) hblk
        rw [List.append_assoc] at this
        exact this
end
end Go.Eng
namespace Go.Eng
open Go
section
variable {P : Program} {T : Tab} {S : Sim} {h : H} {w : World} {s : Nat} {e : Eff}
theorem one_cells {xs : List D} {vs : List Value} (hv : VRs S xs vs) (hc : ∀ c ∈ xs, c.scalar = true) : ∀ u ∈ vs, u.oneCell' = true := fun u hu => by
  obtain ⟨j, hj, hju⟩ := List.getElem_of_mem hu
  have hjd : j < xs.length := by rw [hv.length]; exact hj
  obtain ⟨u', hu1, hu2⟩ := hv.get j (List.getElem?_eq_getElem hjd)
  rw [List.getElem?_eq_getElem hj, Option.some.injEq] at hu1
  rw [← hju, hu1]
  exact hu2.oneCell (hc _ (List.getElem_mem hjd))
theorem new_length {ys : List D} {new : List Value} {esz z : Nat} (y1 : ∀ y ∈ ys, y.cells.length = esz) (y3 : VRs S (ys.flatMap D.cells) new) (h : ys = [] ∨ z = esz) : new.length = ys.length * z := by
  have h1 := y3.length
  rw [flat_len y1] at h1
  rcases h with h2 | h2
  · rw [h2] at h1 ⊢; simpa using h1.symm
  · rw [h2]; exact h1.symm
theorem esz_of {ys : List D} {a b : Nat} (h1 : ∀ y ∈ ys, y.cells.length = a) (h2 : ∀ y ∈ ys, y.cells.length = b) : ys = [] ∨ a = b := by
  cases ys with
  | nil => exact .inl rfl
  | cons q ys => exact .inr (by rw [← h1 q (List.mem_cons_self ..), h2 q (List.mem_cons_self ..)])
theorem sim_append_mu (hT : TOK P T) (hr : HR S h w) (hφ : S.φ s = none) (hs : s < h.next) {t t' el el' ty : TypeId} {ys : List D} {tk : Tok} {y : D} {vx vy : Value} {rd : List Nat}
    (hx : VR S (.frz [] tk) vx) (htk : tk = .exact ∨ tk = .nil) (hy : VR S y vy) (hel : elemOf? T t = some el) (ht' : T.ok t' = true) (hd' : T.desc t' = .slice el') (hys : elemsD h.blk y = some (ys, rd))
    (hsz : ∀ z ∈ ys, z.cells.length = T.size el) (hb : ys.length * T.bytes el * 2 ≤ maxAppend) (hb0 : T.bytes el ≠ 0)
    (he : e = { v := .sl s (T.size el) 0 ys.length false, wr := [(s, .live (T.size el) ys)], rd := rd }) :
    OpSim P S h w s e (do pure (.value (← Builtin.append_ #[t, t'] ty #[vx, vy]))) := by
  subst he
  obtain ⟨hu, hok⟩ := elemOf_spec hT hel w
  obtain ⟨ya, ycap, yesz, new, rfl, y1, y2, y3, y4⟩ := elems_first (P := P) hr hy hys
  have hye := esz_of hsz y1
  have hyl := new_length y1 y3 hye
  cases hx with
  | frz hx hc hs0 hrd htkr hcap hnil =>
    rename_i a cap esz old
    have hcap0 : cap = 0 := by
      rcases htk with rfl | rfl
      · exact htkr
      · exact htkr.2.2
    subst hcap0
    have hold0 : old = [] := by cases hs0; rfl
    subst hold0
    have hf : ∀ w' : World, w'.heap = w.heap → (Builtin.firstCells (T.size el) 0 (.slice a 0 0)).run P w' = .ok ([] : List Value).toArray w' := fun w' _ => by
      cases a <;> simp [Builtin.firstCells, run_loadCells_zero]
    obtain ⟨run1, run2⟩ := run_append (w := w) (ty := ty) hT hel ht' hd' (base := a) (sLen := 0) (sCap := 0) rfl (new := new) (old := [])
      (fun w' hw => y4 w' (T.size el) hw hye) hf (by simpa using hb) hb0
    simp only [Nat.zero_add, Nat.le_zero_eq, List.length_nil] at run1 run2 ⊢
    by_cases h0 : ys.length = 0
    · have hn0 : new = [] := List.eq_nil_of_length_eq_zero (by rw [hyl, h0]; simp)
      have hy0 : ys = [] := List.eq_nil_of_length_eq_zero h0
      subst hy0 hn0
      obtain ⟨v1, v2⟩ := hr.voidLive (s := s) (esz := T.size el) hφ
      refine opSim_ofVal (v := .slice a 0 0) ?_ (.slv a) rfl v2 v1 (fun _ _ => ⟨rfl, rfl⟩)
      have := run1 rfl
      cases a with
      | none => simpa using this
      | some ad => simpa [storeCells] using this
    · obtain ⟨newCap, rest, c1, c2, c3⟩ := run2 h0
      have hr' : HR S h w.drew := HR.heap (w := w) (w' := w.drew) rfl hr
      have hcsz : (new ++ rest).toArray.size = newCap * T.size el := by
        simp only [List.size_toArray, List.length_append, hyl, c2, ← Nat.add_mul]
        congr 1; omega
      obtain ⟨n1, n2⟩ := hr'.newLive (ty := el) (cs := (new ++ rest).toArray) hφ hs hsz y2 y3 ⟨rest, by simp⟩
      refine opSim_ofVal (v := .slice (some ⟨w.heap.size, 0, none⟩) ys.length newCap) (by simpa using c3) ?_ rfl ((Ext.heap (w' := w) (w'' := w.drew) rfl (Ext.refl S h w)).trans n2) n1 (fun b hb' => ⟨upd_ne _ _ _ _ hb', rfl⟩)
      have := VR.sl (S := S.addφ s ⟨w.heap.size, T.size el, (new ++ rest).toArray.size⟩) (b := s) (esz := T.size el) (off := 0) (len := ys.length) (cap := newCap) (ex := false) (r := ⟨w.heap.size, T.size el, (new ++ rest).toArray.size⟩)
        (by simp [Sim.addφ]) rfl c1 (fun hh => by cases hh) (by rw [hcsz]; simp)
      simpa using this
theorem sim_append_sl (hT : TOK P T) (hr : HR S h w) (hφ : S.φ s = none) (hs : s < h.next) {t t' el el' ty : TypeId} {b esz len : Nat} {ex : Bool} {xs ys : List D} {y : D} {vx vy : Value} {rd : List Nat}
    (hx : VR S (.sl b esz 0 len ex) vx) (hy : VR S y vy) (hel : elemOf? T t = some el) (ht' : T.ok t' = true) (hd' : T.desc t' = .slice el') (hys : elemsD h.blk y = some (ys, rd)) (hblk : h.blk b = .live esz xs)
    (hesz : esz = T.size el) (hlen : len = xs.length) (hsz : ∀ z ∈ ys, z.cells.length = esz) (hb : (len + ys.length) * T.bytes el * 2 ≤ maxAppend) (hb0 : T.bytes el ≠ 0)
    (he : e = { v := .sl s esz 0 (len + ys.length) false, wr := [(b, .dead), (s, .live esz (xs ++ ys))], rd := b :: rd }) :
    OpSim P S h w s e (do pure (.value (← Builtin.append_ #[t, t'] ty #[vx, vy]))) := by
  subst he
  subst hesz
  obtain ⟨hu, hok⟩ := elemOf_spec hT hel w
  obtain ⟨ya, ycap, yesz, new, rfl, y1, y2, y3, y4⟩ := elems_first (P := P) hr hy hys
  have hye := esz_of hsz y1
  have hyl := new_length y1 y3 hye
  obtain ⟨hxl, hxc, hlie⟩ := hr.live b _ xs hblk
  have hsb : s ≠ b ∨ S.φ b = none := by
    by_cases hh : s = b
    · exact .inr (hh ▸ hφ)
    · exact .inl hh
  have hxys : ∀ x ∈ xs ++ ys, x.cells.length = T.size el := fun x hm => (List.mem_append.1 hm).elim (hxl x) (hsz x)
  have hcys : ∀ c ∈ (xs ++ ys).flatMap D.cells, c.scalar = true := fun c hm => by
    rw [List.flatMap_append] at hm
    exact (List.mem_append.1 hm).elim (hxc c) (y2 c)
  have grow : ∀ (a : Option Addr) (cap newCap : Nat) (old rest : List Value), VRs S (xs.flatMap D.cells) old → len + ys.length ≤ newCap → rest.length = (newCap - (len + ys.length)) * T.size el →
      (Builtin.append_ #[t, t'] ty #[.slice a len cap, .slice ya ys.length ycap]).run P w = .ok (.slice (some ⟨w.heap.size, 0, none⟩) (len + ys.length) newCap) (w.drew.alloc (.cells (old ++ new ++ rest).toArray el)) →
      OpSim P S h w s { v := .sl s (T.size el) 0 (len + ys.length) false, wr := [(b, .dead), (s, .live (T.size el) (xs ++ ys))], rd := b :: rd } (do pure (.value (← Builtin.append_ #[t, t'] ty #[.slice a len cap, .slice ya ys.length ycap]))) := by
    intro a cap newCap old rest hold c1 c2 c3
    obtain ⟨d1, d2⟩ := hr.drop b
    have d1' : HR S ⟨h.next, upd h.blk b .dead⟩ w.drew := HR.heap (w := w) (w' := w.drew) rfl d1
    have d2' : Ext S h w S ⟨h.next, upd h.blk b .dead⟩ w.drew := Ext.heap (w' := w) (w'' := w.drew) rfl d2
    have hol : old.length = len * T.size el := by
      have := hold.length; rw [flat_len hxl, ← hlen] at this; exact this.symm
    have hcsz : (old ++ new ++ rest).toArray.size = newCap * T.size el := by
      simp only [List.size_toArray, List.length_append, hol, hyl, c2, ← Nat.add_mul]
      congr 1; omega
    obtain ⟨n1, n2⟩ := d1'.newLive (s := s) (ty := el) (cs := (old ++ new ++ rest).toArray) (vs := old ++ new) hφ hs hxys hcys (by rw [List.flatMap_append]; exact hold.append y3) ⟨rest, by simp⟩
    refine opSim_ofVal c3 ?_ rfl (d2'.trans n2) n1 (fun b hb' => ⟨upd_ne _ _ _ _ hb', rfl⟩)
    have := VR.sl (S := S.addφ s ⟨w.heap.size, T.size el, (old ++ new ++ rest).toArray.size⟩) (b := s) (esz := T.size el) (off := 0) (len := len + ys.length) (cap := newCap) (ex := false) (r := ⟨w.heap.size, T.size el, (old ++ new ++ rest).toArray.size⟩)
      (by simp [Sim.addφ]) rfl c1 (fun hh => by cases hh) (by rw [hcsz]; simp)
    simpa using this
  cases hx with
  | slv a =>
    have hx0 : xs = [] := List.eq_nil_of_length_eq_zero hlen.symm
    subst hx0
    have hf : ∀ w' : World, w'.heap = w.heap → (Builtin.firstCells (T.size el) 0 (.slice a 0 0)).run P w' = .ok ([] : List Value).toArray w' := fun w' _ => by
      cases a <;> simp [Builtin.firstCells, run_loadCells_zero]
    obtain ⟨run1, run2⟩ := run_append (w := w) (ty := ty) hT hel ht' hd' (base := a) (sLen := 0) (sCap := 0) rfl (new := new) (old := [])
      (fun w' hw => y4 w' (T.size el) hw hye) hf hb hb0
    by_cases h0 : ys.length = 0
    · have hn0 : new = [] := List.eq_nil_of_length_eq_zero (by rw [hyl, h0]; simp)
      have hy0 : ys = [] := List.eq_nil_of_length_eq_zero h0
      subst hy0 hn0
      obtain ⟨d1, d2⟩ := hr.drop b
      obtain ⟨v1, v2⟩ := d1.voidLive (s := s) (esz := T.size el) hφ
      refine opSim_ofVal (v := .slice a 0 0) ?_ (.slv a) rfl (d2.trans v2) v1 (fun _ _ => ⟨rfl, rfl⟩)
      have := run1 (by simp)
      cases a with
      | none => simpa using this
      | some ad => simpa [storeCells] using this
    · obtain ⟨newCap, rest, c1, c2, c3⟩ := run2 (by omega)
      exact grow a 0 newCap [] rest .nil c1 c2 c3
  | sl hφb he0 hl hex hn =>
    rename_i cap r
    rcases hlie with ⟨h1, h2⟩ | ⟨r1, cs, cty, vs, h3, h4, h5, h6, h7, h8⟩
    · rw [hφb] at h2; cases h2
    · rw [hφb] at h3; cases h3
      have hvl : vs.length = len * T.size el := by have := h7.length; rw [flat_len hxl, ← hlen] at this; exact this.symm
      have hf : ∀ w' : World, w'.heap = w.heap → (Builtin.firstCells (T.size el) len (.slice (some ⟨r.rb, 0 * T.size el, none⟩) len cap)).run P w' = .ok vs.toArray w' := fun w' hw => by
        simp only [Builtin.firstCells]
        exact run_loadCells hvl (fun j hj => by
          rw [cell_heap hw]
          have := prefix_get h8 j hj
          simp only [World.cell?, h5, Option.isSome_none, Bool.false_eq_true, if_false]
          rw [Nat.zero_mul, Nat.zero_add, ← Array.getElem?_toList, this, List.getElem?_eq_getElem hj])
      obtain ⟨run1, run2⟩ := run_append (w := w) (ty := ty) hT hel ht' hd' (base := some ⟨r.rb, 0 * T.size el, none⟩) (sLen := len) (sCap := cap) rfl (new := new) (old := vs)
        (fun w' hw => y4 w' (T.size el) hw hye) hf hb hb0
      by_cases hcase : len + ys.length ≤ cap
      · have hsne : s ≠ b := hsb.resolve_right (by rw [hφb]; simp)
        have hmul : (len + ys.length) * T.size el ≤ cap * T.size el := Nat.mul_le_mul_right _ hcase
        rw [Nat.add_mul] at hmul
        rw [Nat.zero_add] at hn
        obtain ⟨w', cs', r1, r2, r3, r4⟩ := run_storeCells (P := P) (b := r.rb) (o := len * T.size el) (ty := cty) new 0 w cs h5 (one_cells y3 y2) (by omega)
        rw [Nat.add_zero] at r3
        have hcsz : cs'.size = cs.size := by
          have := congrArg List.length r3
          simp only [List.length_append, List.length_take, List.length_drop, Array.length_toList] at this
          omega
        have hpre : (vs ++ new) <+: cs'.toList := by
          obtain ⟨tl, htl⟩ := h8
          refine ⟨cs.toList.drop (len * T.size el + new.length), ?_⟩
          rw [r3, ← htl, List.take_append_of_le_length (by omega), List.take_of_length_le (by omega)]
        have hst := hr.setLive (s := s) (cs' := cs') (ty' := cty) hblk hφb h5 he0 (hcsz.trans h6) (.inr ⟨hφ, hs⟩) hxys hcys (by rw [List.flatMap_append]; exact h7.append y3) hpre
        simp only [if_neg hsne] at hst
        have hrun' : (Builtin.append_ #[t, t'] ty #[.slice (some ⟨r.rb, 0 * T.size el, none⟩) len cap, .slice ya ys.length ycap]).run P w = .ok (.slice (some ⟨r.rb, 0 * T.size el, none⟩) (len + ys.length) cap) w' := by
          rw [run1 hcase]
          simp only [add_none, Nat.zero_mul, Nat.zero_add, r1, Result.andThen_ok]
        refine opSim_ofVal hrun' ?_ rfl (hst.2.heap r2 r4) (hst.1.heap r2) (fun b hb' => ⟨upd_ne _ _ _ _ hb', rfl⟩)
        exact VR.sl (by simp [Sim.addφ]) he0 hcase (fun hh => by cases hh) (by rw [Nat.zero_add]; exact hn)
      · obtain ⟨newCap, rest, c1, c2, c3⟩ := run2 hcase
        exact grow _ cap newCap vs rest h7 c1 c2 c3
theorem elemsD_local {blk blk' : Nat → Blk} {x : D} {ys : List D} {rd : List Nat} (h : elemsD blk x = some (ys, rd)) (hb : ∀ b ∈ rd, blk' b = blk b) : elemsD blk' x = some (ys, rd) := by
  unfold elemsD at h ⊢
  split at h
  · exact h
  · rename_i b esz off len ex
    split at h
    · rename_i e xs hk
      split at h
      · rename_i hc
        cases h
        try simp only []
        rw [hb b (List.mem_cons_self ..), hk]
        try simp only []
        rw [if_pos hc]
      · cases h
    · cases h
  · cases h
theorem HR.shrink {S : Sim} {h : H} {w : World} (r : HR S h w) {b esz : Nat} {xs : List D} (hb : h.blk b = .live esz xs) (k : Nat) :
    HR S ⟨h.next, upd h.blk b (.live esz (xs.take k))⟩ w ∧ Ext S h w S ⟨h.next, upd h.blk b (.live esz (xs.take k))⟩ w := by
  have hown : ∀ i rb, Own S ⟨h.next, upd h.blk b (.live esz (xs.take k))⟩ i rb → Own S h i rb := fun i rb ho => by
    by_cases hi : i = b
    · subst hi
      rcases ho with ⟨_, h2⟩ | ⟨hk, _⟩
      · exact .inl ⟨by rw [hb]; rfl, h2⟩
      · simp at hk
    · simpa [Own, upd, hi] using ho
  constructor
  · refine r.turn (· = b) (.refl S) (fun i hi => ⟨by simp [upd, hi], rfl, rfl⟩) (fun _ _ _ _ => rfl) r.imm (fun _ _ _ hv => .inl hv) ?_ ?_ r.fresh
    · rintro i rfl
      refine ⟨fun e ys hk => ?_, fun es hk => by simp at hk, fun l hk => by simp at hk, fun hk => by simp at hk, fun r' _ hr' o => r.disI i r' (by rw [hb]; rfl) hr' o, fun _ _ hk => by simp at hk⟩
      simp at hk
      obtain ⟨rfl, rfl⟩ := hk
      obtain ⟨h1, h2, h3⟩ := r.live i _ _ hb
      refine ⟨fun x hx => h1 x (List.mem_of_mem_take hx), fun c hc => ?_, ?_⟩
      · obtain ⟨x, hx, hcx⟩ := mem_flat hc
        exact h2 c (List.mem_flatMap.2 ⟨x, List.mem_of_mem_take hx, hcx⟩)
      · rcases h3 with ⟨rfl, h4⟩ | ⟨r', cs, ty, vs, h4, h5, h6, h7, h8, h9⟩
        · exact .inl ⟨by simp, h4⟩
        · refine .inr ⟨r', cs, ty, vs.take (k * esz), h4, h5, h6, h7, ?_, (List.take_prefix _ _).trans h9⟩
          rw [flat_take h1]
          exact h8.take _
    · rintro i rb rfl ho
      have ho' := hown i rb ho
      exact ⟨fun j hj hjo => hj (r.inj j i rb hjo ho'), fun j hj _ => hj.symm⟩
  · exact ⟨.refl S, Nat.le_refl _, fun _ _ _ => rfl, fun rb ⟨i, ho⟩ => .inl ⟨i, hown i rb ho⟩, fun _ _ _ hv => .inl hv, .rfl'⟩
theorem sim_append (hT : TOK P T) (hr : HR S h w) (hφ : S.φ s = none) (htks : S.tk s = none) (hs : s < h.next) {t t' el' ty : TypeId} {x y : D} {vx vy : Value} {mu : Bool}
    (hx : VR S x vx) (hy : VR S y vy) (ht' : T.ok t' = true) (hd' : T.desc t' = .slice el') (he : appendD T mu s h.blk t x y = some e) :
    OpSim P S h w s e (do pure (.value (← Builtin.append_ #[t, t'] ty #[vx, vy]))) := by
  unfold appendD at he
  split at he
  case h_1 => cases he
  rename_i el hel
  split at he
  case h_1 => cases he
  rename_i ys rd hys
  split at he
  · rename_i xs tk
    split at he
    · split at he
      case isFalse => cases he
      rename_i hc
      obtain ⟨hx0, hsz, hb, _, hb0⟩ := hc
      have hx0' : xs = [] := by simpa using hx0
      subst hx0'
      split at he
      · cases he; exact sim_append_mu hT hr hφ hs hx (.inl rfl) hy hel ht' hd' hys hsz hb hb0 rfl
      · cases he; exact sim_append_mu hT hr hφ hs hx (.inr rfl) hy hel ht' hd' hys hsz hb hb0 rfl
      · cases he
    · split at he
      case h_1 => cases he
      rename_i zs k hk
      split at he
      case isFalse => cases he
      rename_i hc
      obtain ⟨hsz, hb, hz0, hb0⟩ := hc
      split at he
      · cases he; exact sim_append_frz hT hr htks hs hx hy hel ht' hd' hys hk hsz hb hz0 hb0 (.inl ⟨.inl rfl, rfl⟩)
      · cases he; exact sim_append_frz hT hr htks hs hx hy hel ht' hd' hys hk hsz hb hz0 hb0 (.inl ⟨.inr rfl, rfl⟩)
      · split at he
        case isFalse => cases he
        rename_i hz
        subst hz
        split at he
        · rename_i ho; cases he; exact sim_append_frz hT hr htks hs hx hy hel ht' hd' hys hk hsz hb hz0 hb0 (.inr ⟨_, rfl, ho, rfl⟩)
        · cases he
      · cases he
  · split at he
    case h_2 => cases he
    rename_i e' xs hblk
    split at he
    case isFalse => cases he
    rename_i hc
    obtain ⟨rfl, rfl, rfl, h4, h5, h6, _, h8, h9⟩ := hc
    cases he
    rename_i b len _ _ _
    obtain ⟨s1, s2⟩ := hr.shrink hblk len
    have hys' : elemsD (upd h.blk b (.live (T.size el) (xs.take len))) y = some (ys, rd) := elemsD_local hys fun q hq => upd_ne _ _ _ _ (fun e => h9 (e ▸ hq))
    obtain ⟨nx, w', S', k1, k2, k3, k4, k5⟩ := sim_append_sl (s := s) hT s1 hφ hs hx hy hel ht' hd' hys' (upd_same _ _ _) rfl (by rw [List.length_take]; omega) h5 h6 h8 rfl
    have hblk' : upds (upd h.blk b (.live (T.size el) (xs.take len))) [(b, .dead), (s, .live (T.size el) (xs.take len ++ ys))] = upds h.blk [(b, .dead), (s, .live (T.size el) (xs.take len ++ ys))] := by
      simp only [upds]
      congr 1
      funext q
      by_cases hq : q = b <;> simp [upd, hq]
    have k3' := k3
    have k4' := k4
    change Ext _ _ _ _ ⟨h.next, upds (upd h.blk b (.live (T.size el) (xs.take len))) [(b, .dead), (s, .live (T.size el) (xs.take len ++ ys))]⟩ _ at k3'
    change HR _ ⟨h.next, upds (upd h.blk b (.live (T.size el) (xs.take len))) [(b, .dead), (s, .live (T.size el) (xs.take len ++ ys))]⟩ _ at k4'
    rw [hblk'] at k3' k4'
    exact ⟨nx, w', S', k1, k2, s2.trans k3', k4', k5⟩
  · cases he
end
end Go.Eng
namespace Go.Eng
open Go
section
variable {P : Program} {T : Tab} {S : Sim} {h : H} {w : World} {s : Nat} {e : Eff}
theorem run_arith {op : BinOp} {k : IntKind} {a b : Int} {t : TypeId} {d : D} (he : arith op k a b = some d) (hsh : isShift op = false) : ∃ v, (binOp op t (.int k a) (.int k b)).run P w = .ok v w ∧ VR S d v := by
  cases op <;> simp only [arith] at he <;> first
    | (cases hsh; done)
    | (cases he; refine ⟨_, ?_, by constructor⟩; simp [binOp, Op.intArith, Op.intCmp, Op.intBits])
    | (split at he
       · cases he
       · rename_i h0; cases he; refine ⟨_, ?_, by constructor⟩; simp [binOp, Op.intDiv, h0])
    | cases he
theorem run_shift {op : BinOp} {k k' : IntKind} {a b : Int} {t : TypeId} {d : D} (he : shiftD op k a b = some d) : ∃ v, (binOp op t (.int k a) (.int k' b)).run P w = .ok v w ∧ VR S d v := by
  unfold shiftD at he
  split at he
  · cases he
  · rename_i h0
    cases op <;> simp only at he <;> first
      | (cases he; done)
      | (cases he; refine ⟨_, ?_, by constructor⟩; simp [binOp, Op.shift, h0])
theorem binOp_eql {t : TypeId} {vx vy : Value} (h1 : ∀ k a k' c, ¬ (vx = .int k a ∧ vy = .int k' c)) (h2 : ∀ k a, vx ≠ .float k a) (h3 : ∀ k a b, vx ≠ .complex k a b) (h4 : ∀ a, vx ≠ .string a) :
    binOp .eql t vx vy = (do pure (.bool (← Op.equal t vx vy))) ∧ binOp .neq t vx vy = (do pure (.bool (!(← Op.equal t vx vy)))) := by
  cases vx <;> first
    | exact absurd rfl (h2 _ _)
    | exact absurd rfl (h3 _ _ _)
    | exact absurd rfl (h4 _)
    | (cases vy <;> first | exact ⟨rfl, rfl⟩ | exact absurd ⟨rfl, rfl⟩ (h1 _ _ _ _))
theorem eqGuard_ok {op : BinOp} {t : TypeId} {ox oy : Operand} {x y : D} {vx vy : Value} (hgd : P.eqGuardType P.depth t = false) (hx : VR S x vx) (hy : VR S y vy) : (eqGuard op t ox oy vx vy).run P w = .ok () w := by
  cases op <;> first
    | rfl
    | (cases hx <;> first
        | rfl
        | (cases hy <;> first
            | rfl
            | simp [eqGuard, hgd]))
theorem sim_bin (hT : TOK P T) (hr : HR S h w) {op : BinOp} {t : TypeId} {ox oy : Operand} {x y d : D} {vx vy : Value} (hx : VR S x vx) (hy : VR S y vy) (he : binD T op t x y = some d) :
    OpSim P S h w s { v := d } ((do eqGuard op t ox oy vx vy; binOp op t vx vy : Sem Value) >>= fun v => pure (Next.value v)) := by
  unfold binD at he
  split at he
  · rename_i k a k' b
    cases hx; cases hy
    have hg : (eqGuard op t ox oy (.int k a) (.int k' b)).run P w = .ok () w := by
      simp only [eqGuard]; split <;> simp
    split at he
    · obtain ⟨v, h1, h2⟩ := run_shift (P := P) (S := S) (w := w) (k' := k') (t := t) he
      exact OpSim.pure hr (v := v) (by simp only [Sem.run_bind, hg, Result.andThen_ok, h1, Sem.run_pure]) h2 rfl
    · rename_i hs
      split at he
      case isFalse => cases he
      rename_i hk; subst hk
      obtain ⟨v, h1, h2⟩ := run_arith (P := P) (S := S) (w := w) (t := t) he (by simpa using hs)
      exact OpSim.pure hr (v := v) (by simp only [Sem.run_bind, hg, Result.andThen_ok, h1, Sem.run_pure]) h2 rfl
  · cases he
  · rename_i hns hni
    have key : ∀ b : Bool, eqD T eqDepth t x y = some b → (Op.equal t vx vy).run P w = .ok b w ∧ (eqGuard op t ox oy vx vy).run P w = .ok () w := by
      intro b hb
      refine ⟨eqD_sound hT w eqDepth t x y b vx vy _ hb hx hy (by decide), ?_⟩
      have htok : T.ok t = true := by
        unfold eqDepth eqD at hb
        split at hb
        · assumption
        · cases hb
      have hgd := hT.guard t htok
      exact eqGuard_ok hgd hx hy
    have hb := binOp_eql (t := t) (vx := vx) (vy := vy) (fun k a k' c hh => by obtain ⟨rfl, rfl⟩ := hh; cases hx; cases hy; exact hni _ _ _ _ rfl rfl) (fun k a hh => by subst hh; cases hx) (fun k a b hh => by subst hh; cases hx)
      (fun a hh => by subst hh; cases hx; exact hns _ rfl)
    split at he
    · cases hq : eqD T eqDepth t x y with
      | none => rw [hq] at he; cases he
      | some b =>
        rw [hq] at he; cases he
        obtain ⟨h1, h2⟩ := key b hq
        exact OpSim.pure hr (v := .bool b) (by simp only [Sem.run_bind, h2, Result.andThen_ok, hb.1, h1, Sem.run_pure]) (.bool b) rfl
    · cases hq : eqD T eqDepth t x y with
      | none => rw [hq] at he; cases he
      | some b =>
        rw [hq] at he; cases he
        obtain ⟨h1, h2⟩ := key b hq
        exact OpSim.pure hr (v := .bool (!b)) (by simp only [Sem.run_bind, h2, Result.andThen_ok, hb.2, h1, Sem.run_pure]) (.bool _) rfl
    · cases he
theorem sim_un (hr : HR S h w) {op : UnOp} {x d : D} {vx : Value} (hx : VR S x vx) (he : unD op x = some d) : OpSim P S h w s { v := d } (do pure (.value (← Op.unary op vx))) := by
  unfold unD at he
  split at he
  · cases he; cases hx
    exact OpSim.pure hr (v := .bool _) (by simp [Op.unary]) (.bool _) rfl
  · cases he; cases hx
    exact OpSim.pure hr (v := .int _ _) (by simp [Op.unary, Op.intArith]) (.int _ _) rfl
  · cases he
theorem sim_conv (hT : TOK P T) (hr : HR S h w) {src dst : TypeId} {x d : D} {vx : Value} (hx : VR S x vx) (he : convD T src dst x = some d) : OpSim P S h w s { v := d } (do pure (.value (← convert src dst vx))) := by
  unfold convD at he
  split at he
  case isFalse => cases he
  rename_i hok
  simp only [Bool.and_eq_true] at hok
  split at he
  · rename_i k k' n hd
    cases he; cases hx
    have h1 := run_und hT hok.1 w
    have h2 := run_und hT hok.2 w
    rw [hd] at h2
    refine OpSim.pure hr (v := .int k (k.wrap n)) ?_ (.int _ _) rfl
    simp only [convert, Sem.run_bind, h1, h2, Result.andThen_ok, Conv.intToInt, Sem.run_pure]
  · cases he
theorem opSim_pureVal {m : Sem Value} {v : Value} (hr : HR S h w) (hm : m.run P w = .ok v w) (hv : VR S e.v v) (hw : e.wr = []) : OpSim P S h w s e (do pure (Next.value (← m))) :=
  opSim_ofVal hm hv (by rw [hw]; rfl) (Ext.refl S h w) hr (fun _ _ => ⟨rfl, rfl⟩)
theorem flat_scal : ∀ (l : List D), (∀ q ∈ l, q.scalar = true) → l.flatMap D.cells = l
  | [], _ => rfl
  | q :: l, h => by
    have h1 := h q (List.mem_cons_self ..)
    have : q.cells = [q] := by cases q <;> first | rfl | cases h1
    rw [List.flatMap_cons, this, flat_scal l (fun z hz => h z (List.mem_cons_of_mem _ hz))]; rfl
theorem scal_cells {q : D} (h : q.scalar = true) : q.cells = [q] := by cases q <;> first | rfl | cases h
theorem OptRel {N : Nat} {A : Nat → D} {a : Act} (f : FR N S A a) {o : Option Operand} {l : Option Int} (h1 : optInt (o.bind (opd A)) = some l) (h2 : o.isSome = l.isSome) :
    (o.map a.eval = none ∧ l = none) ∨ ∃ k n, o.map a.eval = some (.int k n) ∧ l = some n := by
  cases o with
  | none => simp [optInt] at h1; exact .inl ⟨rfl, h1.symm⟩
  | some x =>
    simp only [Option.bind_some] at h1
    cases hx : opd A x with
    | none => rw [hx] at h1; simp [optInt] at h1; subst h1; cases h2
    | some d =>
      rw [hx] at h1
      have hv := opd_sim f hx
      cases d <;> simp [optInt] at h1
      subst h1
      rename_i k n
      refine .inr ⟨k, n, ?_, rfl⟩
      simp only [Option.map_some]
      generalize a.eval x = u at hv
      cases hv; rfl
def OB (v : Option Value) (l : Option Int) : Prop := (v = none ∧ l = none) ∨ ∃ k n, v = some (.int k n) ∧ l = some n
theorem run_sliceBound {k : IntKind} {n : Int} {y : Nat} {code : BoundsCode} (h : 0 ≤ n ∧ n ≤ (y : Int)) : (Instr.sliceBound (.int k n) y code).run P w = .ok n.toNat w := by
  simp only [Instr.sliceBound, asIntOf, Sem.run_bind, Sem.run_pure, Result.andThen_ok, h, and_self, if_true]
theorem run_bounds {isSlice : Bool} {len cap : Nat} {lo hi mx : Option Value} {l h' m : Option Int} (hl : OB lo l) (hh : OB hi h') (hm : OB mx m) {a b : Nat} {ex : Bool} (hlc : len ≤ cap)
    (he : boundsD len l h' m = some (a, b, ex)) : ∃ c, (Instr.sliceBounds isSlice len cap lo hi mx).run P w = .ok (a, b, c) w ∧ a ≤ b ∧ b ≤ len ∧ b ≤ c ∧ c ≤ cap ∧ (ex = true → c = b) := by
  unfold boundsD at he
  rcases hm with ⟨rfl, rfl⟩ | ⟨k3, n3, rfl, rfl⟩
  · simp only at he
    split at he
    case isFalse => cases he
    rename_i hc
    simp only [Option.some.injEq, Prod.mk.injEq] at he
    obtain ⟨rfl, rfl, rfl⟩ := he
    refine ⟨cap, ?_, ?_, ?_, ?_, Nat.le_refl _, by simp⟩
    · rcases hl with ⟨rfl, rfl⟩ | ⟨k1, n1, rfl, rfl⟩ <;> rcases hh with ⟨rfl, rfl⟩ | ⟨k2, n2, rfl, rfl⟩ <;> simp only [Option.getD_none, Option.getD_some] at hc ⊢
      · simp [Instr.sliceBounds]
      · simp only [Instr.sliceBounds, Sem.run_bind, Sem.run_pure, Result.andThen_ok, Sem.run_ite]
        rw [run_sliceBound (by omega)]
        simp
      · simp only [Instr.sliceBounds, Sem.run_bind, Sem.run_pure, Result.andThen_ok]
        rw [run_sliceBound (by omega)]
        simp
      · simp only [Instr.sliceBounds, Sem.run_bind, Sem.run_pure, Result.andThen_ok]
        rw [run_sliceBound (by omega)]
        simp only [Result.andThen_ok]
        rw [run_sliceBound (by omega)]
        simp
    · omega
    · omega
    · omega
  · simp only at he
    split at he
    case isFalse => cases he
    rename_i hc
    simp only [Option.some.injEq, Prod.mk.injEq] at he
    obtain ⟨rfl, rfl, rfl⟩ := he
    rcases hh with ⟨rfl, rfl⟩ | ⟨k2, n2, rfl, rfl⟩
    · simp at hc
    · simp only [Option.getD_some] at hc ⊢
      refine ⟨n3.toNat, ?_, by omega, by omega, by omega, by omega, fun hh => by simp at hh; omega⟩
      rcases hl with ⟨rfl, rfl⟩ | ⟨k1, n1, rfl, rfl⟩ <;> simp only [Option.getD_none, Option.getD_some] at hc ⊢
      · simp only [Instr.sliceBounds, Sem.run_bind, Sem.run_pure, Result.andThen_ok]
        rw [run_sliceBound (by omega)]
        simp only [Result.andThen_ok]
        rw [run_sliceBound (by omega)]
        simp
      · simp only [Instr.sliceBounds, Sem.run_bind, Sem.run_pure, Result.andThen_ok]
        rw [run_sliceBound (by omega)]
        simp only [Result.andThen_ok]
        rw [run_sliceBound (by omega)]
        simp only [Result.andThen_ok]
        rw [run_sliceBound (by omega)]
        simp
theorem sim_slice (hT : TOK P T) (hr : HR S h w) {t : TypeId} {x : D} {vx : Value} {lo hi mx : Option Value} {l h' m : Option Int} (hl : OB lo l) (hh : OB hi h') (hm : OB mx m) (hx : VR S x vx)
    (he : sliceD T h.blk t x l h' m = some e) : OpSim P S h w s e (do pure (.value (← Instr.sliceAt t vx lo hi mx))) := by
  unfold sliceD at he
  split at he
  case isFalse => cases he
  rename_i ht
  have hu := run_und hT ht w
  split at he
  · rename_i el hd
    rw [hd] at hu
    split at he
    case isFalse => cases he
    rename_i hel
    have hz := run_size hT hel w
    split at he
    · rename_i xs tk
      split at he
      case h_2 => cases he
      rename_i a b ex hbd
      split at he
      · cases he
      rename_i hcond
      cases he
      cases hx with
      | frz hx hc hs hrd htk hcap hnil =>
        rename_i ad cap esz vs
        obtain ⟨c, r1, r2, r3, r4, r5, r6⟩ := run_bounds (P := P) (w := w) (isSlice := true) hl hh hm hcap hbd
        have hrun : (Instr.sliceAt t (.slice ad xs.length cap) lo hi mx).run P w = .ok (.slice (if c = a then ad else ad.map (·.add (a * T.size el))) (b - a) (c - a)) w := by
          simp only [Instr.sliceAt, Sem.run_bind, hu, Result.andThen_ok, Instr.slice, r1, hz, Sem.run_pure]
        refine OpSim.pure hr (v := .slice (if c = a then ad else ad.map (·.add (a * T.size el))) (b - a) (c - a)) (by simp only [Sem.run_bind, hrun, Result.andThen_ok, Sem.run_pure]) ?_ rfl
        have hlen : ((xs.take b).drop a).length = b - a := by simp; omega
        have hx' : ∀ x ∈ (xs.take b).drop a, x.cells.length = esz := fun x hm => hx x (List.mem_of_mem_take (List.mem_of_mem_drop hm))
        have hc' : ∀ q ∈ ((xs.take b).drop a).flatMap D.cells, q.scalar = true := fun q hm => by
          obtain ⟨x, hxm, hcx⟩ := mem_flat hm
          exact hc q (List.mem_flatMap.2 ⟨x, List.mem_of_mem_take (List.mem_of_mem_drop hxm), hcx⟩)
        have hs' : VRs S.pure (((xs.take b).drop a).flatMap D.cells) ((vs.take (b * esz)).drop (a * esz)) := by
          rw [flat_drop (fun x hm => hx x (List.mem_of_mem_take hm)), flat_take hx]
          exact (hs.take _).drop _
        have hkey : VR S (.frz ((xs.take b).drop a) (if tk = .nil then .nil else if ex = true then .exact else .unk)) (.slice (if c = a then ad else ad.map (·.add (a * T.size el))) ((xs.take b).drop a).length (c - a)) := by
          refine .frz hx' hc' hs' ?_ ?_ (by omega) ?_
          · by_cases hca : c = a
            · have : (xs.take b).drop a = [] := List.eq_nil_of_length_eq_zero (by omega)
              rw [this] at hs'
              have h9 := hs'.length
              exact .inl (List.eq_nil_of_length_eq_zero (by simpa using h9.symm))
            · rw [if_neg hca]
              rcases hrd with h1 | ⟨y, rfl, hspot, h1⟩
              · subst h1; exact .inl (by simp)
              · refine .inr ⟨_, rfl, ?_, ?_⟩
                · simp only [add_spot hspot]
                · simp only [add_spot hspot]
                  have haz : a * T.size el = a * esz := by
                    by_cases ha0 : a = 0
                    · simp [ha0]
                    · have : ∀ x ∈ xs, x.cells.length = T.size el := by
                        by_cases hq : ∀ x ∈ xs, x.cells.length = T.size el
                        · exact hq
                        · exact absurd ⟨ha0, hq⟩ hcond
                      rcases esz_of this hx with h2 | h2
                      · exfalso; rw [h2] at hcap r3; simp at r3; omega
                      · rw [h2]
                  rw [haz]
                  intro j hj
                  have hj1 : a * esz + j < (vs.take (b * esz)).length := by rw [List.length_drop] at hj; omega
                  have hj2 : a * esz + j < vs.length := by rw [List.length_take] at hj1; omega
                  have := h1 (a * esz + j) hj2
                  rw [Nat.add_assoc, this]
                  simp
          · by_cases htk' : tk = .nil
            · rw [if_pos htk']
              subst htk'
              obtain ⟨rfl, h0, rfl⟩ := htk
              have : c = a := by omega
              rw [if_pos this]
              exact ⟨rfl, by omega, by omega⟩
            · rw [if_neg htk']
              by_cases hex : ex = true
              · rw [if_pos hex]
                show c - a = _
                rw [hlen, r6 hex]
              · rw [if_neg hex]; trivial
          · intro hn
            have : ad = none := by
              split at hn
              · exact hn
              · cases ad <;> first | rfl | cases hn
            have := hnil this
            rw [this]; simp
        rw [hlen] at hkey
        exact hkey
    · rename_i bb esz off len ex0
      split at he
      case isFalse => cases he
      rename_i hesz
      split at he
      case h_2 => cases he
      rename_i a b ex hbd
      cases he
      cases hx with
      | sl hφ he0 hl' hex' hn =>
        rename_i cap r
        obtain ⟨c, r1, r2, r3, r4, r5, r6⟩ := run_bounds (P := P) (w := w) (isSlice := true) hl hh hm hl' hbd
        have hrun : (Instr.sliceAt t (.slice (some ⟨r.rb, off * esz, none⟩) len cap) lo hi mx).run P w = .ok (.slice (if c = a then some ⟨r.rb, off * esz, none⟩ else some ⟨r.rb, off * esz + a * T.size el, none⟩) (b - a) (c - a)) w := by
          simp only [Instr.sliceAt, Sem.run_bind, hu, Result.andThen_ok, Instr.slice, r1, hz, Sem.run_pure, Option.map_some, add_none]
        refine OpSim.pure hr (v := .slice (if c = a then some ⟨r.rb, off * esz, none⟩ else some ⟨r.rb, off * esz + a * T.size el, none⟩) (b - a) (c - a)) (by simp only [Sem.run_bind, hrun, Result.andThen_ok, Sem.run_pure]) ?_ rfl
        by_cases hca : c = a
        · have h1 : b - a = 0 := by omega
          have h2 : c - a = 0 := by omega
          rw [h1, h2]
          exact .slv _
        · rw [if_neg hca, ← hesz, ← Nat.add_mul]
          refine .sl hφ he0 (by omega) (fun hh => by have := r6 hh; omega) ?_
          have : (off + a + (c - a)) * esz ≤ (off + cap) * esz := Nat.mul_le_mul_right _ (by omega)
          omega
      | slv ad =>
        obtain ⟨c, r1, r2, r3, r4, r5, r6⟩ := run_bounds (P := P) (w := w) (isSlice := true) hl hh hm (Nat.le_refl 0) hbd
        have hrun : (Instr.sliceAt t (.slice ad 0 0) lo hi mx).run P w = .ok (.slice (if c = a then ad else ad.map (·.add (a * T.size el))) (b - a) (c - a)) w := by
          simp only [Instr.sliceAt, Sem.run_bind, hu, Result.andThen_ok, Instr.slice, r1, hz, Sem.run_pure]
        refine OpSim.pure hr (v := .slice (if c = a then ad else ad.map (·.add (a * T.size el))) (b - a) (c - a)) (by simp only [Sem.run_bind, hrun, Result.andThen_ok, Sem.run_pure]) ?_ rfl
        have h1 : b - a = 0 := by omega
        have h2 : c - a = 0 := by omega
        rw [h1, h2]
        exact .slv _
    · cases he
  · rename_i n el hd
    rw [hd] at hu
    split at he
    case isFalse => cases he
    rename_i hcnd
    simp only [Bool.and_eq_true, Bool.not_eq_true', beq_iff_eq] at hcnd
    obtain ⟨⟨hel, hagg⟩, hsz⟩ := hcnd
    have hz := run_size hT hel w
    rw [hsz] at hz
    split at he
    · rename_i cs
      split at he
      case isFalse => cases he
      rename_i hcl
      split at he
      case h_2 => cases he
      rename_i a b ex hbd
      cases he
      cases hx with
      | iref hc hs hrd =>
        rename_i bb off vs
        simp only [cells_agg] at hc hs
        obtain ⟨c, r1, r2, r3, r4, r5, r6⟩ := run_bounds (P := P) (w := w) (isSlice := false) hl hh hm (Nat.le_refl n) hbd
        have hrun : (Instr.sliceAt t (.pointer (some ⟨bb, off, none⟩)) lo hi mx).run P w = .ok (.slice (some (if c = a then ⟨bb, off, none⟩ else ⟨bb, off + a, none⟩)) (b - a) (c - a)) w := by
          simp only [Instr.sliceAt, Sem.run_bind, hu, Result.andThen_ok, Instr.sureAddr, Sem.run_pure, r1, hz, add_none, Nat.mul_one]
        refine opSim_pureVal hr hrun ?_ rfl
        have hlen : ((cs.take b).drop a).length = b - a := by simp; omega
        have hsub : ∀ q ∈ (cs.take b).drop a, q.scalar = true := fun q hm => hc q (List.mem_of_mem_take (List.mem_of_mem_drop hm))
        have hkey : VR S (.frz ((cs.take b).drop a) .unk) (.slice (some (if c = a then ⟨bb, off, none⟩ else ⟨bb, off + a, none⟩)) ((cs.take b).drop a).length (c - a)) := by
          refine .frz (esz := 1) (vs := (vs.take b).drop a) (fun q hm => by rw [scal_cells (hsub q hm)]; rfl) (fun q hm => by rw [flat_scal _ hsub] at hm; exact hsub q hm) ?_ ?_ trivial (by omega) (fun hh => by cases hh)
          · rw [flat_scal _ hsub]; exact (hs.take _).drop _
          · by_cases hca : c = a
            · refine .inl (List.eq_nil_of_length_eq_zero ?_)
              have := ((hs.take b).drop a).length
              omega
            · rw [if_neg hca]
              refine .inr ⟨_, rfl, rfl, fun j hj => ?_⟩
              have hj1 : a + j < (vs.take b).length := by rw [List.length_drop] at hj; omega
              have hj2 : a + j < vs.length := by rw [List.length_take] at hj1; omega
              have := hrd (a + j) hj2
              simp only
              rw [Nat.add_assoc, this]
              simp
        rw [hlen] at hkey
        exact hkey
    · rename_i bb
      split at he
      case h_2 => cases he
      rename_i esz cs hblk
      split at he
      case isFalse => cases he
      rename_i hcl
      split at he
      case h_2 => cases he
      rename_i a b ex hbd
      split at he
      case h_2 => cases he
      rename_i ys k hk
      cases he
      cases hx with
      | ptr _ _ hφ =>
        rename_i r
        obtain ⟨hlz, hlc, hlie⟩ := hr.row hblk
        rcases hlie with ⟨h1, _⟩ | ⟨r1, vs, h3, h4, h7, h8, h9r⟩
        · cases h1
        · rw [hφ] at h3; cases h3
          simp only [List.flatMap_cons, List.flatMap_nil, List.append_nil, cells_agg] at hlc h7
          obtain ⟨c, q1, q2, q3, q4, q5, q6⟩ := run_bounds (P := P) (w := w) (isSlice := false) hl hh hm (Nat.le_refl n) hbd
          have hrun : (Instr.sliceAt t (.pointer (some ⟨r.rb, 0 * r.esz + 0, none⟩)) lo hi mx).run P w = .ok (.slice (some (if c = a then ⟨r.rb, 0, none⟩ else ⟨r.rb, 0 + a, none⟩)) (b - a) (c - a)) w := by
            simp only [Instr.sliceAt, Sem.run_bind, hu, Result.andThen_ok, Instr.sureAddr, Sem.run_pure, q1, hz, add_none, Nat.mul_one, Nat.zero_mul, Nat.add_zero]
          obtain ⟨k1, k2⟩ := hr.kill (bb :: k)
          have hbody : (h.blk bb).row.isSome = true := by rw [hblk]; rfl
          obtain ⟨b1, b2, _⟩ := mapK_ok (fun d d' ks hh => snap_ok hr snapDepth false d d' ks hh) cs ys k hk
          have hinc : IncI S h w (S.fz h w (bb :: k)).pure (bb :: k) := ⟨fun b o x hx => (hr.fz_le (bb :: k)).I _ _ _ hx, fun j hj rb ho o x hx => by
            have hbj : (h.blk j).body = true := by
              refine own_body ?_ ho
              rcases List.mem_cons.1 hj with rfl | hj
              · exact hbody
              · exact b1 j hj
            show (S.fz h w (bb :: k)).I rb o = some x
            simp only [Sim.fz]
            rw [if_pos ⟨j, hj, hbj, ho⟩]; exact hx⟩
          obtain ⟨c1, c2, c3⟩ := mapK_row (esz := 1) (fun d d' ks hh => snap_ok hr snapDepth false d d' ks hh) hk (fun q hm => by rw [scal_cells (hlc q hm)]; rfl) (by rw [flat_scal _ hlc]; exact hlc) (by rw [flat_scal _ hlc]; exact h7)
            (S' := (S.fz h w (bb :: k)).pure) ⟨hinc.1, fun j hj => hinc.2 j (List.mem_cons_of_mem _ hj)⟩
          refine opSim_ofVal hrun ?_ rfl k2 k1 (fun _ _ => ⟨rfl, rfl⟩)
          have hyl : ys.length = n := by omega
          have hlen : ((ys.take b).drop a).length = b - a := by simp; omega
          have hx' : ∀ x ∈ (ys.take b).drop a, x.cells.length = 1 := fun x hm => c1 x (List.mem_of_mem_take (List.mem_of_mem_drop hm))
          have hc' : ∀ q ∈ ((ys.take b).drop a).flatMap D.cells, q.scalar = true := fun q hm => by
            obtain ⟨x, hxm, hcx⟩ := mem_flat hm
            exact c2 q (List.mem_flatMap.2 ⟨x, List.mem_of_mem_take (List.mem_of_mem_drop hxm), hcx⟩)
          have hs' : VRs (S.fz h w (bb :: k)).pure (((ys.take b).drop a).flatMap D.cells) ((vs.take (b * 1)).drop (a * 1)) := by
            rw [flat_drop (fun x hm => c1 x (List.mem_of_mem_take hm)), flat_take c1]
            exact (c3.take _).drop _
          rw [Nat.mul_one, Nat.mul_one] at hs'
          have hkey : VR (S.fz h w (bb :: k)) (.frz ((ys.take b).drop a) .unk) (.slice (some (if c = a then ⟨r.rb, 0, none⟩ else ⟨r.rb, 0 + a, none⟩)) ((ys.take b).drop a).length (c - a)) := by
            refine .frz hx' hc' hs' ?_ trivial (by omega) (fun hh => by cases hh)
            by_cases hca : c = a
            · refine .inl (List.eq_nil_of_length_eq_zero ?_)
              have h9 := hs'.length
              rw [flat_len hx'] at h9
              omega
            · rw [if_neg hca]
              refine .inr ⟨_, rfl, rfl, fun j hj => ?_⟩
              have hj1 : a + j < (vs.take b).length := by rw [List.length_drop] at hj; omega
              have hj2 : a + j < vs.length := by rw [List.length_take] at hj1; omega
              have hval : ((vs.take b).drop a)[j] = vs[a + j] := by simp
              rw [hval]
              rcases h9r with h9r | h9r
              · refine hinc.2 bb (List.mem_cons_self ..) r.rb (.inl ⟨h9r, r, hφ, rfl⟩) _ _ ?_
                rw [Nat.zero_add]
                exact h8 _ hj2
              · have := (hr.fz_le (bb :: k)).I _ _ _ (h9r _ hj2)
                rw [Nat.zero_add]
                simpa using this
          rw [hlen] at hkey
          exact hkey
    · cases he
  · cases he
end
end Go.Eng
namespace Go.Eng
open Go
theorem flat_replicate_get {α : Type} (zc : List α) : ∀ (c i : Nat), i < c * zc.length → (List.replicate c zc).flatten[i]? = zc[i % zc.length]?
  | 0, i, h => by simp at h
  | c + 1, i, h => by
    rw [List.replicate_succ, List.flatten_cons]
    by_cases hi : i < zc.length
    · rw [List.getElem?_append_left hi, Nat.mod_eq_of_lt hi]
    · rw [List.getElem?_append_right (by omega), flat_replicate_get zc c (i - zc.length) (by have := h; rw [Nat.succ_mul] at this; omega)]
      congr 1
      exact (Nat.mod_eq_sub_mod (by omega)).symm
theorem flatMap_replicate (d : D) : ∀ c : Nat, (List.replicate c d).flatMap D.cells = (List.replicate c d.cells).flatten
  | 0 => rfl
  | c + 1 => by rw [List.replicate_succ, List.flatMap_cons, flatMap_replicate d c, List.replicate_succ, List.flatten_cons]
section
variable {P : Program} {T : Tab} {S : Sim} {h : H} {w : World} {s : Nat} {e : Eff}
theorem zero_cells {d : D} {z : Value} (hz : VR S d z) (c : Nat) : VRs S ((List.replicate c d).flatMap D.cells) ((Array.range (c * z.cells.size)).map (z.cells[· % z.cells.size]!)).toList := by
  have hzl : d.cells.length = z.cells.size := by have := hz.cells.length; simpa using this
  refine VRs.of_get ?_ fun i x v hx hv => ?_
  · rw [flatMap_replicate]; simp [hzl]
  · rw [flatMap_replicate] at hx
    have hi : i < c * z.cells.size := by
      have h1 : i < ((Array.range (c * z.cells.size)).map (z.cells[· % z.cells.size]!)).toList.length := by
        rcases Nat.lt_or_ge i _ with h | h
        · exact h
        · rw [List.getElem?_eq_none h] at hv; cases hv
      simpa using h1
    rw [flat_replicate_get _ _ _ (by rw [hzl]; exact hi), hzl] at hx
    obtain ⟨u, hu1, hu2⟩ := hz.cells.get _ hx
    have : v = u := by
      have h2 : ((Array.range (c * z.cells.size)).map (z.cells[· % z.cells.size]!)).toList[i]? = some (z.cells[i % z.cells.size]!) := by
        rw [Array.getElem?_toList]; simp [hi]
      rw [h2] at hv
      rw [Array.getElem?_toList] at hu1
      have h3 : z.cells[i % z.cells.size]! = u := by rw [getElem!_def, hu1]
      rw [h3] at hv; cases hv; rfl
    rw [this]; exact hu2
theorem wrap_ok {n : Int} (h0 : 0 ≤ n) (h1 : n ≤ 140737488355328) : IntKind.i64.wrap n = n := by
  have h2 : n % (2 ^ IntKind.i64.bits : Int) = n := by show n % 2 ^ 64 = n; omega
  simp only [IntKind.wrap, h2]
  rw [if_neg]
  intro hh
  simp at hh
  have : (2 : Int) ^ (IntKind.i64.bits - 1) = 9223372036854775808 := rfl
  omega
theorem run_makeSlice (hT : TOK P T) {t el : TypeId} (hel : elemOf? T t = some el) {k k' : IntKind} {l c : Int} (h0 : 0 ≤ l) (h1 : l ≤ c) (h2 : c * T.bytes el ≤ 140737488355328) (hb : T.bytes el ≠ 0) (hz0 : T.size el ≠ 0) :
    ∃ cs : Array Value, (Instr.makeSlice t (.int k l) (.int k' c)).run P w = .ok (.slice (some ⟨w.heap.size, 0, none⟩) l.toNat c.toNat) (w.alloc (.cells cs el)) ∧ VRs S ((List.replicate c.toNat (T.zero el)).flatMap D.cells) cs.toList ∧ cs.size = c.toNat * T.size el := by
  obtain ⟨hu, hok⟩ := elemOf_spec hT hel w
  have hz := run_size hT hok w
  obtain ⟨z, hz1, hz2⟩ := run_zero hT hok w
  obtain ⟨i, zv, hi1, hi2, hi3, hi4, hi5⟩ := run_info hT hok w
  have hzc : z.cells.size = T.size el := by have := hz2.cells.length; rw [hT.zlen el hok] at this; simpa using this.symm
  have hc : c ≤ 140737488355328 := by
    have : c * 1 ≤ c * (T.bytes el : Int) := Int.mul_le_mul_of_nonneg_left (by omega) (by omega)
    omega
  have hwl := wrap_ok h0 (by omega : l ≤ 140737488355328)
  have hwc := wrap_ok (by omega : 0 ≤ c) hc
  let zero : Array Value := if c.toNat * T.size el = 0 then #[] else z.cells
  refine ⟨(Array.range (c.toNat * T.size el)).map (zero[· % zero.size]!), ?_, ?_, by simp⟩
  · have ht : ((decide (c < 0) || decide ((T.bytes el : Int) * c > 2 ^ 48)) || decide (l < 0) || decide (l > c)) = false := by
      have : (T.bytes el : Int) * c ≤ 140737488355328 := by rw [Int.mul_comm]; exact h2
      simp; omega
    simp only [Instr.makeSlice, Sem.run_bind, hu, Result.andThen_ok, asInt, asIntOf, Sem.run_pure, hi1, hi3, hwl, hwc, ht, Bool.false_eq_true, if_false, run_askRoom, hz]
    by_cases hn : c.toNat * T.size el = 0
    · simp [hn, zero, newRow]
    · simp [hn, zero, hz1, newRow]
  · by_cases hn : c.toNat * T.size el = 0
    · have : c.toNat = 0 := (Nat.mul_eq_zero.1 hn).resolve_right hz0
      rw [this]; simp; exact .nil
    · have := zero_cells (S := S) hz2.of_none c.toNat
      rw [hzc] at this
      simp only [zero, if_neg hn, hzc]
      exact this
theorem sim_makeSlice (hT : TOK P T) (hr : HR S h w) (hφ : S.φ s = none) (htks : S.tk s = none) (hs : s < h.next) {t el : TypeId} (hel : elemOf? T t = some el) {k k' : IntKind} {l c : Int} (h0 : 0 ≤ l) (h1 : l ≤ c) (h2 : c * T.bytes el ≤ 140737488355328)
    (hz0 : T.size el ≠ 0) (hb : T.bytes el ≠ 0)
    {mu : Bool} (he : (if l = c then (if mu then some { v := .sl s (T.size el) 0 l.toNat true, wr := [(s, .live (T.size el) (List.replicate l.toNat (T.zero el)))] } else some { v := .frz (List.replicate l.toNat (T.zero el)) .exact })
        else if l = 0 then some { v := .frz [] (.own s (T.size el)), wr := [(s, .tok)] }
        else none) = some e) :
    OpSim P S h w s e (do pure (Next.value (← Instr.makeSlice t (.int k l) (.int k' c)))) := by
  obtain ⟨cs, r1, r2, r3⟩ := run_makeSlice (S := S) (w := w) (k := k) (k' := k') hT hel h0 h1 h2 hb hz0
  obtain ⟨hu, hok⟩ := elemOf_spec hT hel w
  split at he
  · rename_i hlc
    subst hlc
    have hlen : ∀ x ∈ List.replicate l.toNat (T.zero el), x.cells.length = T.size el := fun x hx => by rw [List.eq_of_mem_replicate hx]; exact hT.zlen el hok
    have hsc : ∀ q ∈ (List.replicate l.toNat (T.zero el)).flatMap D.cells, q.scalar = true := fun q hq => by
      obtain ⟨x, hx, hqx⟩ := mem_flat hq
      rw [List.eq_of_mem_replicate hx] at hqx
      obtain ⟨z, _, hz2⟩ := run_zero hT hok w
      exact hz2.scalars (hT.zokc el hok) q hqx
    split at he
    · cases he
      obtain ⟨n1, n2⟩ := hr.newLive (s := s) (ty := el) (cs := cs) hφ hs hlen hsc r2 ⟨[], by simp⟩
      refine opSim_ofVal r1 ?_ rfl n2 n1 (fun b hb' => ⟨upd_ne _ _ _ _ hb', rfl⟩)
      have := VR.sl (S := S.addφ s ⟨w.heap.size, T.size el, cs.size⟩) (b := s) (esz := T.size el) (off := 0) (len := l.toNat) (cap := l.toNat) (ex := true) (r := ⟨w.heap.size, T.size el, cs.size⟩)
        (by simp [Sim.addφ]) rfl (Nat.le_refl _) (fun _ => rfl) (by simp [r3])
      simpa using this
    · cases he
      obtain ⟨q1, q2, q3, _⟩ := run_makeSlice (S := Sim.none) (w := w) (k := k) (k' := k') hT hel h0 h1 h2 hb hz0
      have hqq : q1 = cs := by
        have := q2.symm.trans r1
        injection this with _ h9
        have h10 := congrArg World.heap h9
        simp only [World.alloc] at h10
        have h11 := Array.push_inj_right.1 h10
        injection h11
      subst hqq
      obtain ⟨n1, n2⟩ := hr.newI (vs := q1.toList) (cs := q1) (ty := el) ⟨[], by simp⟩
      refine opSim_ofVal r1 ?_ rfl n2 n1 (fun _ _ => ⟨rfl, rfl⟩)
      have := frz_newI (S' := S.addI w.heap.size 0 q1.toList) (b := w.heap.size) (xs := List.replicate l.toNat (T.zero el)) (vs := q1.toList) (esz := T.size el) l.toNat hlen hsc (q3.mono (Sim.none_le _)) addI_rd (tk := .exact) (by simp [TokR]) (by simp)
      simpa using this
  · split at he
    · rename_i hl0
      subst hl0
      cases he
      obtain ⟨n1, n2⟩ := hr.newTok (s := s) (vs := []) (cs := cs) (ty := el) htks hs ⟨cs.toList, by simp⟩
      refine opSim_ofVal r1 ?_ rfl n2 n1 (fun b hb' => ⟨rfl, (upd_ne _ _ _ _ hb').trans rfl⟩)
      have := VR.frz_own (S' := (S.addI w.heap.size 0 []).addTk s (w.heap.size, ([] : List Value).length, cs.size)) (xs := []) (a := some ⟨w.heap.size, 0, none⟩) (cap := c.toNat) (z := T.size el) (vs := []) (t := s) (by simp) (by simp) .nil (.inl rfl) (by simp) (fun _ => rfl)
        (.inr ⟨⟨w.heap.size, 0, none⟩, rfl, rfl, by simp [Sim.addTk, r3]⟩)
      simpa using this
    · cases he
theorem mapOf_spec (hT : TOK P T) {t k el : TypeId} (he : mapOf? T t = some (k, el)) (w : World) : (underlying t).run P w = .ok (.map k el) w ∧ T.ok k = true ∧ T.ok el = true := by
  unfold mapOf? at he
  split at he
  · rename_i ht
    have hu := run_und hT ht w
    split at he
    · rename_i k' e' hd
      rw [hd] at hu
      split at he
      · rename_i hok; cases he; simp only [Bool.and_eq_true] at hok; exact ⟨hu, hok.1, hok.2⟩
      · cases he
    · cases he
  · cases he
theorem sim_makeMap (hT : TOK P T) (hr : HR S h w) (hφ : S.φ s = none) (hs : s < h.next) {t : TypeId} :
    OpSim P S h w s { v := .mp s, wr := [(s, .map [])] } (do pure (Next.value (← Instr.makeMap t none))) := by
  obtain ⟨n1, n2⟩ := hr.newBody (k := .map []) (o := .map #[] 0) hφ hs rfl (fun _ => rfl) (fun S' _ hS' hI => by
    refine ⟨fun e ys hk => ?_, fun es hk => ?_, fun l hk => ?_, fun hk => ?_, fun r' _ hr' o => ?_, fun _ _ hk => by simp at hk⟩
    · simp at hk
    · simp at hk; subst hk
      exact ⟨⟨w.heap.size, 0, 0⟩, #[], 0, hS', heap_alloc_new, rfl, fun i e m he => by simp at he⟩
    · simp at hk
    · simp at hk
    · rw [hS'] at hr'; cases hr'; exact hI o)
  refine opSim_ofVal (v := .map (some w.heap.size)) ?_ ?_ rfl n2 n1 (fun b hb' => ⟨upd_ne _ _ _ _ hb', rfl⟩)
  · simp [Instr.makeMap]
  · exact VR.mp (S := S.addφ s ⟨w.heap.size, 0, 0⟩) (b := s) (r := ⟨w.heap.size, 0, 0⟩) (by simp [Sim.addφ])
theorem allD_true {α : Type} {f : α → Option Bool} : ∀ {l : List α}, allD f l = some true → ∀ x ∈ l, f x = some true
  | [], _, x, hx => by cases hx
  | y :: l, he, x, hx => by
    simp only [allD] at he
    split at he
    · rename_i hf
      rcases List.mem_cons.1 hx with rfl | hx
      · exact hf
      · exact allD_true he x hx
    · cases he
    · cases he
theorem run_forIn_unit {α : Type} {f : α → PUnit → Sem (ForInStep PUnit)} : ∀ (l : List α), (∀ x ∈ l, (f x PUnit.unit).run P w = .ok (.yield PUnit.unit) w) → (forIn l PUnit.unit f).run P w = .ok PUnit.unit w
  | [], _ => by simp
  | x :: l, hf => by
    simp only [List.forIn_cons, Sem.run_bind, hf x (List.mem_cons_self ..), Result.andThen_ok]
    exact run_forIn_unit l fun y hy => hf y (List.mem_cons_of_mem _ hy)
theorem checkKey_ok (hT : TOK P T) (em : Bool) : ∀ (d : Nat) (t : TypeId) (x : D) (vx : Value) (n : Nat), eqD T d t x x = some true → VR S x vx → d ≤ n → (Instr.checkKey em n t vx).run P w = .ok () w := by
  intro d
  induction d with
  | zero => intro t x vx n he; simp [eqD] at he
  | succ d ih =>
    intro t x vx n he hx hn
    obtain ⟨n, rfl⟩ : ∃ m, n = m + 1 := ⟨n - 1, by omega⟩
    simp only [eqD] at he
    split at he
    case isFalse => cases he
    rename_i ht
    have hu := run_und hT ht w
    unfold Instr.checkKey
    simp only [Sem.run_bind, hu, Result.andThen_ok]
    split at he
    · rw [‹T.desc t = TypeDesc.bool›]; cases hx; rfl
    · rw [‹T.desc t = TypeDesc.int _›]; cases hx; rfl
    · rw [‹T.desc t = TypeDesc.string›]; cases hx; rfl
    · rename_i fs xs ys hd hyy
      cases hx with
      | agg hcx hsx =>
      rename_i vx
      rw [hd]
      simp only
      cases hyy
      have := allD_true he
      have key := run_forIn_unit (P := P) (w := w) (f := fun (f : Field) _ => if f.name ≠ "_" then do Instr.checkKey em n f.type (← part f.type vx f.offset); pure (ForInStep.yield PUnit.unit) else pure (ForInStep.yield PUnit.unit)) fs.toList (fun f hf => by
        have h1 := this f hf
        split at h1
        · cases h1
        · rename_i hnm
          split at h1
          · rename_i a c ha hc
            rw [ha] at hc; cases hc
            obtain ⟨va, e1, r1⟩ := run_part hT w ha hsx hcx
            simp only [hnm, ne_eq, not_false_eq_true, if_true, Sem.run_bind, e1, Result.andThen_ok, ih f.type a va n h1 r1 (by omega), Sem.run_pure]
          · cases h1)
      rw [← Array.forIn_toList]
      simp only [Sem.run_bind]
      rw [key]; rfl
    · rename_i len el xs ys hd hyy
      cases hx with
      | agg hcx hsx =>
      rename_i vx
      rw [hd]
      simp only
      cases hyy
      split at he
      case isFalse => cases he
      rename_i hel
      have := allD_true he
      have key := run_forIn_unit (P := P) (w := w) (f := fun (i : Nat) _ => do Instr.checkKey em n el (← part el vx (i * (← sizeOf el))); pure (ForInStep.yield PUnit.unit)) (List.range len) (fun i hi => by
        have h1 := this i hi
        split at h1
        · rename_i a c ha hc
          rw [ha] at hc; cases hc
          obtain ⟨va, e1, r1⟩ := run_part hT w ha hsx hcx
          simp only [Sem.run_bind, run_size hT hel, Result.andThen_ok, e1, ih el a va n h1 r1 (by omega), Sem.run_pure]
        · cases h1)
      simp only [Std.Legacy.Range.forIn_eq_forIn_range', Std.Legacy.Range.size, Nat.sub_zero, Nat.add_sub_cancel, Nat.div_one, ← List.range_eq_range', Sem.run_bind]
      rw [key]; rfl
    all_goals first
      | (cases he; done)
      | (rw [‹T.desc t = TypeDesc.slice _›]; cases hx <;> rfl)
      | (rw [‹T.desc t = TypeDesc.pointer _›]; cases hx <;> rfl)
      | (rw [‹T.desc t = TypeDesc.map _ _›]; cases hx <;> rfl)
      | (rw [‹T.desc t = TypeDesc.func _ _ _›]; cases hx <;> rfl)
theorem sameD_eq : ∀ (n : Nat) (x y : D), sameD n x y = true → x = y
  | 0, _, _, h => by cases h
  | n + 1, x, y, h => by
    unfold sameD at h
    split at h
    · simp at h; rw [h]
    · simp at h; rw [h.1, h.2]
    · rename_i xs ys
      simp only [Bool.and_eq_true, beq_iff_eq, List.all_eq_true] at h
      obtain ⟨h1, h2⟩ := h
      congr 1
      apply List.ext_getElem h1
      intro i hi hi'
      exact sameD_eq n _ _ (h2 (xs[i], ys[i]) (List.mem_iff_getElem.2 ⟨i, by simp; omega, by simp⟩))
    · cases h
theorem sameBits_self : ∀ (n : Nat) (x y : D) (vx vy : Value), sameD n x y = true → VR S x vx → VR S y vy → ∀ m, n ≤ m → Instr.sameBits m vx vy = true
  | 0, _, _, _, _, h => by cases h
  | n + 1, x, y, vx, vy, h => by
    intro hx hy m hm
    obtain ⟨m, rfl⟩ : ∃ j, m = j + 1 := ⟨m - 1, by omega⟩
    unfold sameD at h
    split at h
    · cases hx; cases hy; simpa [Instr.sameBits] using h
    · cases hx; cases hy; simpa [Instr.sameBits] using h
    · rename_i xs ys
      cases hx with
      | agg hcx hsx =>
      cases hy with
      | agg hcy hsy =>
      rename_i ax ay
      simp only [Bool.and_eq_true, beq_iff_eq, List.all_eq_true] at h
      obtain ⟨h1, h2⟩ := h
      have l1 : xs.length = ax.size := by have := hsx.length; simpa using this
      have l2 : ys.length = ay.size := by have := hsy.length; simpa using this
      simp only [Instr.sameBits, Bool.and_eq_true, beq_iff_eq, List.all_eq_true]
      refine ⟨by omega, fun p hp => ?_⟩
      obtain ⟨i, hi, hip⟩ := List.mem_iff_getElem.1 hp
      simp only [List.length_zip, Array.length_toList] at hi
      have hix : i < xs.length := by omega
      have hiy : i < ys.length := by omega
      obtain ⟨u, hu1, hu2⟩ := hsx.get i (List.getElem?_eq_getElem hix)
      obtain ⟨v, hv1, hv2⟩ := hsy.get i (List.getElem?_eq_getElem hiy)
      have := sameBits_self n _ _ u v (h2 (xs[i], ys[i]) (List.mem_iff_getElem.2 ⟨i, by simp; omega, by simp⟩)) hu2 hv2 m (by omega)
      have e1 : p.1 = u := by rw [← hip]; simp; rw [List.getElem?_eq_getElem (by simp; omega)] at hu1; simpa using hu1
      have e2 : p.2 = v := by rw [← hip]; simp; rw [List.getElem?_eq_getElem (by simp; omega)] at hv1; simpa using hv1
      rw [← e1, ← e2] at this
      exact this
    · cases h
theorem sameNow_eq {t : TypeId} {k k' : D} {vk vk' : Value} {b b' : Bool} (h : Instr.sameNow (T.desc t) vk vk' = some b) (he : eqD T eqDepth t k k' = some b') (hk : VR S k vk) (hk' : VR S k' vk') : b = b' := by
  unfold eqDepth eqD at he
  split at he
  case isFalse => cases he
  unfold Instr.sameNow at h
  split at h
  · rename_i q kk a kk2 c hd
    cases hk; cases hk'
    rw [hd] at he
    simp only at he
    split at h
    · rename_i hkk; subst hkk; simp at he; cases h; exact he
    · cases h
  · rename_i hd
    cases hk; cases hk'
    rw [hd] at he; simp only at he
    cases h; cases he; rfl
  · rename_i hd
    cases hk; cases hk'
    rw [hd] at he; simp only at he
    cases h; cases he; rfl
  · cases h
theorem findNow_ok {kt : TypeId} {k : D} {vk : Value} (hk : VR S k vk) : ∀ (es : List (D × D)) (ms : List MapEntry) (i : Nat) (r : Option (Nat × D)) (r' : Option (Nat × Value)), MR S es ms →
    findD T kt k es i = some r → Instr.findNow (T.desc kt) vk ms i = some r' → (r = none ∧ r' = none) ∨ ∃ j d v, r = some (j, d) ∧ r' = some (j, v) ∧ VR S d v
  | [], ms, i, r, r', hm, h1, h2 => by
    have : ms = [] := List.eq_nil_of_length_eq_zero hm.1.symm
    subst this
    simp only [findD, Option.some.injEq] at h1
    simp only [Instr.findNow, Option.some.injEq] at h2
    exact .inl ⟨h1.symm, h2.symm⟩
  | (k', d) :: es, ms, i, r, r', hm, h1, h2 => by
    cases ms with
    | nil => exact absurd hm.1 (by simp)
    | cons m ms =>
      have hm0 := hm.2 0 (k', d) m rfl rfl
      have hm' : MR S es ms := ⟨by simpa using hm.1, fun j e m' he hm' => hm.2 (j + 1) e m' (by simpa using he) (by simpa using hm')⟩
      simp only [findD] at h1
      simp only [Instr.findNow] at h2
      cases hs : Instr.sameNow (T.desc kt) vk m.key with
      | none => rw [hs] at h2; cases h2
      | some b =>
        cases he : eqD T eqDepth kt k k' with
        | none => rw [he] at h1; cases h1
        | some b' =>
          have := sameNow_eq hs he hk hm0.1
          subst this
          rw [hs] at h2; rw [he] at h1
          cases b with
          | true =>
            simp only [Option.some.injEq] at h1 h2
            exact .inr ⟨i, d, m.val, h1.symm, h2.symm, hm0.2⟩
          | false => exact findNow_ok hk es ms (i + 1) r r' hm' h1 h2
theorem findAsking_ok (hT : TOK P T) {kt : TypeId} {k : D} {vk : Value} (hk : VR S k vk) : ∀ (es : List (D × D)) (ms : List MapEntry) (i : Nat) (r : Option (Nat × D)), MR S es ms → findD T kt k es i = some r →
    ∃ r', (Instr.findAsking kt vk ms i).run P w = .ok r' w ∧ ((r = none ∧ r' = none) ∨ ∃ j d v, r = some (j, d) ∧ r' = some (j, v) ∧ VR S d v)
  | [], ms, i, r, hm, h1 => by
    have : ms = [] := List.eq_nil_of_length_eq_zero hm.1.symm
    subst this
    simp only [findD, Option.some.injEq] at h1
    exact ⟨none, by simp [Instr.findAsking], .inl ⟨h1.symm, rfl⟩⟩
  | (k', d) :: es, ms, i, r, hm, h1 => by
    cases ms with
    | nil => exact absurd hm.1 (by simp)
    | cons m ms =>
      have hm0 := hm.2 0 (k', d) m rfl rfl
      have hm' : MR S es ms := ⟨by simpa using hm.1, fun j e m' he hm' => hm.2 (j + 1) e m' (by simpa using he) (by simpa using hm')⟩
      simp only [findD] at h1
      simp only [Instr.findAsking, Sem.run_bind]
      cases he : eqD T eqDepth kt k k' with
      | none => rw [he] at h1; cases h1
      | some b =>
        have hq : (Op.equal kt vk m.key).run P w = .ok b w := eqD_sound hT w eqDepth kt k k' b vk m.key _ he hk hm0.1 (by decide)
        rw [he] at h1
        rw [hq]
        simp only [Result.andThen_ok]
        cases b with
        | true =>
          simp only [Option.some.injEq] at h1
          exact ⟨some (i, m.val), by simp, .inr ⟨i, d, m.val, h1.symm, rfl, hm0.2⟩⟩
        | false =>
          simp only [Bool.false_eq_true, if_false]
          exact findAsking_ok hT hk es ms (i + 1) r hm' h1
theorem findKey_ok (hT : TOK P T) {kt : TypeId} (hok : T.ok kt = true) {k : D} {vk : Value} (hk : VR S k vk) {es : List (D × D)} {ms : List MapEntry} {r : Option (Nat × D)} (hm : MR S es ms) (h1 : findD T kt k es 0 = some r) :
    ∃ r', (Instr.findKey kt vk ms).run P w = .ok r' w ∧ ((r = none ∧ r' = none) ∨ ∃ j d v, r = some (j, d) ∧ r' = some (j, v) ∧ VR S d v) := by
  have hu := run_und hT hok w
  simp only [Instr.findKey, Sem.run_bind, hu, Result.andThen_ok]
  cases hn : Instr.findNow (T.desc kt) vk ms 0 with
  | some r' => exact ⟨r', by simp, findNow_ok hk es ms 0 r r' hm h1 hn⟩
  | none =>
    simp only
    exact findAsking_ok hT hk es ms 0 r hm h1
theorem run_getObj_map {r : Nat} {ens : Array MapEntry} {ck : Nat} (hh : w.heap[r]? = some (.map ens ck)) : (getObj r).run P w = .ok (.map ens ck) w := by
  simp [getObj, Sem.run, hh]
theorem sim_lookup (hT : TOK P T) (hr : HR S h w) {t : TypeId} {m k : D} {ok : Bool} {vm vk : Value} (hm : VR S m vm) (hk : VR S k vk) (he : lookupD T h.blk t m k ok = some e) :
    OpSim P S h w s e (do pure (Next.value (← Instr.lookup t vm vk ok))) := by
  unfold lookupD at he
  split at he
  case h_1 => cases he
  rename_i kt et hmo
  obtain ⟨hu, hkok, heok⟩ := mapOf_spec hT hmo w
  split at he
  case isFalse => cases he
  rename_i hkey
  have hkey' : eqD T eqDepth kt k k = some true := by simpa [keyOk] using hkey
  have hck : ∀ em, (Instr.checkKey em 10000 kt vk).run P w = .ok () w := fun em => checkKey_ok hT em eqDepth kt k vk 10000 hkey' hk (by decide)
  obtain ⟨z, hz1, hz2⟩ := run_zero hT heok w
  have hz3 : VR S (T.zero et) z := hz2.of_none
  split at he
  · cases hm
    have hf : (Instr.findKey kt vk []).run P w = .ok none w := by
      simp [Instr.findKey, run_und hT hkok, Instr.findNow]
    cases he
    cases ok with
    | true => exact opSim_pureVal hr (v := .tuple #[z, .bool false]) (by simp [Instr.lookup, hu, hck, hf, hz1]) (.tup (.cons hz3 (.cons (.bool _) .nil))) rfl
    | false => exact opSim_pureVal hr (v := z) (by simp [Instr.lookup, hu, hck, hf, hz1]) hz3 rfl
  · rename_i b
    split at he
    case h_2 => cases he
    rename_i es hb
    obtain ⟨r, ens, ck, h1, h2, h3⟩ := hr.map b es hb
    cases hm with
    | mp hφ =>
      rw [h1] at hφ; cases hφ
      split at he
      · rename_i j v hfd
        obtain ⟨r', g1, g2⟩ := findKey_ok hT hkok (w := w) hk h3 hfd
        rcases g2 with ⟨g2, _⟩ | ⟨j', d, u, g2, rfl, g3⟩
        · cases g2
        · cases g2
          cases he
          cases ok with
          | true => exact opSim_pureVal hr (v := .tuple #[u, .bool true]) (by simp [Instr.lookup, hu, run_getObj_map h2, hck, g1]) (.tup (.cons g3 (.cons (.bool _) .nil))) rfl
          | false => exact opSim_pureVal hr (v := u) (by simp [Instr.lookup, hu, run_getObj_map h2, hck, g1]) g3 rfl
      · rename_i hfd
        obtain ⟨r', g1, g2⟩ := findKey_ok hT hkok (w := w) hk h3 hfd
        rcases g2 with ⟨_, rfl⟩ | ⟨j', d, u, g2, _, _⟩
        · cases he
          cases ok with
          | true => exact opSim_pureVal hr (v := .tuple #[z, .bool false]) (by simp [Instr.lookup, hu, run_getObj_map h2, hck, g1, hz1]) (.tup (.cons hz3 (.cons (.bool _) .nil))) rfl
          | false => exact opSim_pureVal hr (v := z) (by simp [Instr.lookup, hu, run_getObj_map h2, hck, g1, hz1]) hz3 rfl
        · cases g2
      · cases he
  · cases he
theorem run_setObj_map {r : Nat} {ens : Array MapEntry} {ck : Nat} {o : Obj} (hh : w.heap[r]? = some (.map ens ck)) : (setObj r o).run P w = .ok () (w.engObj r o) := by
  simp [setObj, Sem.run, hh, World.engObj]
theorem findD_bound {kt : TypeId} {k : D} : ∀ (es : List (D × D)) (i j : Nat) (d : D), findD T kt k es i = some (some (j, d)) → i ≤ j ∧ j < i + es.length ∧ eqD T eqDepth kt k ((es.map (·.1)).getD (j - i) .undef) = some true
  | [], i, j, d, h => by simp [findD] at h
  | (k', d') :: es, i, j, d, h => by
    simp only [findD] at h
    split at h
    · rename_i he; cases h; simp [he]
    · obtain ⟨h1, h2, h3⟩ := findD_bound es (i + 1) j d h
      refine ⟨by omega, by simp; omega, ?_⟩
      have : j - i = (j - (i + 1)) + 1 := by omega
      rw [this]; simpa using h3
    · cases h
theorem sim_update (hT : TOK P T) (hr : HR S h w) {t : TypeId} {m k x : D} {vm vk vx : Value} (hm : VR S m vm) (hk : VR S k vk) (hx : VR S x vx) (he : updateD T h.blk t m k x = some e) :
    OpSim P S h w s e (do Instr.mapUpdate t vm vk vx; pure Next.skip) := by
  unfold updateD at he
  split at he
  case h_1 => cases he
  rename_i kt et hmo
  obtain ⟨hu, hkok, heok⟩ := mapOf_spec hT hmo w
  split at he
  case isFalse => cases he
  rename_i hkey
  have hkey' : eqD T eqDepth kt k k = some true := by simpa [keyOk] using hkey
  have hck : ∀ em, (Instr.checkKey em 10000 kt vk).run P w = .ok () w := fun em => checkKey_ok hT em eqDepth kt k vk 10000 hkey' hk (by decide)
  split at he
  case h_2 => cases he
  rename_i b
  split at he
  case h_2 => cases he
  rename_i es hb
  obtain ⟨r, ens, ck, h1, h2, h3⟩ := hr.map b es hb
  have hbody : (h.blk b).body = true := by rw [hb]; rfl
  cases hm with
  | mp hφ =>
    rw [h1] at hφ; cases hφ
    have fin : ∀ (es' : List (D × D)) (ens' : Array MapEntry) (ck' : Nat), MR S es' ens'.toList → (Instr.mapUpdate t (.map (some r.rb)) vk vx).run P w = .ok () (w.engObj r.rb (.map ens' ck')) →
        OpSim P S h w s { v := .undef, wr := [(b, .map es')], rd := [b] } (do Instr.mapUpdate t (.map (some r.rb)) vk vx; pure Next.skip) := by
      intro es' ens' ck' hmr hrun
      obtain ⟨k1, k2⟩ := hr.setBody (k := .map es') (o := .map ens' ck') hbody h1 (size_of_some h2) (fun _ => rfl) (by rw [h2]; exact fun _ => rfl) (by
        refine ⟨fun e ys hk => ?_, fun es hk => ?_, fun l hk => ?_, fun hk => ?_, fun r' _ hr' o => ?_, fun _ _ hk => by simp at hk⟩
        · simp at hk
        · simp at hk; subst hk
          exact ⟨r, ens', ck', h1, heap_engObj_same (size_of_some h2), hmr⟩
        · simp at hk
        · simp at hk
        · exact hr.disI b r' hbody hr' o) (by simp)
      exact ⟨.skip, _, S, by simp only [Sem.run_bind, hrun, Result.andThen_ok, Sem.run_pure], ⟨undef, .inr ⟨rfl, rfl⟩, .undef⟩, k2, k1, fun _ _ => ⟨rfl, rfl⟩⟩
    split at he
    · rename_i j v hfd
      split at he
      case h_2 => cases he
      rename_i ke hke
      split at he
      case isFalse => cases he
      rename_i hsame
      cases he
      obtain ⟨r', g1, g2⟩ := findKey_ok hT hkok (w := w) hk h3 hfd
      rcases g2 with ⟨g2, _⟩ | ⟨j', d, u, g2, rfl, g3⟩
      · cases g2
      · cases g2
        have hj : j < es.length := by
          rcases Nat.lt_or_ge j es.length with h | h
          · exact h
          · rw [List.getElem?_eq_none h] at hke; cases hke
        have hjm : j < ens.size := by (have h9 : es.length = ens.size := by simpa using h3.1); omega
        have hmj : ens.toList[j]? = some ens[j] := by rw [Array.getElem?_toList]; exact Array.getElem?_eq_getElem hjm
        obtain ⟨hkv, _⟩ := h3.2 j ke ens[j] hke hmj
        have hsb := sameBits_self eqDepth _ _ _ _ hsame hk hkv 10000 (by decide)
        have hsame' : sameD eqDepth ke.1 k = true := by
          have := sameD_eq _ _ _ hsame
          rw [← this] at hsame ⊢
          exact hsame
        have hsb' := sameBits_self eqDepth _ _ _ _ hsame' hkv hk 10000 (by decide)
        refine fin _ (ens.modify j fun e => { e with key := vk, val := vx }) ck ?_ ?_
        · refine ⟨by simp; simpa using h3.1, fun i e' m he' hm' => ?_⟩
          rw [Array.toList_modify] at hm'
          by_cases hij : i = j
          · subst hij
            rw [List.getElem?_set_self hj] at he'; cases he'
            rw [List.getElem?_modify_eq, hmj] at hm'
            simp at hm'; subst hm'
            exact ⟨hk, hx⟩
          · rw [List.getElem?_set_ne (Ne.symm hij)] at he'
            rw [List.getElem?_modify] at hm'
            simp only [if_neg (Ne.symm hij)] at hm'
            have hm' : ens.toList[i]? = some m := by simpa using hm'
            exact h3.2 i e' m he' hm'
        · have hkey2 : ((ens[j]?).map (·.key)).getD vk = ens[j].key := by rw [Array.getElem?_eq_getElem hjm]; rfl
          simp only [Instr.mapUpdate, Sem.run_bind, hu, Result.andThen_ok, run_getObj_map h2, hck, g1, hkey2, Instr.keyThatStays, hsb', if_true, Sem.run_pure, run_setObj_map h2]
    · rename_i hfd
      cases he
      obtain ⟨r', g1, g2⟩ := findKey_ok hT hkok (w := w) hk h3 hfd
      rcases g2 with ⟨_, rfl⟩ | ⟨j', d, u, g2, _, _⟩
      · refine fin _ (ens.push { key := vk, val := vx, born := ck }) (ck + 1) ?_ ?_
        · refine ⟨by simp; simpa using h3.1, fun i e' m he' hm' => ?_⟩
          rw [Array.toList_push] at hm'
          have hl := h3.1
          by_cases hi : i < es.length
          · rw [List.getElem?_append_left hi] at he'
            rw [List.getElem?_append_left (by omega)] at hm'
            exact h3.2 i e' m he' hm'
          · rw [List.getElem?_append_right (by omega)] at he'
            rw [List.getElem?_append_right (by omega), ← hl] at hm'
            cases hii : i - es.length with
            | zero => rw [hii] at he' hm'; simp at he' hm'; subst he'; subst hm'; exact ⟨hk, hx⟩
            | succ q => rw [hii] at he'; simp at he'
        · simp only [Instr.mapUpdate, Sem.run_bind, hu, Result.andThen_ok, run_getObj_map h2, hck, g1, run_setObj_map h2]
      · cases g2
    · cases he
end
end Go.Eng
