/- The executor's step: operations, calls, the unwinding, regions that draw their order. -/
import Derived.Test.YtpnfkkoflppkhaaGreatDoorExDefs
noncomputable section
namespace Go.Ex

def isPoison : Value → Bool
  | .float .. => true
  | _ => false

/-- The dynamic type's method: found without a way through embedded fields. -/
def methodV (E : Env) (t : TypeId) (v : Value) (name : String) : Option (FuncId × Value) :=
  match E.inf.get t with
  | some info =>
    match info.methods.find? (·.name == name) with
    | some m =>
      match m.path.isEmpty, m.func with
      | true, some (f, true) =>
        match E.und.get t with
        | some (.pointer _) => some (f, v)
        | _ => none
      | true, some (f, false) =>
        match E.und.get t with
        | some (.pointer _) => none
        | some _ => some (f, v)
        | none => none
      | _, _ => none
    | none => none
  | none => none

def val (v : Option Value) (H : AH) : ARes :=
  match v with | some v => .val v H | none => .fail
/-- A value that is the same on both sides. -/
def valP (v : Option Value) (H : AH) : ARes :=
  match v with | some v => (match plain1 v with | true => .val v H | false => .fail) | none => .fail
def valH (v : Option (Value × AH)) : ARes :=
  match v with | some (v, H) => .val v H | none => .fail
def doneH (v : Option AH) : ARes :=
  match v with | some H => .skip H | none => .fail

def callF (E : Env) (H : AH) (f : FuncId) (args : List Value) : ARes :=
  match E.fn.get f with
  | none => .fail
  | some fn =>
    match fn.body with
    | some _ => .enter f args H
    | none =>
      match args.all plainV with
      | false => .fail
      | true =>
        match E.ext.get f with
        | none => .fail
        | some e => valP (pureRun E.P (e args.toArray)) H

def yieldF (H : AH) (l : Nat) (args : List Value) : ARes :=
  match H.m.get l with
  | some (.loop _ _ fn n tm params assign body _) =>
    match Nat.beq args.length params.size && params.toList.all (fun t => Nat.blt t n && Nat.ble n 100000) with
    | true => .round l fn n ((params.toList.zip args).foldl (fun tm (t, a) => tm.set t a) tm) assign body H
    | false => .fail
  | _ => .fail

def invokeF (E : Env) (H : AH) (fn : Fn) (captured args : List Value) : ARes :=
  match fn with
  | .func f => callF E H f (args ++ captured)
  | .method name =>
    match args with
    | .iface t v :: rest => match methodV E t v name with
      | some (f, r) => callF E H f (r :: rest)
      | none => .fail
    | _ => .fail
  | .methodOf t name =>
    match args with
    | x :: rest =>
      match E.und.get t with
      | some (.interface _) => .fail
      | some _ => match isPoison x with
        | true => .fail
        | false => match methodV E t x name with
          | some (f, r) => callF E H f (r :: rest)
          | none => .fail
      | none => .fail
    | _ => .fail
  | .yield l => yieldF H l args
  | .via .. => .fail

def callV (E : Env) (H : AH) (f : Value) (args : List Value) : ARes :=
  match f with
  | .func fn first captured => invokeF E H fn captured.toList (first.toList ++ args)
  | _ => .fail

def lenV (E : Env) (H : AH) (argTypes : Array TypeId) (x : Value) : Option Value :=
  match argTypes.toList with
  | t :: _ =>
    match E.und.get t, x with
    | some .string, .string s => some (.int .i64 s.size)
    | some (.array n _), _ => some (.int .i64 n)
    | some (.slice _), .slice _ n _ => some (.int .i64 n)
    | some (.map _ _), .map none => some (.int .i64 0)
    | some (.map _ _), .map (some r) => match H.m.get r with | some (.map es _) => some (.int .i64 es.length) | _ => none
    | _, _ => none
  | _ => none

def builtinF (E : Env) (H : AH) (b : Builtin) (argTypes : Array TypeId) (type : TypeId) (args : List Value) : ARes :=
  match b with
  | .len => match args with | x :: _ => val (lenV E H argTypes x) H | _ => .fail
  | .append => match args with | s :: x :: _ => valH (appendV E H argTypes s x) | _ => .fail
  | .max => match args.all plainV with
    | true => valP (pureRun E.P (Builtin.max_ argTypes type args.toArray)) H
    | false => .fail
  | .min => match args.all plainV with
    | true => valP (pureRun E.P (Builtin.min_ argTypes type args.toArray)) H
    | false => .fail
  | .panic => match args with | .iface t v :: _ => .panic (.iface t v) H | _ => .fail
  | .recover => .recover H
  | _ => .fail

def isIface : TypeDesc → Bool
  | .interface _ => true
  | _ => false

def assertV (E : Env) (x : Value) (asserted : TypeId) (ok : Bool) : Option Value :=
  match x with
  | .nilIface => match ok, zeroP E asserted with
    | true, some z => some (.tuple #[z, .bool false])
    | _, _ => none
  | .iface t v => match Nat.beq t asserted with
    | true => some (match ok with | true => .tuple #[v, .bool true] | false => v)
    | false => match ok, zeroP E asserted with
      | true, some z => some (.tuple #[z, .bool false])
      | _, _ => none
  | _ => none

def typeAssertV (E : Env) (x : Value) (asserted : TypeId) (ok : Bool) : Option Value :=
  match E.und.get asserted with
  | none => none
  | some d => match isIface d with
    | true => none
    | false => assertV E x asserted ok

def strOf (c : Array Value) : Sem Value := do
  let mut s := ByteArray.empty
  for c in c do
    let .int .u8 n := c | stuck "bytesToString: byte expected"
    s := s.push (UInt8.ofNat n.toNat)
  pure (.string s)

def bytesStr (E : Env) (H : AH) (x : Value) : Option Value :=
  match x with
  | .slice none _ _ => some (.string .empty)
  | .slice (some _) n _ =>
    match vals x (n * 1) H with
    | some vs => match vs.all plainV, pureRun E.P (strOf vs.toArray) with
      | true, some (.string s) => some (.string s)
      | _, _ => none
    | none => none
  | _ => none

def strBytes (E : Env) (H : AH) (e : TypeId) (s : ByteArray) : Option (Value × AH) :=
  match E.und.get e, sizT E e with
  | some (.int .u8), some 1 => match Nat.ble s.size 1000000 with
    | true => match allocCells H e (s.data.toList.map fun b => .int .u8 b.toNat) with
      | some (a, H') => some (.slice (some a) s.size (capU + 1), H')
      | none => none
    | false => none
  | _, _ => none

def sameBytes (E : Env) (H : AH) (src dst e : TypeId) (b o len cap : Nat) : Option (Value × AH) :=
  match Nat.beq src dst && Nat.ble E.base b, E.und.get e with
  | true, some (.int .u8) => some (.slice (some ⟨b, o, none⟩) len cap, H)
  | _, _ => none

def bytesV (E : Env) (H : AH) (e : TypeId) (x : Value) : Option (Value × AH) :=
  match E.und.get e with
  | some (.int .u8) => match bytesStr E H x with | some v => some (v, H) | none => none
  | _ => none

def convT (E : Env) (H : AH) (src dst : TypeId) (sd dd : TypeDesc) (x : Value) : Option (Value × AH) :=
  match dd with
  | .int k => match x with
    | .int _ n => some (.int k (k.wrap n), H)
    | _ => none
  | .string => match x with
    | .string s => some (.string s, H)
    | .slice a b c => match sd with
      | .slice e => bytesV E H e (.slice a b c)
      | _ => none
    | _ => none
  | .slice e => match x with
    | .string s => strBytes E H e s
    | .slice (some ⟨b, o, none⟩) len cap => match sd with
      | .slice _ => sameBytes E H src dst e b o len cap
      | _ => none
    | _ => none
  | _ => none

def convV (E : Env) (H : AH) (src dst : TypeId) (x : Value) : Option (Value × AH) :=
  match E.und.get src, E.und.get dst with
  | some sd, some dd => convT E H src dst sd dd x
  | _, _ => none

def targetF (E : Env) (r : Nat → Value) (c : Call) (type : TypeId) : Option Deferred :=
  let args := c.args.map (ev E · r)
  match c.callee with
  | .builtin b => some { target := .builtin b c.argTypes type (c.args.map fun | .const _ => true | _ => false), args }
  | .invoke recv name => some { target := .fn (.method name) #[], args := #[ev E recv r] ++ args }
  | .value f => match ev E f r with
    | .func fn first captured => some { target := .fn fn captured, args := first ++ args }
    | _ => none

def aPick (c a b : Value) (H : AH) : ARes :=
  match c with
  | .bool true => .val a H
  | .bool false => .val b H
  | _ => .fail

def ptrH (r : Option (Addr × AH)) : ARes :=
  match r with
  | some (a, H') => .val (.pointer (some a)) H'
  | none => .fail

def aAlloc (E : Env) (H : AH) (elem : TypeId) : ARes :=
  match zeroP E elem with
  | some z => ptrH (allocCells H elem z.cells.toList)
  | none => .fail

def aBox (H : AH) (elem : TypeId) (x : Value) : ARes :=
  match isPoison x with
  | true => .fail
  | false => ptrH (allocCells H elem x.cells.toList)

def aNilCheck (x : Value) (H : AH) : ARes :=
  match x with
  | .pointer (some a) => .val (.pointer (some a)) H
  | .iface t v => .val (.iface t v) H
  | .func (.func f) a b => .val (.func (.func f) a b) H
  | .slice a b c => .val (.slice a b c) H
  | .string s => .val (.string s) H
  | _ => .fail

/-- Surely not equal: one of the two is nil. -/
def eqNilV (d : TypeDesc) (a b : Value) : Bool :=
  match d, a, b with
  | .pointer _, .pointer (some _), .pointer none => true
  | .pointer _, .pointer none, .pointer (some _) => true
  | .slice _, .slice (some _) _ _, .slice none 0 0 => true
  | .slice _, .slice none 0 0, .slice (some _) _ _ => true
  | .map _ _, .map (some _), .map none => true
  | .map _ _, .map none, .map (some _) => true
  | .func .., .func .., .nilFunc => true
  | .func .., .nilFunc, .func .. => true
  | .interface _, .iface .., .nilIface => true
  | .interface _, .nilIface, .iface .. => true
  | _, _, _ => false

def intCmpV (op : BinOp) (a b : Int) : Option Value :=
  match op with
  | .eql => some (.bool (a == b))
  | .neq => some (.bool (a != b))
  | .lss => some (.bool (a < b))
  | .leq => some (.bool (a ≤ b))
  | .gtr => some (.bool (a > b))
  | .geq => some (.bool (a ≥ b))
  | _ => none

def intV (op : BinOp) (k : IntKind) (a b : Int) : Option Value :=
  match op with
  | .add => some (.int k (k.wrap (a + b)))
  | .sub => some (.int k (k.wrap (a - b)))
  | .mul => some (.int k (k.wrap (a * b)))
  | op => intCmpV op a b

def binPlain (E : Env) (op : BinOp) (t : TypeId) (x y : Operand) (a b : Value) : Option Value :=
  pureRun E.P (do eqGuard op t x y a b; Go.binOp op t a b)

def binNil (E : Env) (op : BinOp) (t : TypeId) (a b : Value) (H : AH) : ARes :=
  match E.und.get t with
  | some d => match eqNilV d a b, op with
    | true, .eql => .val (.bool false) H
    | true, .neq => .val (.bool true) H
    | _, _ => .fail
  | none => .fail

def sameK (k l : IntKind) : Bool :=
  match k, l with
  | .i8, .i8 | .i16, .i16 | .i32, .i32 | .i64, .i64 | .u8, .u8 | .u16, .u16 | .u32, .u32 | .u64, .u64 => true
  | _, _ => false

def binSlow (E : Env) (op : BinOp) (t : TypeId) (x y : Operand) (a b : Value) (H : AH) : ARes :=
  match plain1 a && plain1 b with
  | true => valP (binPlain E op t x y a b) H
  | false => binNil E op t a b H

def binInts (E : Env) (op : BinOp) (t : TypeId) (x y : Operand) (k l : IntKind) (a b : Int) (H : AH) : ARes :=
  match sameK k l with
  | true => match intV op k a b with
    | some v => .val v H
    | none => binSlow E op t x y (.int k a) (.int l b) H
  | false => binSlow E op t x y (.int k a) (.int l b) H

def aBin (E : Env) (op : BinOp) (t : TypeId) (x y : Operand) (a b : Value) (H : AH) : ARes :=
  match a with
  | .int k m => match b with
    | .int l n => binInts E op t x y k l m n H
    | b => binSlow E op t x y (.int k m) b H
  | a => binSlow E op t x y a b H

def aUn (E : Env) (op : UnOp) (x : Value) (H : AH) : ARes :=
  match plain1 x with
  | true => valP (pureRun E.P (Op.unary op x)) H
  | false => .fail

def aIface (E : Env) (t : TypeId) (x : Value) (H : AH) : ARes :=
  match E.und.get t with
  | some (.interface _) => .fail
  | some _ => .val (.iface t x) H
  | none => .fail

def aFunc (E : Env) (r : Nat → Value) (fn : Fn) (first captured : Array Operand) (H : AH) : ARes :=
  match fn with
  | .yield _ => .fail
  | fn => .val (.func fn (first.map (ev E · r)) (captured.map (ev E · r))) H

def aMap (H : AH) (r : Option Operand) : ARes :=
  match r with
  | none => match alloc H (.map [] 0) with
    | some (b, H') => .val (.map (some b)) H'
    | none => .fail
  | some _ => .fail

def aExtract (x : Value) (i : Nat) (H : AH) : ARes :=
  match x with
  | .tuple vs => val (getAll vs.toList i) H
  | _ => .fail

def runT (E : Env) (H : AH) (t : Target) (args : List Value) : ARes :=
  match t with
  | .fn fn captured => invokeF E H fn captured.toList args
  | .builtin b argTypes type _ => builtinF E H b argTypes type args
  | _ => .fail

def aCall (E : Env) (r : Nat → Value) (c : Call) (t : TypeId) (H : AH) : ARes :=
  match targetF E r c t with
  | some d => runT E H d.target d.args.toList
  | none => .fail

def aDefer (E : Env) (r : Nat → Value) (c : Call) (t : TypeId) (H : AH) : ARes :=
  match targetF E r c t with
  | some d => .defer d H
  | none => .fail

def aPanic (x : Value) (H : AH) : ARes :=
  match x with
  | .iface t v => .panic (.iface t v) H
  | _ => .fail

def partsOf (E : Env) (r : Nat → Value) (ps : List (Nat × Operand)) : List (Nat × Value) := ps.map fun p => (p.1, ev E p.2 r)

/-- An operation, made ready. -/
structure OpF where
  f : (Nat → Value) → AH → ARes

def opF (E : Env) (o : Oper) : OpF :=
  match o.op with
  | .move x => ⟨fun r H => .val (ev E x r) H⟩
  | .assign x => ⟨fun r H => .val (ev E x r) H⟩
  | .pick c a b => ⟨fun r H => aPick (ev E c r) (ev E a r) (ev E b r) H⟩
  | .alloc elem => ⟨fun _ H => aAlloc E H elem⟩
  | .box elem x => ⟨fun r H => aBox H elem (ev E x r)⟩
  | .build t parts => ⟨fun r H => val (buildV E t (partsOf E r parts.toList)) H⟩
  | .buildSlice t len parts => ⟨fun r H => valH (buildSliceV E H t len (partsOf E r parts.toList))⟩
  | .load t a => ⟨fun r H => val (loadAt E H t (ev E a r)) H⟩
  | .store t a x => ⟨fun r H => doneH (storeAt E H t (ev E a r) (ev E x r))⟩
  | .nilCheck x => ⟨fun r H => aNilCheck (ev E x r) H⟩
  | .binOp op t x y _ => ⟨fun r H => aBin E op t x y (ev E x r) (ev E y r) H⟩
  | .unOp op _ x => ⟨fun r H => aUn E op (ev E x r) H⟩
  | .convert src dst x => ⟨fun r H => valH (convV E H src dst (ev E x r))⟩
  | .makeInterface t x => ⟨fun r H => aIface E t (ev E x r) H⟩
  | .makeFunc fn first captured => ⟨fun r H => aFunc E r fn first captured H⟩
  | .makeMap _ s => ⟨fun _ H => aMap H s⟩
  | .makeSlice t l c => ⟨fun r H => valH (makeSliceV E H t (ev E l r) (ev E c r))⟩
  | .slice t x lo hi mx => ⟨fun r H => val (sliceV E t (ev E x r) (lo.map (ev E · r)) (hi.map (ev E · r)) (mx.map (ev E · r))) H⟩
  | .fieldAddr s x f => ⟨fun r H => val (fieldA E s (ev E x r) f) H⟩
  | .field t x f => ⟨fun r H => val (fieldV E t (ev E x r) f) H⟩
  | .indexAddr t x i => ⟨fun r H => val (indexA E t (ev E x r) (ev E i r)) H⟩
  | .index t x i => ⟨fun r H => val (indexV E t (ev E x r) (ev E i r)) H⟩
  | .lookup t x k ok => ⟨fun r H => val (lookupV E H t (ev E x r) (ev E k r) ok) H⟩
  | .mapUpdate t m k x => ⟨fun r H => doneH (mapPut E H t (ev E m r) (ev E k r) (ev E x r))⟩
  | .insert t m k x => ⟨fun r H => doneH (mapPut E H t (ev E m r) (ev E k r) (ev E x r))⟩
  | .typeAssert x _ asserted ok => ⟨fun r H => val (typeAssertV E (ev E x r) asserted ok) H⟩
  | .extract t i => ⟨fun r H => aExtract (ev E t r) i H⟩
  | .call c => ⟨fun r H => aCall E r c o.type H⟩
  | .defer c => ⟨fun r H => aDefer E r c o.type H⟩
  | .panic x => ⟨fun r H => aPanic (ev E x r) H⟩
  | _ => ⟨fun _ _ => .fail⟩

/-! frames -/

def argsT : List Value → T Value → Nat → T Value
  | [], t, _ => t
  | v :: vs, t, i => argsT vs (t.set i v) (i + 1)

def enterA (E : Env) (f : FuncId) (args : List Value) (kind : CallKind) : Option AFr :=
  match E.fn.get f with
  | some fn => match fn.body with
    | some c =>
      match Nat.ble args.length fn.ntmps && Nat.ble fn.ntmps 100000 with
      | true => some ⟨⟨f, fn.ntmps, [], kind, none⟩, argsT args .e 0, [.it (.code c)], .run⟩
      | false => none
    | none => none
  | none => none

def exitA (id : Nat) : List AItem → Option (List AItem)
  | .it (.inBlock id') :: k => match Nat.beq id' id with | true => some k | false => exitA id k
  | .it (.code _) :: k | .it (.inLoop _) :: k | .it (.inScope _) :: k | .it .beginRound :: k => exitA id k
  | _ => none

/-- Are these the rest of a round's body, with no block of that name ahead? -/
def noExit (id : Nat) : List AItem → Bool
  | [] => true
  | .it (.inBlock id') :: k => !Nat.beq id' id && noExit id k
  | .it (.code _) :: k | .it (.inLoop _) :: k | .it (.inScope _) :: k | .it .beginRound :: k => noExit id k
  | _ => false

def gotoA (l : Nat) : List AItem → Option (List AItem)
  | .it (.inScope body) :: k =>
    match findLabel body l with
    | some rest => some (.it (.code rest) :: .it (.inScope body) :: k)
    | none => gotoA l k
  | .it (.code _) :: k | .it (.inLoop _) :: k | .it (.inBlock _) :: k | .it .beginRound :: k => gotoA l k
  | _ => none

def putT (n : Nat) (tm : T Value) (d : Option Tmp) (v : Value) : Option (T Value) :=
  match d with
  | none => some tm
  | some d => match Nat.blt d n && Nat.ble n 100000 with | true => some (tm.set d v) | false => none

def dstOf (ops : List Oper) (i : Nat) : Option Tmp := match getAll ops i with | some o => o.dst | none => none

/-- A value comes back to a frame. -/
def finishA (fr : AFr) (v : Value) : Option AFr :=
  match fr.mode, fr.todo with
  | .run, .reg ops (o :: rest) :: k => match putT fr.fx.n fr.tm o.dst v with
    | some tm => some ⟨fr.fx, tm, .reg ops rest :: k, .run⟩
    | none => none
  | .run, .dchain ops t0 _ (i :: rest) :: k => match putT fr.fx.n fr.tm (dstOf ops i) v with
    | some tm => some ⟨fr.fx, tm, .dphase ops t0 (some i) rest :: k, .run⟩
    | none => none
  | .run, .it (.inRangeFunc l) :: k => some ⟨fr.fx, fr.tm, .it (.endRangeFunc l) :: k, .run⟩
  | _, _ => none

def poisonAll (tm : T Value) : List Oper → T Value
  | [] => tm
  | o :: os => poisonAll (match o.dst with | some d => tm.set d poison | none => tm) os

/-- A panic in a frame. -/
def raiseA (fr : AFr) (chain : List PanicEntry) : AFr :=
  ⟨fr.fx, (match fr.todo with
    | .dchain ops _ _ _ :: _ => poisonAll fr.tm ops
    | .dphase ops _ _ _ :: _ => poisonAll fr.tm ops
    | _ => fr.tm), [], match fr.mode with | .panicking old => .panicking (chain ++ old) | _ => .panicking chain⟩

/-! regions that draw their order -/

def isMov (o : Oper) : Bool :=
  match o.op with
  | .move _ | .assign _ | .pick .. | .alloc _ | .build .. | .load .. | .nilCheck _ | .binOp .. | .unOp .. | .convert .. | .makeInterface .. | .makeFunc ..
  | .slice .. | .fieldAddr .. | .field .. | .indexAddr .. | .index .. | .lookup .. | .typeAssert .. | .extract .. => true
  | .call c => match c.callee with | .builtin .len | .builtin .max | .builtin .min => true | _ => false
  | _ => false

def mask (acc : List Nat) (o : Oper) : Nat :=
  o.after.toList.foldl (fun s e => match Region.binds .any e with | true => s ||| 2 ^ e.on ||| (getAll acc e.on).getD 0 | false => s) 0

def masksGo : List Oper → List Nat → List Nat
  | [], acc => acc
  | o :: os, acc => masksGo os (acc ++ [mask acc o])

/-- Of each operation: which ones stand ahead of it in every order, as bits. -/
def masks (ops : List Oper) : List Nat := masksGo ops []

def pre (ms : List Nat) (j i : Nat) : Bool := match getAll ms i with | some m => Nat.testBit m j | none => false

/-- The operation that writes a slot. -/
def writerGo (t : Tmp) : List Oper → Nat → Option Nat
  | [], _ => none
  | o :: os, i => match (match o.dst with | some d => Nat.beq d t | none => false) with | true => some i | false => writerGo t os (i + 1)

def writer (ops : List Oper) (t : Tmp) : Option Nat := writerGo t ops 0

/-- Where operation i of such a region reads a slot, whatever the order: behind its writer, ahead of it, or not known. -/
inductive Side where
  | old | new | lost

def side (ops : List Oper) (ms : List Nat) (i : Nat) (t : Tmp) : Side :=
  match writer ops t with
  | none => .old
  | some j => match pre ms j i with
    | true => .new
    | false => match Nat.beq i j || pre ms i j with
      | true => .old
      | false => .lost

def rhoT (ops : List Oper) (ms : List Nat) (i : Nat) (t0 tm : T Value) (t : Tmp) : Value :=
  match side ops ms i t with
  | .old => tget t0 t
  | .new => tget tm t
  | .lost => poison

/-- Is an operation wanted? none: not known. -/
def wantR (ops : List Oper) (n : Nat) (r : Nat → Value) (o : Oper) : Option Bool :=
  match o.guard with
  | none => some true
  | some (j, want) =>
    match dstOf ops j with
    | some d => match Nat.blt d n, r d with
      | true, .bool b => some (b == want)
      | true, .tuple _ => some false
      | _, _ => none
    | none => some false

def chainOf : List Oper → Nat → List Nat
  | [], _ => []
  | o :: os, i => match isMov o with | true => chainOf os (i + 1) | false => i :: chainOf os (i + 1)

def movOf : List Oper → Nat → List Nat
  | [], _ => []
  | o :: os, i => match isMov o with | true => i :: movOf os (i + 1) | false => movOf os (i + 1)

def linked (ms : List Nat) : List Nat → Bool
  | i :: j :: rest => pre ms i j && linked ms (j :: rest)
  | _ => true

def distinct : List (Option Tmp) → Bool
  | [] => true
  | none :: ds => distinct ds
  | some d :: ds => !ds.any (fun x => match x with | some e => Nat.beq d e | none => false) && distinct ds

def backward : List Oper → Nat → Bool
  | [], _ => true
  | o :: os, i => o.after.toList.all (fun e => match Region.binds .any e with | true => Nat.blt e.on i | false => true) && backward os (i + 1)

/-- What is asked of such a region once. -/
def regOk (n : Nat) (ops : List Oper) : Bool :=
  backward ops 0 && distinct (ops.map (·.dst)) && linked (masks ops) (chainOf ops 0)
    && ops.all (fun o => match o.dst with | some d => Nat.blt d n | none => true) && Nat.ble n 100000

/-- May movable m be carried out between prev and next? -/
def active (ms : List Nat) (prev next : Option Nat) (m : Nat) : Bool :=
  (match next with | some c => !pre ms c m | none => true) && (match prev with | some c => !pre ms m c | none => true)

def isAlloc (o : Oper) : Option TypeId := match o.op with | .alloc e => some e | _ => none

mutual
def vbeq : Nat → Value → Value → Bool
  | 0, _, _ => false
  | f + 1, a, b =>
    match a, b with
    | .bool a, .bool b => a == b
    | .int k a, .int l b => sameK k l && (a == b)
    | .string a, .string b => a.data.toList == b.data.toList
    | .pointer none, .pointer none => true
    | .pointer (some ⟨a, b, none⟩), .pointer (some ⟨c, d, none⟩) => Nat.beq a c && Nat.beq b d
    | .slice none a b, .slice none c d => Nat.beq a c && Nat.beq b d
    | .slice (some ⟨a, b, none⟩) x y, .slice (some ⟨c, d, none⟩) z w => Nat.beq a c && Nat.beq b d && Nat.beq x z && Nat.beq y w
    | .map none, .map none => true
    | .map (some a), .map (some b) => Nat.beq a b
    | .nilFunc, .nilFunc => true
    | .nilIface, .nilIface => true
    | .func (.func g) a b, .func (.func h) c d => Nat.beq g h && vsbeq f a.toList c.toList && vsbeq f b.toList d.toList
    | .iface t v, .iface u w => Nat.beq t u && vbeq f v w
    | .agg a, .agg b => vsbeq f a.toList b.toList
    | .tuple a, .tuple b => vsbeq f a.toList b.toList
    | _, _ => false
def vsbeq : Nat → List Value → List Value → Bool
  | 0, _, _ => false
  | _ + 1, [], [] => true
  | f + 1, x :: xs, y :: ys => vbeq f x y && vsbeq f xs ys
  | _ + 1, _, _ => false
end

/-- The first pass: what is allocated whenever. -/
def pass1 (E : Env) (ops : List Oper) (act : Nat → Bool) : List Nat → T Value → AH → Option (T Value × AH)
  | [], tm, H => some (tm, H)
  | m :: rest, tm, H =>
    match getAll ops m with
    | none => none
    | some o => match act m, isAlloc o, o.dst with
      | true, some e, some d =>
        match isPoison (tget tm d) with
        | true => match zeroP E e with
          | some z => match allocCells H e z.cells.toList with
            | some (a, H') => pass1 E ops act rest (tm.set d (.pointer (some a))) H'
            | none => none
          | none => none
        | false => pass1 E ops act rest tm H
      | _, _, _ => pass1 E ops act rest tm H

/-- The second pass: a guess at all the others' values. -/
def pass2 (E : Env) (ops : List Oper) (n : Nat) (ms : List Nat) (act : Nat → Bool) (t0 : T Value) (H : AH) : List Nat → T Value → Option (T Value)
  | [], tm => some tm
  | m :: rest, tm =>
    match getAll ops m with
    | none => none
    | some o => match act m, isAlloc o, o.dst with
      | true, none, some d =>
        match isPoison (tget tm d) with
        | true => match wantR ops n (rhoT ops ms m t0 tm) o with
          | some true => match (opF E o).f (rhoT ops ms m t0 tm) H with
            | .val v _ => pass2 E ops n ms act t0 H rest (tm.set d v)
            | _ => none
          | some false => pass2 E ops n ms act t0 H rest (tm.set d undef)
          | none => none
        | false => pass2 E ops n ms act t0 H rest tm
      | _, _, _ => pass2 E ops n ms act t0 H rest tm

/-- The third pass: is it so? -/
def okMov (E : Env) (ops : List Oper) (n : Nat) (ms : List Nat) (t0 tm : T Value) (H : AH) (m : Nat) : Bool :=
  match getAll ops m with
  | none => false
  | some o =>
    match isAlloc o with
    | some e => match o.dst, o.guard with
      | some d, none => match tget tm d, zeroP E e with
        | .pointer (some ⟨b, 0, none⟩), some z => match H.m.get b with
          | some (.cells c e') => Nat.beq e' e && vsbeq 1000 c z.cells.toList
          | _ => false
        | _, _ => false
      | _, _ => false
    | none =>
      match wantR ops n (rhoT ops ms m t0 tm) o with
      | some true => match (opF E o).f (rhoT ops ms m t0 tm) H with
        | .val v H' => Nat.beq H'.next H.next && (match o.dst with | some d => vbeq 1000 v (tget tm d) | none => true)
        | _ => false
      | some false => match o.dst with | some d => vbeq 1000 undef (tget tm d) | none => true
      | none => false

def okAll (E : Env) (ops : List Oper) (n : Nat) (ms : List Nat) (act : Nat → Bool) (t0 tm : T Value) (H : AH) : List Nat → Bool
  | [] => true
  | m :: rest => (match act m with | true => okMov E ops n ms t0 tm H m | false => true) && okAll E ops n ms act t0 tm H rest

def phaseA (E : Env) (H : AH) (fx : Fx) (tm : T Value) (ops : List Oper) (t0 : T Value) (prev : Option Nat) (rest : List Nat) (k : List AItem) (cs : List AFr) : Option AM :=
  match pass1 E ops (active (masks ops) prev rest.head?) (movOf ops 0) tm H with
  | none => none
  | some (tm1, H1) =>
    match pass2 E ops fx.n (masks ops) (active (masks ops) prev rest.head?) t0 H1 (movOf ops 0) tm1 with
    | none => none
    | some tm2 =>
      match okAll E ops fx.n (masks ops) (active (masks ops) prev rest.head?) t0 tm2 H1 (movOf ops 0) with
      | true => some ⟨H1, ⟨fx, tm2, .dchain ops t0 prev rest :: k, .run⟩, cs⟩
      | false => none

/-! the step -/

def retA (H : AH) (cs : List AFr) (r : Option AFr) : Option AM := match r with | some fr => some ⟨H, fr, cs⟩ | none => none

def recoverA (fr : AFr) (cs : List AFr) (H : AH) : Option AM :=
  match fr.fx.roundOf with
  | some _ => none
  | none =>
    match fr.fx.kind, cs with
    | .deferred, c :: rest =>
      match c.mode with
      | .panicking ({ v, recovered := false, goexit := false } :: older) =>
        retA H (⟨c.fx, c.tm, c.todo, .panicking ({ v, recovered := true } :: older)⟩ :: rest) (finishA fr v)
      | _ => retA H (c :: rest) (finishA fr .nilIface)
    | .normal, cs => retA H cs (finishA fr .nilIface)
    | _, _ => none

def deferA (fr : AFr) (cs : List AFr) (d : Deferred) (H : AH) : Option AM :=
  match fr.fx.roundOf with
  | none => retA H cs (finishA ⟨⟨fr.fx.fn, fr.fx.n, d :: fr.fx.defers, fr.fx.kind, none⟩, fr.tm, fr.todo, fr.mode⟩ undef)
  | some _ => none

/-- What an operation comes to is carried out. -/
def applyA (E : Env) (fr : AFr) (cs : List AFr) (r : ARes) : Option AM :=
  match r with
  | .fail => none
  | .val v H => retA H cs (finishA fr v)
  | .skip H => retA H cs (finishA fr undef)
  | .enter f args H => retA H (fr :: cs) (enterA E f args .normal)
  | .round l f n tm assign body H =>
    some ⟨H, ⟨⟨f, n, [], .normal, some l⟩, tm, [.it (.code assign), .it .beginRound, .it (.code body)], .run⟩, fr :: cs⟩
  | .defer d H => deferA fr cs d H
  | .recover H => recoverA fr cs H
  | .panic v H => some ⟨H, raiseA fr [{ v, recovered := false }], cs⟩

def settleA (m : FrameMode) : FrameMode := settle m

def returnA (fr : AFr) (H : AH) (cs : List AFr) (v : Value) : Option AM :=
  match cs with
  | [] => none
  | c :: rest =>
    match fr.fx.kind with
    | .normal => retA H rest (finishA c v)
    | .deferred => some ⟨H, ⟨c.fx, c.tm, c.todo, settle c.mode⟩, rest⟩
    | _ => none

def resultsV (E : Env) (H : AH) (tm : T Value) : List ResultVar → Option (List Value)
  | [] => some []
  | .tmp t :: rest => match resultsV E H tm rest with | some vs => some (tget tm t :: vs) | none => none
  | .cell a t :: rest => match loadAt E H t (tget tm a) with
    | some v => match resultsV E H tm rest with | some vs => some (v :: vs) | none => none
    | none => none

def resultV (E : Env) (H : AH) (f : FuncId) (tm : T Value) : Option Value :=
  match E.fn.get f with
  | some fn => match resultsV E H tm fn.results.toList with
    | some [v] => some v
    | some vs => some (.tuple vs.toArray)
    | none => none
  | none => none

def unwindA (E : Env) (s : AM) : Option AM :=
  let fr := s.fr
  match fr.fx.defers with
  | d :: ds =>
    match d.target with
    | .collected b =>
      match s.h.m.get b with
      | some (.defd (some calls)) =>
        match Nat.ble E.base b && Nat.ble b 100000 with
        | true => some ⟨{ s.h with m := s.h.m.set b (.defd none) }, ⟨{ fr.fx with defers := calls ++ ds }, fr.tm, fr.todo, fr.mode⟩, s.cs⟩
        | false => none
      | _ => none
    | .fn fn captured =>
      match invokeF E s.h fn captured.toList d.args.toList with
      | .enter f args H => retA H (⟨{ fr.fx with defers := ds }, fr.tm, fr.todo, fr.mode⟩ :: s.cs) (enterA E f args .deferred)
      | _ => none
    | _ => none
  | [] =>
    match fr.mode with
    | .run => none
    | .panicking chain => match s.cs, E.fn.get fr.fx.fn with
      | c :: rest, some _ => some ⟨s.h, raiseA c chain, rest⟩
      | _, _ => none
    | .returning => match resultV E s.h fr.fx.fn fr.tm with
      | some v => returnA fr s.h s.cs v
      | none => none

def leaveA (E : Env) (fx : Fx) (tm : T Value) (H : AH) (cs : List AFr) (jump : Option Code) : Option AM :=
  match fx.roundOf with
  | none => match jump with
    | none => some ⟨H, ⟨fx, tm, [], .returning⟩, cs⟩
    | some .ret => some ⟨H, ⟨fx, tm, [], .returning⟩, cs⟩
    | _ => none
  | some l =>
    match H.m.get l with
    | some (.loop _ _ fn n tm' params assign body defers) =>
      match Nat.ble E.base l && Nat.ble l 100000 with
      | true => returnA ⟨fx, tm, [], .run⟩ { H with m := H.m.set l (.loop (match jump with | none => .ready | some _ => .done) jump fn n tm' params assign body defers) } cs (.bool jump.isNone)
      | false => none
    | _ => none

def goA (fx : Fx) (tm : T Value) (H : AH) (cs : List AFr) (todo : List AItem) : Option AM := some ⟨H, ⟨fx, tm, todo, .run⟩, cs⟩

/-- What a region in the order of the text comes to: its end, or an operation that does not yield at once. -/
inductive RRes where
  | done (tm : T Value) (H : AH)
  | stop (rest : List Oper) (tm : T Value) (r : ARes)

def regPut (o : Oper) (os : List Oper) (n : Nat) (tm : T Value) (v : Value) (H : AH) (next : T Value → AH → RRes) : RRes :=
  match o.dst with
  | none => next tm H
  | some d => match Nat.blt d n && Nat.ble n 100000 with | true => next (tm.set d v) H | false => .stop (o :: os) tm .fail

def regRes (o : Oper) (os : List Oper) (n : Nat) (tm : T Value) (next : T Value → AH → RRes) (r : ARes) : RRes :=
  match r with
  | .val v H => regPut o os n tm v H next
  | .skip H => regPut o os n tm undef H next
  | r => .stop (o :: os) tm r

def regOne (E : Env) (all : List Oper) (o : Oper) (os : List Oper) (n : Nat) (tm : T Value) (H : AH) (next : T Value → AH → RRes) : RRes :=
  match o.guard with
  | none => regRes o os n tm next ((opF E o).f (tget tm) H)
  | some _ => match wantR all n (tget tm) o with
    | some true => regRes o os n tm next ((opF E o).f (tget tm) H)
    | some false => regPut o os n tm undef H next
    | none => .stop (o :: os) tm .fail

def regGoI (E : Env) (all : List Oper) (n : Nat) : List Oper → T Value → AH → RRes
  | [], tm, H => .done tm H
  | o :: os, tm, H => regOne E all o os n tm H (fun tm H => regGoI E all n os tm H)

def regGo (E : Env) (all : List Oper) (n : Nat) (l : List Oper) : T Value → AH → RRes :=
  List.rec (motive := fun _ => T Value → AH → RRes) (fun tm H => .done tm H) (fun o os ih tm H => regOne E all o os n tm H ih) l

def regEnd (E : Env) (fx : Fx) (cs : List AFr) (k : List AItem) (all : List Oper) (r : RRes) : Option AM :=
  match r with
  | .done tm H => goA fx tm H cs k
  | .stop rest tm r => applyA E ⟨fx, tm, .reg all rest :: k, .run⟩ cs r

def regA (E : Env) (fx : Fx) (tm : T Value) (H : AH) (cs : List AFr) (k : List AItem) (all rest : List Oper) : Option AM :=
  regEnd E fx cs k all (regGo E all fx.n rest tm H)

def outA (E : Env) (fx : Fx) (tm : T Value) (H : AH) (cs : List AFr) (r : Option (List AItem)) (lost : Bool) (c : Code) : Option AM :=
  match r with
  | some k => goA fx tm H cs k
  | none => match fx.roundOf, lost with
    | some _, true => leaveA E fx tm H cs (some c)
    | _, _ => none

def drawA (fx : Fx) (tm : T Value) (H : AH) (cs : List AFr) (ops : List Oper) (k : List AItem) : Option AM :=
  match regOk fx.n ops with
  | true => goA fx (poisonAll tm ops) H cs (.dphase ops tm none (chainOf ops 0) :: k)
  | false => none

def rangeFuncA (E : Env) (fx : Fx) (tm : T Value) (H : AH) (cs : List AFr) (f : Operand) (params : Array Tmp) (assign body : Code) (k : List AItem) : Option AM :=
  match fx.roundOf with
  | some _ => none
  | none =>
    match alloc H (.defd (some [])) with
    | none => none
    | some (r, H1) =>
      match alloc H1 (.loop .ready none fx.fn fx.n tm params assign body r) with
      | none => none
      | some (l, H2) =>
        applyA E ⟨⟨fx.fn, fx.n, { target := .collected r, args := #[] } :: fx.defers, fx.kind, none⟩, tm, .it (.inRangeFunc l) :: k, .run⟩ cs
          (callV E H2 (ev E f (tget tm)) [.func (.yield l) #[] #[]])

/-- A piece of code, made ready. -/
structure CodeF where
  f : Fx → T Value → AH → List AFr → List AItem → Option AM

def condA (v : Value) (a b : CodeF) (fx : Fx) (tm : T Value) (H : AH) (cs : List AFr) (k : List AItem) : Option AM :=
  match v with
  | .bool true => a.f fx tm H cs k
  | .bool false => b.f fx tm H cs k
  | _ => none

def codeFI (E : Env) : Code → CodeF
  | .skip => ⟨fun fx tm H cs k => goA fx tm H cs k⟩
  | .region _ ops draw => ⟨fun fx tm H cs k => match draw with | false => regA E fx tm H cs k ops.toList ops.toList | true => drawA fx tm H cs ops.toList k⟩
  | .seq a b => ⟨fun fx tm H cs k => (codeFI E a).f fx tm H cs (.it (.code b) :: k)⟩
  | .cond c a b => ⟨fun fx tm H cs k => condA (ev E c (tget tm)) (codeFI E a) (codeFI E b) fx tm H cs k⟩
  | .block id body => ⟨fun fx tm H cs k => (codeFI E body).f fx tm H cs (.it (.inBlock id) :: k)⟩
  | .loop body => ⟨fun fx tm H cs k => (codeFI E body).f fx tm H cs (.it (.inLoop body) :: k)⟩
  | .rangeFunc f params assign body => ⟨fun fx tm H cs k => rangeFuncA E fx tm H cs f params assign body k⟩
  | .exit id => ⟨fun fx tm H cs k => outA E fx tm H cs (exitA id k) (noExit id k) (.exit id)⟩
  | .scope body => ⟨fun fx tm H cs k => (codeFI E body).f fx tm H cs (.it (.inScope body) :: k)⟩
  | .label _ => ⟨fun fx tm H cs k => goA fx tm H cs k⟩
  | .goto l => ⟨fun fx tm H cs k => outA E fx tm H cs (gotoA l k) false (.goto l)⟩
  | .ret => ⟨fun fx tm H cs _ => leaveA E fx tm H cs (some .ret)⟩
  | .refuse _ => ⟨fun _ _ _ _ _ => none⟩

def codeF (E : Env) (c : Code) : CodeF :=
  Code.rec (motive := fun _ => CodeF)
    ⟨fun fx tm H cs k => goA fx tm H cs k⟩
    (fun _ ops draw => ⟨fun fx tm H cs k => match draw with | false => regA E fx tm H cs k ops.toList ops.toList | true => drawA fx tm H cs ops.toList k⟩)
    (fun _ b iha _ => ⟨fun fx tm H cs k => iha.f fx tm H cs (.it (.code b) :: k)⟩)
    (fun c _ _ iha ihb => ⟨fun fx tm H cs k => condA (ev E c (tget tm)) iha ihb fx tm H cs k⟩)
    (fun id _ ih => ⟨fun fx tm H cs k => ih.f fx tm H cs (.it (.inBlock id) :: k)⟩)
    (fun body ih => ⟨fun fx tm H cs k => ih.f fx tm H cs (.it (.inLoop body) :: k)⟩)
    (fun f params assign body _ _ => ⟨fun fx tm H cs k => rangeFuncA E fx tm H cs f params assign body k⟩)
    (fun id => ⟨fun fx tm H cs k => outA E fx tm H cs (exitA id k) (noExit id k) (.exit id)⟩)
    (fun body ih => ⟨fun fx tm H cs k => ih.f fx tm H cs (.it (.inScope body) :: k)⟩)
    (fun _ => ⟨fun fx tm H cs k => goA fx tm H cs k⟩)
    (fun l => ⟨fun fx tm H cs k => outA E fx tm H cs (gotoA l k) false (.goto l)⟩)
    ⟨fun fx tm H cs _ => leaveA E fx tm H cs (some .ret)⟩
    (fun _ => ⟨fun _ _ _ _ _ => none⟩)
    c

def endRangeA (E : Env) (fx : Fx) (tm : T Value) (H : AH) (cs : List AFr) (l : Nat) (k : List AItem) : Option AM :=
  match H.m.get l with
  | some (.loop st pending fn n tm' params assign body defers) =>
    match Nat.ble E.base l && Nat.ble l 100000 && (match st with | .busy => false | _ => true) with
    | true => goA fx tm { H with m := H.m.set l (.loop .exhausted pending fn n tm' params assign body defers) } cs (match pending with | some c => .it (.code c) :: k | none => k)
    | false => none
  | _ => none

def beginRoundA (E : Env) (fx : Fx) (tm : T Value) (H : AH) (cs : List AFr) (k : List AItem) : Option AM :=
  match fx.roundOf with
  | none => none
  | some l =>
    match H.m.get l with
    | some (.loop .ready pending fn n tm' params assign body defers) =>
      match Nat.ble E.base l && Nat.ble l 100000 with
      | true => goA fx tm { H with m := H.m.set l (.loop .busy pending fn n tm' params assign body defers) } cs k
      | false => none
    | _ => none

def itemA (E : Env) (fx : Fx) (tm : T Value) (H : AH) (cs : List AFr) (i : Item) (k : List AItem) : Option AM :=
  match i with
  | .code c => (codeF E c).f fx tm H cs k
  | .inBlock _ => goA fx tm H cs k
  | .inLoop body => (codeF E body).f fx tm H cs (.it (.inLoop body) :: k)
  | .inScope _ => goA fx tm H cs k
  | .inRegion .. => none
  | .inRangeFunc _ => none
  | .endRangeFunc l => endRangeA E fx tm H cs l k
  | .beginRound => beginRoundA E fx tm H cs k
  | .call .. => none
  | .extern .. => none

def chainA (E : Env) (fx : Fx) (tm : T Value) (H : AH) (cs : List AFr) (ops : List Oper) (t0 : T Value) (prev : Option Nat) (rest : List Nat) (k : List AItem) : Option AM :=
  match rest with
  | [] => goA fx tm H cs k
  | i :: _ =>
    match getAll ops i with
    | none => none
    | some o => match wantR ops fx.n (rhoT ops (masks ops) i t0 tm) o with
      | some true => applyA E ⟨fx, tm, .dchain ops t0 prev rest :: k, .run⟩ cs ((opF E o).f (rhoT ops (masks ops) i t0 tm) H)
      | some false => retA H cs (finishA ⟨fx, tm, .dchain ops t0 prev rest :: k, .run⟩ undef)
      | none => none

def todoA (E : Env) (fx : Fx) (tm : T Value) (H : AH) (cs : List AFr) (todo : List AItem) : Option AM :=
  match todo with
  | [] => leaveA E fx tm H cs none
  | x :: k => match x with
    | .it i => itemA E fx tm H cs i k
    | .reg all rest => regA E fx tm H cs k all rest
    | .dphase ops t0 prev rest => phaseA E H fx tm ops t0 prev rest k cs
    | .dchain ops t0 prev rest => chainA E fx tm H cs ops t0 prev rest k

def step (E : Env) (s : AM) : Option AM :=
  match s with
  | ⟨H, ⟨fx, tm, todo, .run⟩, cs⟩ => todoA E fx tm H cs todo
  | s => unwindA E s

def runI (E : Env) : Nat → AM → Option AM
  | 0, s => some s
  | n + 1, s => match step E s with | some s => runI E n s | none => none

def runNext (r : Option AM) (next : AM → Option AM) : Option AM := match r with | some s => next s | none => none

/-- n steps. -/
def run (E : Env) (n : Nat) : AM → Option AM :=
  Nat.rec (motive := fun _ => AM → Option AM) (fun s => some s) (fun _ ih s => runNext (step E s) ih) n

end Go.Ex
