/- An executor for the machine of one goroutine: abstract states, and the step on them. What it answers is held against the machine in the texts behind this one. -/
import Derived.Calls
import Derived.Defers
import Derived.Orders
import Derived.Laws.Sem
noncomputable section
namespace Go.Ex

/-! tries: maps keyed by numbers -/
inductive T (α : Type) where
  | e : T α
  | n (l : T α) (v : Option α) (r : T α) : T α

def T.getI {α : Type} : T α → Nat → Option α
  | .e, _ => none
  | .n _ v _, 0 => v
  | .n l _ r, j + 1 => if j % 2 = 1 then l.getI (j / 2) else r.getI (j / 2)

/-- What stands at a key: 0 at the root, else by the bits of the number below it. -/
def T.get {α : Type} (t : T α) : Nat → Option α :=
  T.rec (motive := fun _ => Nat → Option α) (fun _ => none)
    (fun _ v _ gl gr k => Nat.rec (motive := fun _ => Option α) v
      (fun j _ => Bool.rec (motive := fun _ => Option α) (gr (Nat.div j (nat_lit 2))) (gl (Nat.div j (nat_lit 2))) (Nat.beq (Nat.mod j (nat_lit 2)) (nat_lit 1))) k) t

def T.putI {α : Type} (v : Option α) : Nat → T α → Nat → T α
  | 0, t, _ => t
  | f + 1, t, k =>
    match k, t with
    | 0, .e => .n .e v .e
    | 0, .n l _ r => .n l v r
    | j + 1, .e => if j % 2 = 1 then .n (T.putI v f .e (j / 2)) none .e else .n .e none (T.putI v f .e (j / 2))
    | j + 1, .n l w r => if j % 2 = 1 then .n (T.putI v f l (j / 2)) w r else .n l w (T.putI v f r (j / 2))

def T.put {α : Type} (v : Option α) : Nat → T α → Nat → T α :=
  Nat.rec (motive := fun _ => T α → Nat → T α) (fun t _ => t)
    (fun _ ih t k =>
      T.rec (motive := fun _ => T α)
        (Nat.rec (motive := fun _ => T α) (.n .e v .e)
          (fun j _ => Bool.rec (motive := fun _ => T α) (.n .e none (ih .e (Nat.div j (nat_lit 2)))) (.n (ih .e (Nat.div j (nat_lit 2))) none .e) (Nat.beq (Nat.mod j (nat_lit 2)) (nat_lit 1))) k)
        (fun l w r _ _ => Nat.rec (motive := fun _ => T α) (.n l v r)
          (fun j _ => Bool.rec (motive := fun _ => T α) (.n l w (ih r (Nat.div j (nat_lit 2)))) (.n (ih l (Nat.div j (nat_lit 2))) w r) (Nat.beq (Nat.mod j (nat_lit 2)) (nat_lit 1))) k)
        t)

/-- The greatest key that may be put, and the fuel for it. -/
def top : Nat := 1000000
def T.set {α : Type} (t : T α) (k : Nat) (v : α) : T α := T.put (some v) (nat_lit 24) t k
def T.del {α : Type} (t : T α) (k : Nat) : T α := T.put none (nat_lit 24) t k

/-! values: a value of which nothing is known; marks of capacities -/
def poison : Value := .float .f32 0
/-- From here on a capacity says: not known; so much above it is the size of an element. -/
def capU : Nat := 2 ^ 63
/-- A slice without elements of which no more is known than that it is not nil. -/
def capE : Nat := 2 ^ 64

inductive AObj where
  | cells (c : List Value) (elem : TypeId)
  | map (es : List MapEntry) (clock : Nat)
  | loop (st : LoopState) (pending : Option Code) (fn : FuncId) (n : Nat) (tm : T Value) (params : Array Tmp) (assign body : Code) (defers : Nat)
  | defd (ds : Option (List Deferred))

structure AH where
  next : Nat
  m : T AObj

inductive AItem where
  | it (i : Item)
  /-- a region in the order of the text: all of it, and what is left -/
  | reg (ops rest : List Oper)
  | dphase (ops : List Oper) (t0 : T Value) (prev : Option Nat) (rest : List Nat)
  | dchain (ops : List Oper) (t0 : T Value) (prev : Option Nat) (rest : List Nat)

/-- What stays of a frame from step to step. -/
structure Fx where
  fn : FuncId
  n : Nat
  defers : List Deferred
  kind : CallKind
  roundOf : Option Nat

structure AFr where
  fx : Fx
  tm : T Value
  todo : List AItem
  mode : FrameMode

structure AM where
  h : AH
  fr : AFr
  cs : List AFr

/-- What the step is told beside the state: the program, how many global variables there are, and from which block on it may write. -/
structure Env where
  P : Program
  gl : Nat
  base : Nat
  fn : T Func
  inf : T TypeInfo
  und : T TypeDesc
  ext : T (Array Value → Sem Value)

inductive ARes where
  | fail
  | val (v : Value) (H : AH)
  | skip (H : AH)
  | enter (f : FuncId) (args : List Value) (H : AH)
  | round (l : Nat) (f : FuncId) (n : Nat) (tm : T Value) (assign body : Code) (H : AH)
  | defer (d : Deferred) (H : AH)
  | recover (H : AH)
  | panic (v : Value) (H : AH)

/-- A value without places: the same on both sides. -/
def plainV : Value → Bool
  | .bool _ | .int .. | .string _ | .pointer none | .slice none 0 0 | .map none | .nilFunc | .nilIface => true
  | .func (.func _) f c => f.isEmpty && c.isEmpty
  | _ => false

def plain1 : Value → Bool
  | .agg cs => cs.toList.all plainV
  | .iface _ v => plainV v
  | .tuple cs => cs.toList.all plainV
  | v => plainV v

/-- A constant of the text: itself, if it is plain. -/
def konst (v : Value) : Value := match plain1 v with | true => v | false => poison

def tget (t : T Value) (k : Nat) : Value := match t.get k with | some v => v | none => undef

/-- A read of an operand, made ready. -/
structure OpdF where
  g : (Nat → Value) → Value

def opdF (E : Env) : Operand → OpdF
  | .tmp k => ⟨fun r => r k⟩
  | .const v => ⟨fun _ => konst v⟩
  | .global g => match Nat.ble E.gl g with | true => ⟨fun _ => poison⟩ | false => ⟨fun _ => .pointer (some ⟨g, 0, none⟩)⟩
  | .func f => ⟨fun _ => .func (.func f) #[] #[]⟩

def ev (E : Env) (x : Operand) (r : Nat → Value) : Value := (opdF E x).g r

def getAllI {α : Type} : List α → Nat → Option α
  | [], _ => none
  | x :: _, 0 => some x
  | _ :: xs, k + 1 => getAllI xs k

def getAll {α : Type} (l : List α) : Nat → Option α :=
  List.rec (motive := fun _ => Nat → Option α) (fun _ => none) (fun x _ ih k => Nat.rec (motive := fun _ => Option α) (some x) (fun j _ => ih j) k) l

def setAllI {α : Type} : List α → Nat → α → List α
  | [], _, _ => []
  | _ :: xs, 0, v => v :: xs
  | x :: xs, k + 1, v => x :: setAllI xs k v

def setAll {α : Type} (l : List α) : Nat → α → List α :=
  List.rec (motive := fun _ => Nat → α → List α) (fun _ _ => []) (fun x xs ih k v => Nat.rec (motive := fun _ => List α) (v :: xs) (fun j _ => x :: ih j v) k) l

/-- n cells from k on. -/
def cut {α : Type} : List α → Nat → Nat → Option (List α)
  | xs, k, n => match Nat.ble (k + n) xs.length with | true => some ((xs.drop k).take n) | false => none

/-- cells put over those from k on. -/
def over {α : Type} : List α → Nat → List α → List α
  | xs, _, [] => xs
  | xs, k, v :: vs => over (setAll xs k v) (k + 1) vs

def aggT (E : Env) (t : TypeId) : Option Bool :=
  match E.und.get t with
  | some (.struct _) | some (.array _ _) => some true
  | some _ => some false
  | none => none
def sizT (E : Env) (t : TypeId) : Option Nat := match E.inf.get t with | some i => some i.size | none => none
def zerT (E : Env) (t : TypeId) : Option Value := match E.inf.get t with | some i => i.zero | none => none

/-- The zero value of a type, if it is plain. -/
def zeroP (E : Env) (t : TypeId) : Option Value :=
  match zerT E t with
  | some z => match plain1 z with | true => some z | false => none
  | none => none

/-- May a value be one cell's? -/
def cellV : Value → Bool
  | .agg _ | .tuple _ | .float .. | .complex .. => false
  | _ => true

/-- A new block. -/
def alloc (H : AH) (o : AObj) : Option (Nat × AH) :=
  match Nat.ble H.next 100000 with
  | true => some (H.next, { next := H.next + 1, m := H.m.set H.next o })
  | false => none

def allocCells (H : AH) (elem : TypeId) (cs : List Value) : Option (Addr × AH) :=
  match alloc H (.cells cs elem) with
  | some (b, H') => some (⟨b, 0, none⟩, H')
  | none => none

def loadAt (E : Env) (H : AH) (t : TypeId) : Value → Option Value
  | .pointer (some ⟨b, o, none⟩) =>
    match H.m.get b with
    | some (.cells c _) =>
      match aggT E t with
      | some true => match sizT E t with
        | some n => match cut c o n with | some vs => some (.agg vs.toArray) | none => none
        | none => none
      | some false => getAll c o
      | none => none
    | _ => none
  | _ => none

/-- Cells stored into a block that may be written. -/
def putCells (E : Env) (H : AH) (b o : Nat) (vs : List Value) : Option AH :=
  match Nat.ble E.base b && vs.all cellV with
  | true =>
    match H.m.get b with
    | some (.cells c e) =>
      match Nat.ble (o + vs.length) c.length && Nat.ble b 100000 with
      | true => some { H with m := H.m.set b (.cells (over c o vs) e) }
      | false => none
    | _ => none
  | false => none

def storeAt (E : Env) (H : AH) (t : TypeId) (a v : Value) : Option AH :=
  match a with
  | .pointer (some ⟨b, o, none⟩) =>
    match v with
    | .float .. => none
    | _ =>
      let vs := v.cells.toList
      match sizT E t with
      | some n => match Nat.beq vs.length n with | true => putCells E H b o vs | false => none
      | none => none
  | _ => none

/-- What a part of a world that hangs on no memory comes to. -/
def pureRun {α : Type} (P : Program) : Sem α → Option α
  | .pure a => some a
  | .mark _ k => pureRun P k
  | .program k => pureRun P (k P)
  | _ => none

/-- fill, on lists. -/
def fillL (place : Nat → Option (Nat × Nat)) : List Value → List (Nat × Value) → Option (List Value)
  | cells, [] => some cells
  | cells, (i, v) :: rest =>
    match place i with
    | none => none
    | some (off, size) =>
      match v with
      | .float .. => none
      | _ =>
        let vs := v.cells.toList
        match Nat.beq vs.length size && Nat.ble (off + size) cells.length with
        | true => fillL place (over cells off vs) rest
        | false => none

def fieldPlaces (E : Env) (fs : Array Field) : List (Option (Nat × Nat)) :=
  fs.toList.map fun f => match sizT E f.type with | some n => some (f.offset, n) | none => none

def buildV (E : Env) (t : TypeId) (parts : List (Nat × Value)) : Option Value :=
  match zeroP E t with
  | some z =>
    match E.und.get t with
    | some (.struct fields) =>
      let pl := fieldPlaces E fields
      match pl.all Option.isSome with
      | true => match fillL (fun i => (getAll pl i).join) z.cells.toList parts with
        | some cs => some (.agg cs.toArray)
        | none => none
      | false => none
    | some (.array _ elem) =>
      match sizT E elem with
      | some n => match fillL (fun i => some (i * n, n)) z.cells.toList parts with
        | some cs => some (.agg cs.toArray)
        | none => none
      | none => none
    | _ => none
  | none => none

def zeros (z : List Value) : Nat → List Value
  | 0 => []
  | n + 1 => z ++ zeros z n

def buildSliceV (E : Env) (H : AH) (t : TypeId) (len : Nat) (parts : List (Nat × Value)) : Option (Value × AH) :=
  match E.und.get t with
  | some (.slice elem) =>
    match sizT E elem, zeroP E elem with
    | some n, some z =>
      match Nat.ble (len * n) 10000 && Nat.beq z.cells.toList.length n && Nat.ble 1 n with
      | true =>
        match fillL (fun i => some (i * n, n)) (zeros z.cells.toList len) parts with
        | some cs => match allocCells H elem cs with
          | some (a, H') => some (.slice (some a) len len, H')
          | none => none
        | none => none
      | false => none
    | _, _ => none
  | _ => none

def addO (a : Addr) (n : Nat) : Addr := ⟨a.block, a.off + n, none⟩

def fieldA (E : Env) (s : TypeId) (a : Value) (f : Nat) : Option Value :=
  match a with
  | .pointer (some ⟨b, o, none⟩) =>
    match E.und.get s with
    | some (.struct fields) =>
      match getAll fields.toList f with
      | some fd => match sizT E fd.type with
        | some n => match Nat.beq n 0 with | true => none | false => some (.pointer (some ⟨b, o + fd.offset, none⟩))
        | none => none
      | none => none
    | _ => none
  | _ => none

def partL (E : Env) (t : TypeId) (cs : List Value) (off : Nat) : Option Value :=
  match aggT E t with
  | some true => match sizT E t with
    | some n => match cut cs off n with | some vs => some (.agg vs.toArray) | none => none
    | none => none
  | some false => getAll cs off
  | none => none

def fieldV (E : Env) (t : TypeId) (x : Value) (f : Nat) : Option Value :=
  match x with
  | .agg cs =>
    match E.und.get t with
    | some (.struct fields) =>
      match getAll fields.toList f with
      | some fd => partL E fd.type cs.toList fd.offset
      | none => none
    | _ => none
  | _ => none

/-- A place's number that lies in a range. -/
def within (i : Int) (n : Nat) : Option Nat :=
  match i with
  | .ofNat k => match Nat.ble n k with | true => none | false => some k
  | .negSucc _ => none

def indexA (E : Env) (t : TypeId) (x i : Value) : Option Value :=
  match i with
  | .int _ i =>
    match E.und.get t, x with
    | some (.array len elem), .pointer (some ⟨b, o, none⟩) =>
      match within i len, sizT E elem with
      | some k, some n => some (.pointer (some ⟨b, o + k * n, none⟩))
      | _, _ => none
    | some (.slice elem), .slice (some ⟨b, o, none⟩) len _ =>
      match within i len, sizT E elem with
      | some k, some n => some (.pointer (some ⟨b, o + k * n, none⟩))
      | _, _ => none
    | _, _ => none
  | _ => none

def indexV (E : Env) (t : TypeId) (x i : Value) : Option Value :=
  match i with
  | .int _ i =>
    match E.und.get t, x with
    | some (.array len elem), .agg cs =>
      match within i len, sizT E elem with
      | some k, some n => partL E elem cs.toList (k * n)
      | _, _ => none
    | some .string, .string s =>
      match within i s.size with
      | some k => match s.data.toList[k]? with | some b => some (.int .u8 b.toNat) | none => none
      | none => none
    | _, _ => none
  | _ => none

def bound (v : Option Value) (dflt : Nat) (most : Nat) : Option Nat :=
  match v with
  | none => some dflt
  | some (.int _ i) => within i (most + 1)
  | some _ => none

/-- Slices of slices and of arrays: the bounds; of a capacity that is not known no more than the length is used. -/
def sliceV (E : Env) (t : TypeId) (x : Value) (lo hi mx : Option Value) : Option Value :=
  match E.und.get t, x with
  | some .string, .string s =>
    match mx with
    | some _ => none
    | none => match bound hi s.size s.size with
      | some h => match bound lo 0 h with
        | some l => some (.string (s.extract l h))
        | none => none
      | none => none
  | some (.slice elem), .slice (some ⟨b, o, none⟩) len cap =>
    match sizT E elem with
    | none => none
    | some n =>
      match Nat.ble capU cap with
      | false =>
        match bound mx cap cap with
        | none => none
        | some m => match (match hi with | none => (match mx with | none => some len | some _ => none) | some _ => bound hi len m) with
          | none => none
          | some h => match bound lo 0 h with
            | none => none
            | some l => some (.slice (some (match Nat.beq m l with | true => ⟨b, o, none⟩ | false => ⟨b, o + l * n, none⟩)) (h - l) (m - l))
      | true =>
        match mx with
        | some _ => none
        | none =>
          match Nat.beq cap (capU + n) with
          | false => none
          | true =>
            match bound hi len len with
            | none => none
            | some h => match bound lo 0 h with
              | none => none
              | some l => match Nat.beq l 0 with
                | true => some (.slice (some ⟨b, o, none⟩) h cap)
                | false => match Nat.ble len l with
                  | true => some (.slice none 0 capE)
                  | false => some (.slice (some ⟨b, o + l * n, none⟩) (h - l) cap)
  | some (.slice elem), .slice none 0 0 =>
    match sizT E elem with
    | none => none
    | some _ =>
    match bound mx 0 0 with
    | none => none
    | some m => match (match hi with | none => (match mx with | none => some 0 | some _ => none) | some _ => bound hi 0 m) with
      | none => none
      | some h => match bound lo 0 h with | none => none | some _ => some (.slice none 0 0)
  | some (.array len elem), .pointer (some ⟨b, o, none⟩) =>
    match mx, sizT E elem, Nat.ble len 1000000 with
    | none, some n, true =>
      match bound hi len len with
      | none => none
      | some h => match bound lo 0 h with
        | none => none
        | some l => some (.slice (some (match Nat.beq len l with | true => ⟨b, o, none⟩ | false => ⟨b, o + l * n, none⟩)) (h - l) (len - l))
    | _, _, _ => none
  | _, _ => none

/-- The entry of a key among entries with plain keys. -/
def plainKeys (es : List MapEntry) : Bool := es.all fun e => plain1 e.key

/-- Keys that are found by their value alone. -/
def keyOk (kd : TypeDesc) (k : Value) : Bool :=
  match kd, k with
  | .int _, .int .. => true
  | .string, .string _ => true
  | _, _ => false

/-- The entries of a map with plain keys. -/
def entriesOf (H : AH) (x : Value) : Option (Nat × List MapEntry × Nat) :=
  match x with
  | .map (some r) => match H.m.get r with
    | some (.map es clock) => match plainKeys es with | true => some (r, es, clock) | false => none
    | _ => none
  | _ => none

def lookE (E : Env) (elem : TypeId) (ok : Bool) (res : Option (Option (Nat × Value))) : Option Value :=
  match res with
  | some (some (_, v)) => some (match ok with | true => .tuple #[v, .bool true] | false => v)
  | some none => match zeroP E elem with
    | some z => some (match ok with | true => .tuple #[z, .bool false] | false => z)
    | none => none
  | none => none

def lookK (E : Env) (H : AH) (kd : TypeDesc) (elem : TypeId) (x k : Value) (ok : Bool) : Option Value :=
  match keyOk kd k, entriesOf H x with
  | true, some (_, es, _) => lookE E elem ok (Instr.findNow kd k es 0)
  | _, _ => none

def lookupV (E : Env) (H : AH) (t : TypeId) (x k : Value) (ok : Bool) : Option Value :=
  match E.und.get t with
  | some (.map key elem) => match E.und.get key with
    | some kd => lookK E H kd elem x k ok
    | none => none
  | _ => none

def putE (H : AH) (r : Nat) (es : List MapEntry) (clock : Nat) (k v : Value) (res : Option (Option (Nat × Value))) : Option AH :=
  match res with
  | some (some (i, _)) => match getAll es i with
    | some e => some { H with m := H.m.set r (.map (setAll es i { key := k, val := v, born := e.born }) clock) }
    | none => none
  | some none => some { H with m := H.m.set r (.map (es ++ [{ key := k, val := v, born := clock }]) (clock + 1)) }
  | none => none

def putK (E : Env) (H : AH) (kd : TypeDesc) (m k v : Value) : Option AH :=
  match keyOk kd k, entriesOf H m with
  | true, some (r, es, clock) => match Nat.ble E.base r && Nat.ble r 100000 with
    | true => putE H r es clock k v (Instr.findNow kd k es 0)
    | false => none
  | _, _ => none

def mapPut (E : Env) (H : AH) (t : TypeId) (m k v : Value) : Option AH :=
  match E.und.get t with
  | some (.map key _) => match E.und.get key with
    | some kd => putK E H kd m k v
    | none => none
  | _ => none

def vals (v : Value) (n : Nat) (H : AH) : Option (List Value) :=
  match v with
  | .slice none _ _ => match Nat.beq n 0 with | true => some [] | false => none
  | .slice (some ⟨b, o, none⟩) _ _ =>
    match H.m.get b with
    | some (.cells c _) => cut c o n
    | _ => none
  | _ => none

/-- What is appended, and how many. -/
def appNew (H : AH) (size : Nat) (x : Value) : Option (List Value × Nat) :=
  match x with
  | .slice a n c => match vals (.slice a n c) (n * size) H with | some vs => some (vs, n) | none => none
  | .string str => match Nat.beq size 1 with
    | true => some (str.data.toList.map fun b => .int .u8 b.toNat, str.size)
    | false => none
  | _ => none

def appGrow (H : AH) (elem size : Nat) (cs : List Value) (need : Nat) : Option (Value × AH) :=
  match allocCells H elem cs with
  | some (a, H') => some (.slice (some a) need (capU + size), H')
  | none => none

/-- A known capacity: in its place, or in a new row. -/
def appExact (E : Env) (H : AH) (elem size b o len cap : Nat) (vs : List Value) (n : Nat) : Option (Value × AH) :=
  match Nat.ble (len + n) cap with
  | true => match putCells E H b (o + len * size) vs with
    | some H' => some (.slice (some ⟨b, o, none⟩) (len + n) cap, H')
    | none => none
  | false => match vals (.slice (some ⟨b, o, none⟩) len cap) (len * size) H with
    | some old => appGrow H elem size (old ++ vs) (len + n)
    | none => none

/-- A capacity that is not known: the old block is given up. -/
def appMove (E : Env) (H : AH) (elem size b o len cap : Nat) (vs : List Value) (n : Nat) : Option (Value × AH) :=
  match Nat.beq cap (capU + size) && Nat.ble E.base b && Nat.ble b 100000 with
  | false => none
  | true => match H.m.get b with
    | some (.cells c e) => match Nat.beq e elem with
      | false => none
      | true => match cut c o (len * size) with
        | some old => appGrow { H with m := H.m.del b } elem size (old ++ vs) (len + n)
        | none => none
    | _ => none

def appTo (E : Env) (H : AH) (elem size : Nat) (base : Option Addr) (len cap : Nat) (vs : List Value) (n : Nat) : Option (Value × AH) :=
  match base with
  | none => match Nat.beq len 0 && Nat.beq cap 0 with
    | true => appGrow H elem size vs n
    | false => none
  | some ⟨b, o, none⟩ => match Nat.ble capU cap with
    | false => appExact E H elem size b o len cap vs n
    | true => appMove E H elem size b o len cap vs n
  | some ⟨_, _, some _⟩ => none

def appOk (info : TypeInfo) : Bool :=
  Nat.ble info.bytes 4096 && Nat.ble 1 info.size && (match info.zero with | some z => Nat.beq z.cells.toList.length info.size | none => false)

def appendT (E : Env) (H : AH) (elem : Nat) (info : TypeInfo) (s x : Value) : Option (Value × AH) :=
  match appOk info, appNew H info.size x, s with
  | true, some (vs, n), .slice base len cap =>
    match Nat.beq n 0 with
    | true => match Nat.ble len cap with | true => some (.slice base len cap, H) | false => none
    | false => match Nat.ble (len + n) 1000000 && vs.all cellV with
      | true => appTo E H elem info.size base len cap vs n
      | false => none
  | _, _, _ => none

def notInt : TypeDesc → Bool
  | .int _ => false
  | _ => true

/-- append: on a slice with room, in its place; else in a new block: where the room is not known the old block is given up. -/
def appendV (E : Env) (H : AH) (argTypes : Array TypeId) (s x : Value) : Option (Value × AH) :=
  match argTypes.toList with
  | st :: xt :: _ =>
    match E.und.get st, E.und.get xt with
    | some (.slice elem), some xd =>
      match notInt xd, E.inf.get elem with
      | true, some info => appendT E H elem info s x
      | _, _ => none
    | _, _ => none
  | _ => none

def makeSliceV (E : Env) (H : AH) (t : TypeId) (l c : Value) : Option (Value × AH) :=
  match E.und.get t, l, c with
  | some (.slice elem), .int _ (.ofNat l), .int _ (.ofNat c) =>
    match E.inf.get elem with
    | none => none
    | some info =>
      match info.zero with
      | some z =>
        match plain1 z && Nat.ble l c && Nat.ble c 100000 && Nat.ble info.bytes 4096 && Nat.ble 1 info.size && Nat.beq z.cells.toList.length info.size with
        | true => match allocCells H elem (zeros z.cells.toList c) with
          | some (a, H') => some (.slice (some a) l c, H')
          | none => none
        | false => none
      | none => none
  | _, _, _ => none

end Go.Ex
