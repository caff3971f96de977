/-
  THE EVALUATOR. A second way to run loaded code: over values whose memory is a small heap of numbered rows, each with a version. What a call does can so be computed by the kernel, or followed by rewriting. What it cannot decide for every answer of the tape it does not run (none). That what it tells is what the machine does is proved in the texts behind this one.
-/
import Derived.Calls
import Derived.Orders
import Derived.Recover
import Derived.RangeFuncRecord
import Derived.Below
import Derived.KernelRfl
namespace Go.Proofs.YtckcgijepiejlaaGreat.Ae
open Go
set_option linter.unusedVariables false
set_option linter.unusedSimpArgs false
set_option linter.unnecessarySimpa false
noncomputable section

/-- A value. 'ptr', 'sl': into the row of a number, as it is in a version; 'fptr', 'fsl': into memory that nobody writes any more, with the cells from there on; 'raw': a value of the machine that is handed on and not looked into. -/
inductive AV where
  | bool (b : Bool)
  | int (k : IntKind) (n : Int)
  | str (s : List UInt8)
  | nilp
  | ptr (id ver off : Nat)
  | fptr (cs : List AV)
  | gptr (g : Nat)
  | nils
  | sl (id ver off sz len : Nat) (cap : Option Nat)
  | fsl (cs : List AV) (sz len : Nat) (cap : Option Nat)
  | fn (f : Fn) (first captured : List AV)
  | nilFn
  | iface (t : TypeId) (v : AV)
  | nilIf
  | agg (cs : List AV)
  | tup (vs : List AV)
  | nilMap
  | raw (v : Value)
  deriving Inhabited

def undefA : AV := .tup []

mutual
def toAV : Value → AV
  | .bool b => .bool b
  | .int k n => .int k n
  | .string s => .str s.data.toList
  | .pointer none => .nilp
  | .slice none 0 0 => .nils
  | .nilFunc => .nilFn
  | .nilIface => .nilIf
  | .iface t v => .iface t (toAV v)
  | .map none => .nilMap
  | .agg cs => .agg (toAVa cs)
  | .tuple cs => .tup (toAVa cs)
  | v => .raw v
def toAVa : Array Value → List AV
  | ⟨l⟩ => toAVs l
def toAVs : List Value → List AV
  | [] => []
  | v :: vs => toAV v :: toAVs vs
end

/- WORKING OUT. The kernel carries along what is not worked out; so numbers are worked out before they are handed on. Each of these is 'k' of its argument. -/
def forceN {α : Sort _} (n : Nat) (k : Nat → α) : α :=
  Nat.rec (motive := fun _ => (Nat → α) → α) (fun k => k 0) (fun m _ k => k (Nat.succ m)) n k

def forceI {α : Sort _} (n : Int) (k : Int → α) : α :=
  Int.rec (motive := fun _ => (Int → α) → α) (fun m k => forceN m fun m => k (.ofNat m)) (fun m k => forceN m fun m => k (.negSucc m)) n k

def forceO {α : Sort _} (n : Option Nat) (k : Option Nat → α) : α :=
  match n with
  | none => k none
  | some m => forceN m fun m => k (some m)

def forceB {α : Sort _} (b : Bool) (k : Bool → α) : α :=
  Bool.rec (motive := fun _ => (Bool → α) → α) (fun k => k false) (fun k => k true) b k

def forceS {α : Sort _} (l : List UInt8) (k : List UInt8 → α) : α :=
  List.rec (motive := fun _ => (List UInt8 → α) → α) (fun k => k []) (fun c _ ih k => forceN c.toNat fun n => ih fun l => k (UInt8.ofNat n :: l)) l k

def forceL {β : Type} {α : Sort _} : List β → (List β → α) → α
  | [], k => k []
  | c :: l, k => forceL l fun l => k (c :: l)

/- THE HEAP -/
inductive D4 where
  | d0 | d1 | d2 | d3
  deriving DecidableEq
inductive Q4 (β : Type) where
  | mk (a b c d : β)
def d4 (n : Nat) : D4 := bif Nat.blt n 2 then (bif Nat.beq n 0 then .d0 else .d1) else bif Nat.beq n 2 then .d2 else .d3
def Q4.sel {β : Type} (t : Q4 β) (i : D4) : β :=
  Q4.rec (motive := fun _ => D4 → β) (fun a b c d i => D4.rec (motive := fun _ => β) a b c d i) t i
def Q4.put {β : Type} (t : Q4 β) (i : D4) (y : β) : Q4 β :=
  Q4.rec (motive := fun _ => D4 → β → Q4 β) (fun a b c d i y => D4.rec (motive := fun _ => β → β → β → β → β → Q4 β) (fun y _ b c d => .mk y b c d) (fun y a _ c d => .mk a y c d) (fun y a b _ d => .mk a b y d) (fun y a b c _ => .mk a b c y) i y a b c d) t i y
def forceQ {β : Type} {γ : Sort _} (t : Q4 β) (k : Q4 β → γ) : γ :=
  Q4.rec (motive := fun _ => (Q4 β → γ) → γ) (fun a b c d k => k (.mk a b c d)) t k
abbrev Pq (α : Type) := Q4 (Q4 (Q4 (Q4 (Option α))))
def z0 {α : Type} : Q4 (Option α) := .mk none none none none
def z1 {α : Type} : Q4 (Q4 (Option α)) := .mk z0 z0 z0 z0
def z2 {α : Type} : Q4 (Q4 (Q4 (Option α))) := .mk z1 z1 z1 z1
def Pq.nil {α : Type} : Pq α := .mk z2 z2 z2 z2
def Pq.at {α : Type} (t : Pq α) (n : Nat) : Option α := (((t.sel (d4 (n / 64))).sel (d4 (n / 16 % 4))).sel (d4 (n / 4 % 4))).sel (d4 (n % 4))
def Pq.put3 {α : Type} {γ : Sort _} (t : Pq α) (t1 : Q4 (Q4 (Q4 (Option α)))) (t2 : Q4 (Q4 (Option α))) (t3 : Q4 (Option α)) (i j k l : D4) (o : Option α) (f : Pq α → γ) : γ :=
  forceQ (t3.put l o) fun p3 => forceQ (t2.put k p3) fun p2 => forceQ (t1.put j p2) fun p1 => forceQ (t.put i p1) f
def Pq.set {α : Type} {γ : Sort _} (t : Pq α) (n : Nat) (o : Option α) (f : Pq α → γ) : γ :=
  forceQ (t.sel (d4 (n / 64))) fun t1 => forceQ (t1.sel (d4 (n / 16 % 4))) fun t2 => forceQ (t2.sel (d4 (n / 4 % 4))) fun t3 =>
    Pq.put3 t t1 t2 t3 (d4 (n / 64)) (d4 (n / 16 % 4)) (d4 (n / 4 % 4)) (d4 (n % 4)) o f

inductive Bt (α : Type) where
  | leaf
  | node (l : Bt α) (v : Pq α) (r : Bt α)

def Bt.left {α : Type} (t : Bt α) : Bt α := Bt.rec (motive := fun _ => Bt α) .leaf (fun l _ _ _ _ => l) t
def Bt.right {α : Type} (t : Bt α) : Bt α := Bt.rec (motive := fun _ => Bt α) .leaf (fun _ _ r _ _ => r) t
def Bt.val {α : Type} (t : Bt α) : Pq α := Bt.rec (motive := fun _ => Pq α) .nil (fun _ v _ _ _ => v) t
def forceBt {α : Type} {β : Sort _} (t : Bt α) (k : Bt α → β) : β :=
  Bt.rec (motive := fun _ => (Bt α → β) → β) (fun k => k .leaf) (fun l v r _ _ k => k (.node l v r)) t k

def Bt.getF {α : Type} (f : Nat) : Bt α → Nat → Pq α :=
  Nat.rec (motive := fun _ => Bt α → Nat → Pq α) (fun _ _ => .nil) (fun _ ih t n => bif Nat.beq n 0 then t.val else bif Nat.beq (n % 2) 1 then forceN (n / 2) (ih t.left) else forceN (n / 2 - 1) (ih t.right)) f
def Bt.get {α : Type} (t : Bt α) (n : Nat) : Pq α := Bt.getF (n + 1) t n
def Bt.setF {α : Type} (o : Pq α) (f : Nat) : Bt α → Nat → Bt α :=
  Nat.rec (motive := fun _ => Bt α → Nat → Bt α) (fun t _ => t)
    (fun _ ih t n =>
      bif Nat.beq n 0 then .node t.left o t.right
      else bif Nat.beq (n % 2) 1 then forceN (n / 2) fun m => forceBt (ih t.left m) fun l => forceBt t.right fun r => forceQ t.val fun v => .node l v r
      else forceN (n / 2 - 1) fun m => forceBt (ih t.right m) fun r => forceBt t.left fun l => forceQ t.val fun v => .node l v r) f
def Bt.set {α : Type} (t : Bt α) (n : Nat) (o : Pq α) : Bt α := Bt.setF o (n + 1) t n

inductive Tr (α : Type) where
  | mk (t : Pq α) (r : Bt α)
def Tr.leaf {α : Type} : Tr α := .mk Pq.nil .leaf
def Tr.one {α : Type} (t : Tr α) : Pq α := Tr.rec (motive := fun _ => Pq α) (fun t _ => t) t
def Tr.two {α : Type} (t : Tr α) : Bt α := Tr.rec (motive := fun _ => Bt α) (fun _ r => r) t
def forceTr {α : Type} {β : Sort _} (t : Tr α) (k : Tr α → β) : β :=
  Tr.rec (motive := fun _ => (Tr α → β) → β) (fun t r k => k (.mk t r)) t k
def Tr.get {α : Type} (t : Tr α) (n : Nat) : Option α :=
  bif Nat.blt n 256 then t.one.at n else (t.two.get (n / 256 - 1)).at (n % 256)
def Tr.set {α : Type} (t : Tr α) (n : Nat) (o : α) : Tr α :=
  bif Nat.blt n 256 then t.one.set n (some o) fun p => forceBt t.two fun r => .mk p r
  else (t.two.get (n / 256 - 1)).set (n % 256) (some o) fun p => forceBt (t.two.set (n / 256 - 1) p) fun r => forceQ t.one fun t => .mk t r

def Tr.ofListFrom {α : Type} (n : Nat) (l : List α) (t : Tr α) : Tr α :=
  List.rec (motive := fun _ => Nat → Tr α → Tr α) (fun _ t => t) (fun x _ ih n t => forceTr (t.set n x) fun t => forceN (n + 1) fun n => ih n t) l n t

/- A loop over a function: the frame's slots as it began, what a round does, and where it stands. -/
inductive LS where
  | ready
  | busy
  | ret
  | exit (id : Nat)
  | over

structure LoopA where
  tm : Tr AV
  n : Nat
  ps : List Nat
  asg : Code
  body : Code
  st : LS

structure Row where
  ver : Nat
  cs : List AV
  lp : Option LoopA

/- a row of cells, in a version -/
def Row.fits (r : Row) (ver : Nat) : Bool :=
  match r.lp with
  | none => Nat.beq r.ver ver
  | some _ => false

structure AH where
  next : Nat
  tr : Tr Row

def AH.get (h : AH) (id : Nat) : Option Row := h.tr.get id
def AH.put (h : AH) (id : Nat) (r : Row) : AH := forceTr (h.tr.set id r) fun t => ⟨h.next, t⟩
def AH.empty : AH := ⟨0, .leaf⟩

/- VALUES WORKED OUT -/
def forceC {α : Sort _} (v : AV) (k : AV → α) : α :=
  AV.rec (motive_1 := fun _ => (AV → α) → α) (motive_2 := fun _ => PUnit)
    (fun b k => forceB b fun b => k (.bool b))
    (fun kd n k => forceI n fun n => k (.int kd n))
    (fun s k => forceS s fun s => k (.str s))
    (fun k => k .nilp)
    (fun id ver off k => forceN id fun a => forceN ver fun b => forceN off fun c => k (.ptr a b c))
    (fun cs _ k => k (.fptr cs))
    (fun g k => k (.gptr g))
    (fun k => k .nils)
    (fun id ver off sz len cap k => forceN id fun a => forceN ver fun b => forceN off fun c => forceN sz fun d => forceN len fun e => forceO cap fun f => k (.sl a b c d e f))
    (fun cs sz len cap _ k => k (.fsl cs sz len cap))
    (fun f x y _ _ k => k (.fn f x y))
    (fun k => k .nilFn)
    (fun t v _ k => k (.iface t v))
    (fun k => k .nilIf)
    (fun cs _ k => k (.agg cs))
    (fun vs _ k => k (.tup vs))
    (fun k => k .nilMap)
    (fun v k => k (.raw v))
    .unit (fun _ _ _ _ => .unit) v k

def forceCs {α : Sort _} (l : List AV) (k : List AV → α) : α :=
  List.rec (motive := fun _ => (List AV → α) → α) (fun k => k []) (fun c _ ih k => forceC c fun c => ih fun l => k (c :: l)) l k

/- what a piece of code, or a call, comes to -/
inductive Out where
  | normal
  | exit (id : Nat)
  | goto (l : Nat)
  | ret
  | panic (v : AV)

inductive CR where
  | val (v : AV) (h : AH)
  | pan (v : AV) (h : AH)

abbrev Tm := Tr AV

/- where a frame stands: a call; a round of a loop over a function; a deferred call, by a caller who panics or does not -/
inductive Rc where
  | out
  | rnd
  | dfr (m : Option AV)

structure St where
  tmps : Tm
  defs : List (AV × List AV)
  h : AH
  rcv : Rc

abbrev CallF := Fn → List AV → AH → Option CR

def orUndef : Option AV → AV
  | some v => v
  | none => undefA

def Tm.val (tmps : Tm) (t : Nat) : AV := orUndef (Tr.get tmps t)

def evo (tmps : Tm) (x : Operand) : AV :=
  Operand.rec (motive := fun _ => Tm → AV) (fun t tm => tm.val t) (fun v _ => toAV v) (fun g _ => .gptr g) (fun f _ => .fn (.func f) [] []) x tmps

def evos (tmps : Tm) (l : List Operand) : List AV :=
  List.rec (motive := fun _ => List AV) [] (fun x _ ih => evo tmps x :: ih) l

def evoP (tmps : Tm) (l : List (Nat × Operand)) : List (Nat × AV) :=
  List.rec (motive := fun _ => List (Nat × AV)) [] (fun x _ ih => (x.1, evo tmps x.2) :: ih) l

section types
variable (P : Program)
def szOf (t : TypeId) : Option Nat := (P.info? t).map (·.size)
def zeroA (t : TypeId) : Option AV := ((P.info? t).bind (·.zero)).map toAV
def isAggD : Option TypeDesc → Option Bool
  | some (.struct _) | some (.array _ _) => some true
  | some _ => some false
  | none => none
def isAggT (t : TypeId) : Option Bool := isAggD (P.underlying t)
end types

def AV.cells (v : AV) : List AV :=
  match v with
  | .agg cs => cs
  | v => [v]

def AV.one (v : AV) : Bool :=
  AV.rec (motive_1 := fun _ => Bool) (motive_2 := fun _ => PUnit)
    (fun _ => true)
    (fun _ _ => true)
    (fun _ => true)
    (true)
    (fun _ _ _ => true)
    (fun _ _ => true)
    (fun _ => true)
    (true)
    (fun _ _ _ _ _ _ => true)
    (fun _ _ _ _ _ => true)
    (fun _ _ _ _ _ => true)
    (true)
    (fun _ _ _ => true)
    (true)
    (fun _ _ => false)
    (fun _ _ => false)
    (true)
    (fun v => v.oneCell')
    .unit (fun _ _ _ _ => .unit) v

def allOne (l : List AV) : Bool :=
  List.rec (motive := fun _ => Bool) true (fun v _ ih => bif v.one then ih else false) l

def appL (z l : List AV) : List AV := List.rec (motive := fun _ => List AV → List AV) (fun l => l) (fun c _ ih l => c :: ih l) z l

/- the first n of a list, if there are so many -/
def consO (c : AV) (r : Option (List AV)) : Option (List AV) :=
  Option.rec (motive := fun _ => Option (List AV)) none (fun r => some (c :: r)) r
def takeN (n : Nat) : List AV → Option (List AV) :=
  Nat.rec (motive := fun _ => List AV → Option (List AV)) (fun _ => some [])
    (fun _ ih l => List.rec (motive := fun _ => (List AV → Option (List AV)) → Option (List AV)) (fun _ => none) (fun c l _ ih => consO c (ih l)) l ih) n

def dropN (n : Nat) : List AV → List AV :=
  Nat.rec (motive := fun _ => List AV → List AV) (fun l => l) (fun _ ih l => List.rec (motive := fun _ => (List AV → List AV) → List AV) (fun _ => []) (fun _ l _ ih => ih l) l ih) n

def rdRow (ver off n : Nat) : Option Row → Option (List AV)
  | some r => bif r.fits ver then takeN n (dropN off r.cs) else none
  | none => none

def rdCells (h : AH) (n : Nat) (a : AV) : Option (List AV) :=
  match a with
  | .ptr id ver off => rdRow ver off n (h.get id)
  | .fptr cs => takeN n cs
  | _ => none

def aggO : Option (List AV) → Option AV
  | some l => some (.agg l)
  | none => none

def oneO : Option (List AV) → Option AV
  | some [c] => some c
  | _ => none

def partA (P : Program) (t : TypeId) (cs : List AV) (off : Nat) : Option AV :=
  match isAggT P t with
  | some true => match szOf P t with
    | some n => aggO (takeN n (dropN off cs))
    | none => none
  | some false => oneO (takeN 1 (dropN off cs))
  | none => none

def loadA (P : Program) (h : AH) (t : TypeId) (a : AV) : Option AV :=
  match isAggT P t with
  | some true => match szOf P t with
    | some n => aggO (rdCells h n a)
    | none => none
  | some false => oneO (rdCells h 1 a)
  | none => none

/- ys over cs from a place on -/
def over (cs ys : List AV) : Option (List AV) :=
  List.rec (motive := fun _ => List AV → Option (List AV)) (fun cs => some cs)
    (fun y _ ih cs => List.rec (motive := fun _ => AV → (List AV → Option (List AV)) → Option (List AV)) (fun _ _ => none) (fun _ cs _ y ih => consO y (ih cs)) cs y ih) ys cs

def splice (off : Nat) (ys : List AV) : List AV → Option (List AV) :=
  Nat.rec (motive := fun _ => List AV → Option (List AV)) (fun cs => over cs ys)
    (fun _ ih cs => List.rec (motive := fun _ => (List AV → Option (List AV)) → Option (List AV)) (fun _ => none) (fun c cs _ ih => consO c (ih cs)) cs ih) off

def putO (h : AH) (id ver : Nat) : Option (List AV) → Option AH
  | some cs => some (h.put id ⟨ver, cs, none⟩)
  | none => none

def wrRow (h : AH) (id ver off : Nat) (ys : List AV) : Option Row → Option AH
  | some r => bif r.fits ver then putO h id ver (splice off ys r.cs) else none
  | none => none

def wrCells (h : AH) (a : AV) (ys : List AV) : Option AH :=
  match a with
  | .ptr id ver off => bif allOne ys then wrRow h id ver off ys (h.get id) else none
  | _ => none

def storeA (P : Program) (h : AH) (t : TypeId) (a v : AV) : Option AH :=
  match szOf P t with
  | some n => bif Nat.beq v.cells.length n then wrCells h a v.cells else none
  | none => none

def addA (a : AV) (n : Nat) : Option AV :=
  match a with
  | .ptr id ver off => forceN (off + n) fun m => some (.ptr id ver m)
  | .fptr cs => some (.fptr (dropN n cs))
  | _ => none

/- a slice or a string: how many elements, the cells of the first ones -/
def lenA (x : AV) : Option Nat :=
  match x with
  | .nils => some 0
  | .sl _ _ _ _ len _ => some len
  | .fsl _ _ len _ => some len
  | .str s => some s.length
  | _ => none

def byteA (b : UInt8) : AV := forceN b.toNat fun n => .int .u8 (.ofNat n)

def bytesN (n : Nat) : List UInt8 → Option (List AV) :=
  Nat.rec (motive := fun _ => List UInt8 → Option (List AV)) (fun _ => some [])
    (fun _ ih l => match l with
      | [] => none
      | c :: l => match ih l with
        | some r => some (byteA c :: r)
        | none => none) n

def firstA (h : AH) (n sz : Nat) (x : AV) : Option (List AV) :=
  match x with
  | .nils => bif Nat.beq n 0 then some [] else none
  | .sl id ver off s _ _ => bif Nat.beq s sz then rdRow ver off (n * sz) (h.get id) else none
  | .fsl cs s _ _ => bif Nat.beq s sz then takeN (n * sz) cs else none
  | .str s => bif Nat.beq sz 1 then bytesN n s else none
  | _ => none

/- an index below a length -/
def ixA (i : Int) (len : Nat) : Option Nat :=
  match i with
  | .ofNat n => bif Nat.blt n len then some n else none
  | .negSucc _ => none

def upA (i : Int) (most : Nat) : Option Nat :=
  match i with
  | .ofNat n => bif Nat.ble n most then some n else none
  | .negSucc _ => none

def asI (v : AV) : Option Int :=
  match v with
  | .int _ i => some i
  | _ => none

def ixSl (x : AV) (i : Int) (s : Nat) : Option AV :=
  match x with
  | .sl id ver off sz len _ => bif Nat.beq s sz then (ixA i len).bind fun n => forceN (off + n * sz) fun m => some (.ptr id ver m) else none
  | .fsl cs sz len _ => bif Nat.beq s sz then (ixA i len).bind fun n => some (.fptr (dropN (n * sz) cs)) else none
  | _ => none

def indexAddrD (P : Program) (d : Option TypeDesc) (x : AV) (i : Int) : Option AV :=
  match d with
  | some (.array len e) => (ixA i len).bind fun n => (szOf P e).bind fun s => addA x (n * s)
  | some (.slice e) => (szOf P e).bind fun s => ixSl x i s
  | _ => none

def indexAddrA (P : Program) (t : TypeId) (x ix : AV) : Option AV := (asI ix).bind fun i => indexAddrD P (P.underlying t) x i

/- a bound of a slice expression: at most y; not given: d -/
def boundA (v : Option AV) (y d : Nat) : Option Nat :=
  match v with
  | none => some d
  | some v => (asI v).bind fun i => upA i y

def mkSl (id ver off sz len : Nat) (cap : Option Nat) : Option AV :=
  forceN off fun off => forceN len fun len => forceO cap fun cap => some (.sl id ver off sz len cap)

def capO (c : Option Nat) (l : Nat) : Option Nat :=
  match c with
  | some c => some (c - l)
  | none => none

/- high and max of a slice expression, where 'most' is as far as one may go -/
def highA (hi mx : Option AV) (most len : Nat) : Option (Nat × Option Nat) :=
  match mx with
  | none => (boundA hi most len).bind fun h => some (h, none)
  | some m =>
    match hi with
    | none => none
    | some hi => (boundA (some m) most 0).bind fun m => (boundA (some hi) m 0).bind fun h => some (h, some m)

def mostO (cap : Option Nat) (len : Nat) : Nat :=
  match cap with
  | some c => c
  | none => len

def sliceStr (s : List UInt8) (lo hi mx : Option AV) : Option AV :=
  match mx with
  | some _ => none
  | none => (boundA hi s.length s.length).bind fun h => (boundA lo h 0).bind fun l => forceS ((s.take h).drop l) fun s => some (.str s)

def sliceSl (s : Nat) (x : AV) (lo hi mx : Option AV) : Option AV :=
  match x with
  | .nils => (highA hi mx 0 0).bind fun hm => (boundA lo hm.1 0).bind fun _ => some .nils
  | .sl id ver off sz len cap =>
    bif Nat.beq s sz then
      (highA hi mx (mostO cap len) len).bind fun hm => (boundA lo hm.1 0).bind fun l =>
        mkSl id ver (off + l * sz) sz (hm.1 - l) (match hm.2 with | some m => some (m - l) | none => capO cap l)
    else none
  | .fsl cs sz len cap =>
    bif Nat.beq s sz then
      (highA hi mx len len).bind fun hm => (boundA lo hm.1 0).bind fun l =>
        (takeN ((hm.1 - l) * sz) (dropN (l * sz) cs)).bind fun cs => forceN (hm.1 - l) fun n => forceO (match hm.2 with | some m => some (m - l) | none => capO cap l) fun c => some (.fsl cs sz n c)
    else none
  | _ => none

def sliceD (P : Program) (d : Option TypeDesc) (x : AV) (lo hi mx : Option AV) : Option AV :=
  match d with
  | some .string => match x with | .str s => sliceStr s lo hi mx | _ => none
  | some (.array n e) =>
    match x with
    | .ptr id ver off => (szOf P e).bind fun sz => (highA hi mx n n).bind fun hm => (boundA lo hm.1 0).bind fun l =>
        mkSl id ver (off + l * sz) sz (hm.1 - l) (match hm.2 with | some m => some (m - l) | none => some (n - l))
    | _ => none
  | some (.slice e) => (szOf P e).bind fun s => sliceSl s x lo hi mx
  | _ => none

def evoO (tmps : Tm) : Option Operand → Option AV
  | some x => some (evo tmps x)
  | none => none

def sliceA (P : Program) (t : TypeId) (x : AV) (lo hi mx : Option AV) : Option AV := sliceD P (P.underlying t) x lo hi mx

/- NUMBERS -/
def kcode : IntKind → Nat
  | .i8 => 0 | .i16 => 1 | .i32 => 2 | .i64 => 3 | .u8 => 4 | .u16 => 5 | .u32 => 6 | .u64 => 7

def wrapP (k : IntKind) (m : Nat) : Int :=
  match k with
  | .i64 => bif Nat.blt m 9223372036854775808 then .ofNat m else IntKind.i64.wrap (.ofNat m)
  | .u8 => .ofNat (m % 256)
  | .u32 => .ofNat (m % 4294967296)
  | .u64 => .ofNat (m % 18446744073709551616)
  | k => k.wrap (.ofNat m)

def wrapA (k : IntKind) (n : Int) : Int :=
  match n with
  | .ofNat m => wrapP k m
  | .negSucc m => k.wrap (.negSucc m)

def rInt (k : IntKind) (n : Int) : Option AV := forceI (wrapA k n) fun n => some (.int k n)
def rBool (b : Bool) : Option AV := forceB b fun b => some (.bool b)

def ltI (a b : Int) : Bool :=
  match a, b with
  | .ofNat x, .ofNat y => Nat.blt x y
  | .ofNat _, .negSucc _ => false
  | .negSucc _, .ofNat _ => true
  | .negSucc x, .negSucc y => Nat.blt y x

def eqI (a b : Int) : Bool :=
  match a, b with
  | .ofNat x, .ofNat y => Nat.beq x y
  | .ofNat _, .negSucc _ => false
  | .negSucc _, .ofNat _ => false
  | .negSucc x, .negSucc y => Nat.beq x y

def bitsA (f : Nat → Nat → Nat) (g : (w : Nat) → BitVec w → BitVec w → BitVec w) (k : IntKind) (a b : Int) : Option AV :=
  match a with
  | .ofNat x =>
    match b with
    | .ofNat y => rInt k (.ofNat (f x y))
    | b => rInt k (.ofNat (g k.bits (BitVec.ofInt k.bits (.ofNat x)) (BitVec.ofInt k.bits b)).toNat)
  | a => rInt k (.ofNat (g k.bits (BitVec.ofInt k.bits a) (BitVec.ofInt k.bits b)).toNat)

def shlA (k : IntKind) (a : Int) (n : Nat) : Option AV :=
  match a with
  | .ofNat x => rInt k (.ofNat (Nat.shiftLeft x n))
  | a => rInt k (a * 2 ^ n)

def shrA (k : IntKind) (a : Int) (n : Nat) : Option AV :=
  match a with
  | .ofNat x => forceN (Nat.shiftRight x n) fun m => some (.int k (.ofNat m))
  | a => forceI (a.fdiv (2 ^ n)) fun m => some (.int k m)

def shiftA (left : Bool) (k : IntKind) (a b : Int) : Option AV :=
  match b with
  | .ofNat n => bif left then shlA k a (min n k.bits) else shrA k a (min n k.bits)
  | .negSucc _ => none

def quoA (k : IntKind) (a b : Int) : Option AV := bif eqI b 0 then none else rInt k (a.tdiv b)
def remA (k : IntKind) (a b : Int) : Option AV := bif eqI b 0 then none else forceI (a.tmod b) fun n => some (.int k n)

def intBinK (op : BinOp) (k : IntKind) (a b : Int) : Option AV :=
  match op with
  | .add => rInt k (a + b)
  | .sub => rInt k (a - b)
  | .mul => rInt k (a * b)
  | .quo => quoA k a b
  | .rem => remA k a b
  | .and => bitsA Nat.land (fun _ x y => x &&& y) k a b
  | .or => bitsA Nat.lor (fun _ x y => x ||| y) k a b
  | .xor => bitsA Nat.xor (fun _ x y => x ^^^ y) k a b
  | .andNot => bitsA (fun x y => Nat.xor x (Nat.land x y)) (fun _ x y => x &&& ~~~y) k a b
  | .eql => rBool (eqI a b)
  | .neq => rBool (!eqI a b)
  | .lss => rBool (ltI a b)
  | .leq => rBool (!ltI b a)
  | .gtr => rBool (ltI b a)
  | .geq => rBool (!ltI a b)
  | .shl => none
  | .shr => none

def isShift : BinOp → Option Bool
  | .shl => some true
  | .shr => some false
  | _ => none

def intBinA (op : BinOp) (k k' : IntKind) (a b : Int) : Option AV :=
  match isShift op with
  | some left => shiftA left k a b
  | none => bif Nat.beq (kcode k) (kcode k') then intBinK op k a b else none

def eqS : List UInt8 → List UInt8 → Bool
  | [], [] => true
  | a :: x, b :: y => Nat.beq a.toNat b.toNat && eqS x y
  | _, _ => false

def ltS : List UInt8 → List UInt8 → Bool
  | _, [] => false
  | [], _ :: _ => true
  | a :: x, b :: y => Nat.blt a.toNat b.toNat || (Nat.beq a.toNat b.toNat && ltS x y)

def strBinA (op : BinOp) (a b : List UInt8) : Option AV :=
  match op with
  | .add => bif Nat.blt 9223372036854775807 (a.length + b.length) then none else forceS (a ++ b) fun s => some (.str s)
  | .eql => rBool (eqS a b)
  | .neq => rBool (!eqS a b)
  | .lss => rBool (ltS a b)
  | .leq => rBool (ltS a b || eqS a b)
  | .gtr => rBool (!(ltS a b || eqS a b))
  | .geq => rBool (!ltS a b)
  | _ => none

/- == -/
def eqBoolA (x y : AV) : Option Bool :=
  match x with
  | .bool a => match y with | .bool b => some (a == b) | _ => none
  | _ => none
def eqIntA (x y : AV) : Option Bool :=
  match x with
  | .int k a => match y with | .int k' b => bif Nat.beq (kcode k) (kcode k') then some (eqI a b) else none | _ => none
  | _ => none
def eqStrA (x y : AV) : Option Bool :=
  match x with
  | .str a => match y with | .str b => some (eqS a b) | _ => none
  | _ => none
/- 0: nil; 1: not nil -/
def nilness (x : AV) : Option Nat :=
  match x with
  | .nilp => some 0
  | .ptr .. => some 1
  | .fptr _ => some 1
  | .gptr _ => some 1
  | _ => none
def nilnessS (x : AV) : Option Nat :=
  match x with
  | .nils => some 0
  | .sl .. => some 1
  | .fsl .. => some 1
  | _ => none
def nilnessF (x : AV) : Option Nat :=
  match x with
  | .nilFn => some 0
  | .fn .. => some 1
  | _ => none
/- one at least of them is nil -/
def eqNils (x y : Option Nat) : Option Bool :=
  match x, y with
  | some a, some b => bif Nat.beq a 1 && Nat.beq b 1 then none else some (Nat.beq a b)
  | _, _ => none
def eqIfA (P : Program) (ih : TypeId → AV → AV → Option Bool) (x y : AV) : Option Bool :=
  match x with
  | .nilIf => match y with | .nilIf => some true | .iface _ _ => some false | _ => none
  | .iface tx vx =>
    match y with
    | .nilIf => some false
    | .iface ty vy => bif Nat.beq tx ty then (match P.info? tx with | some i => bif i.comparable then ih tx vx vy else none | none => none) else some false
    | _ => none
  | _ => none
def eqPart (ih : TypeId → AV → AV → Option Bool) (t : TypeId) (u v : Option AV) (k : Option Bool) : Option Bool :=
  match u with
  | some u =>
    match v with
    | some v => match ih t u v with
      | some true => k
      | some false => some false
      | none => none
    | none => none
  | none => none
def eqFields (P : Program) (ih : TypeId → AV → AV → Option Bool) (xs ys : List AV) : List Field → Option Bool
  | [] => some true
  | f :: r => if f.name ≠ "_" then eqPart ih f.type (partA P f.type xs f.offset) (partA P f.type ys f.offset) (eqFields P ih xs ys r) else eqFields P ih xs ys r
def eqStructA (P : Program) (ih : TypeId → AV → AV → Option Bool) (t : TypeId) (fs : List Field) (x y : AV) : Option Bool :=
  match x with
  | .agg xs => match y with | .agg ys => bif P.stoodInHeld t then none else eqFields P ih xs ys fs | _ => none
  | _ => none

def eqD (P : Program) (ih : TypeId → AV → AV → Option Bool) (t : TypeId) (d : Option TypeDesc) (x y : AV) : Option Bool :=
  match d with
  | some .bool => eqBoolA x y
  | some (.int _) => eqIntA x y
  | some .string => eqStrA x y
  | some (.pointer _) => eqNils (nilness x) (nilness y)
  | some (.interface _) => eqIfA P ih x y
  | some (.struct fs) => eqStructA P ih t fs.toList x y
  | some (.slice _) => eqNils (nilnessS x) (nilnessS y)
  | some (.func _ _ _) => eqNils (nilnessF x) (nilnessF y)
  | _ => none

def eqA (P : Program) (d : Nat) : TypeId → AV → AV → Option Bool :=
  Nat.rec (motive := fun _ => TypeId → AV → AV → Option Bool) (fun _ _ _ => none) (fun _ ih t x y => eqD P ih t (P.underlying t) x y) d

def eqDepth : Nat := 40

def isNilIf : AV → Bool
  | .nilIf => true
  | _ => false
def isAggV : AV → Bool
  | .agg _ => true
  | _ => false

/- two nil values of an interface type, neither of them the word nil, are not told -/
def eqOpA (P : Program) (t : TypeId) (lit : Bool) (x y : AV) : Option Bool :=
  bif isNilIf x && (isNilIf y && !lit) then none
  else bif isAggV x && (isAggV y && P.eqGuardType P.depth t) then none
  else eqA P eqDepth t x y

def isLit : Operand → Bool
  | .const _ => true
  | _ => false

def boolO : Option Bool → Option AV
  | some b => rBool b
  | none => none
def notO : Option Bool → Option AV
  | some b => rBool (!b)
  | none => none

def eqBinA (P : Program) (op : BinOp) (t : TypeId) (lit : Bool) (x y : AV) : Option AV :=
  match op with
  | .eql => boolO (eqOpA P t lit x y)
  | .neq => notO (eqOpA P t lit x y)
  | _ => none

def binA (P : Program) (op : BinOp) (t : TypeId) (lit : Bool) (x y : AV) : Option AV :=
  match x with
  | .int k a => match y with | .int k' b => intBinA op k k' a b | _ => none
  | .str a => match y with | .str b => strBinA op a b | _ => none
  | x => eqBinA P op t lit x y

def unA (op : UnOp) (x : AV) : Option AV :=
  match x with
  | .int k n =>
    match op with
    | .neg => rInt k (0 - n)
    | .xor => bitsA Nat.xor (fun _ x y => x ^^^ y) k (if k.signed then -1 else k.max) n
    | _ => none
  | .bool b => match op with | .not => rBool (!b) | _ => none
  | _ => none

def byteOfA (c : AV) (r : Option (List UInt8)) : Option (List UInt8) :=
  match c with
  | .int .u8 n => match r with
    | some l => forceN n.toNat fun m => some (UInt8.ofNat m :: l)
    | none => none
  | _ => none
def bytesOfA (l : List AV) : Option (List UInt8) :=
  List.rec (motive := fun _ => Option (List UInt8)) (some []) (fun c _ ih => byteOfA c ih) l

def strO : Option (List UInt8) → Option AV
  | some s => some (.str s)
  | none => none

def bytesStr (h : AH) (x : AV) : Option AV :=
  match x with
  | .nils => some (.str [])
  | .sl id ver off sz len _ => bif Nat.beq sz 1 then strO ((rdRow ver off len (h.get id)).bind bytesOfA) else none
  | .fsl cs sz len _ => bif Nat.beq sz 1 then strO ((takeN len cs).bind bytesOfA) else none
  | _ => none

def isU8 : Option TypeDesc → Bool
  | some (.int .u8) => true
  | _ => false

/- a conversion that only computes, or only reads -/
def convD (P : Program) (h : AH) (s d : Option TypeDesc) (x : AV) : Option AV :=
  match d with
  | some (.int k) => match s with | some _ => (match x with | .int _ n => rInt k n | _ => none) | none => none
  | some .string =>
    match s with
    | some .string => (match x with | .str b => some (.str b) | _ => none)
    | some (.slice e) => bif isU8 (P.underlying e) then bytesStr h x else none
    | _ => none
  | _ => none

def convA (P : Program) (h : AH) (s d : TypeId) (x : AV) : Option AV := convD P h (P.underlying s) (P.underlying d) x

def placeParts (place : Nat → Option (Nat × Nat)) (ps : List (Nat × AV)) : List AV → Option (List AV) :=
  List.rec (motive := fun _ => List AV → Option (List AV)) (fun cs => some cs)
    (fun p _ ih cs => match place p.1 with
    | none => none
    | some (off, size) => bif Nat.beq p.2.cells.length size && allOne p.2.cells then (splice off p.2.cells cs).bind ih else none) ps

def fieldAt (P : Program) (fields : Array Field) (i : Nat) : Option (Nat × Nat) :=
  match fields[i]? with
  | some f => match szOf P f.type with
    | some n => some (f.offset, n)
    | none => none
  | none => none

def buildD (P : Program) (d : Option TypeDesc) (z : List AV) (parts : List (Nat × AV)) : Option (List AV) :=
  match d with
  | some (.struct fields) => bif fields.toList.all (fun f => (szOf P f.type).isSome) then placeParts (fieldAt P fields) parts z else none
  | some (.array _ e) => match szOf P e with
    | some s => placeParts (fun i => some (i * s, s)) parts z
    | none => none
  | _ => none

def buildA (P : Program) (t : TypeId) (parts : List (Nat × AV)) : Option AV :=
  match zeroA P t with
  | some z => aggO (buildD P (P.underlying t) z.cells parts)
  | none => none

def repCells (z : List AV) (n : Nat) : List AV := Nat.rec (motive := fun _ => List AV) [] (fun _ ih => appL z ih) n

/- a new row's cells: of a literal, of make -/
def rowOf (P : Program) (e : TypeId) (n : Nat) : Option (Nat × List AV) :=
  match szOf P e with
  | some s =>
    match zeroA P e with
    | some z => bif Nat.beq z.cells.length s && !Nat.beq s 0 then forceCs (repCells z.cells n) fun cs => some (s, cs) else none
    | none => none
  | none => none

def buildSliceD (P : Program) (d : Option TypeDesc) (len : Nat) (parts : List (Nat × AV)) : Option (Nat × List AV) :=
  match d with
  | some (.slice e) => match rowOf P e len with
    | some (s, z) => bif Nat.ble (len * s) 16777216 then (match placeParts (fun i => some (i * s, s)) parts z with | some cs => some (s, cs) | none => none) else none
    | none => none
  | _ => none

def bytesO (P : Program) (t : TypeId) : Option Nat := (P.info? t).map (·.bytes)

def makeSliceD (P : Program) (d : Option TypeDesc) (l c : Int) : Option (Nat × Nat × Nat × List AV) :=
  match d with
  | some (.slice e) =>
    match bytesO P e with
    | some b =>
      match c with
      | .ofNat c => (upA l c).bind fun l => bif Nat.ble (b * c) 140737488355328 && Nat.ble c 140737488355328 then (match rowOf P e c with | some (s, cs) => some (s, l, c, cs) | none => none) else none
      | .negSucc _ => none
    | none => none
  | _ => none

def okV (ok : Bool) (v : AV) : AV := bif ok then .tup [v, .bool true] else v

def failV (P : Program) (t : TypeId) (ok : Bool) : Option AV :=
  bif ok then (match zeroA P t with | some z => some (.tup [z, .bool false]) | none => none) else none

def typeAssertD (P : Program) (d : Option TypeDesc) (x : AV) (t : TypeId) (ok : Bool) : Option AV :=
  match d with
  | some (.interface _) => none
  | some _ =>
    match x with
    | .iface u v => bif Nat.beq u t then some (okV ok v) else failV P t ok
    | .nilIf => failV P t ok
    | _ => none
  | none => none

def intsOf : List AV → Option (List Int)
  | [] => some []
  | .int _ n :: r => match intsOf r with
    | some l => some (n :: l)
    | none => none
  | _ => none

def kindOf : List AV → Option IntKind
  | .int k _ :: _ => some k
  | _ => none

def max2A (x y : Int) : Int := bif ltI x y then y else x
def min2A (x y : Int) : Int := bif ltI y x then y else x

def foldI (f : Int → Int → Int) (xs : List AV) : Option AV :=
  match kindOf xs with
  | some k => match intsOf xs with
    | some (x :: l) => forceI (l.foldl f x) fun n => some (.int k n)
    | _ => none
  | none => none

def natA (n : Nat) : Option AV := forceN n fun n => some (.int .i64 (.ofNat n))

def lenD (P : Program) (d : Option TypeDesc) (x : AV) : Option AV :=
  match d with
  | some .string => match x with | .str s => natA s.length | _ => none
  | some (.array n _) => natA n
  | some (.pointer e) => match P.underlying e with | some (.array n _) => natA n | _ => none
  | some (.slice _) => match x with | .nils => natA 0 | .sl _ _ _ _ n _ => natA n | .fsl _ _ n _ => natA n | _ => none
  | _ => none

def capD (d : Option TypeDesc) (x : AV) : Option AV :=
  match d with
  | some (.slice _) => match x with | .nils => natA 0 | .sl _ _ _ _ _ (some n) => natA n | .fsl _ _ _ (some n) => natA n | _ => none
  | _ => none

def headT (ts : List TypeId) (k : TypeId → Option AV) : Option AV :=
  match ts with
  | t :: _ => k t
  | [] => none

def head1 {α : Type} (xs : List AV) (k : AV → Option α) : Option α :=
  match xs with
  | x :: _ => k x
  | [] => none

def builtinA (P : Program) (b : Builtin) (ts : List TypeId) (xs : List AV) : Option AV :=
  match b with
  | .len => headT ts fun t => head1 xs fun x => lenD P (P.underlying t) x
  | .cap => headT ts fun t => head1 xs fun x => capD (P.underlying t) x
  | .max => foldI max2A xs
  | .min => foldI min2A xs
  | _ => none

def pickA (c a b : AV) : Option AV :=
  match c with
  | .bool x => match x with | true => some a | false => some b
  | _ => none

def nilCheckA (x : AV) : Option AV :=
  match x with
  | .ptr id ver off => some (.ptr id ver off)
  | .fptr cs => some (.fptr cs)
  | .gptr g => some (.gptr g)
  | .fn (.func f) a b => some (.fn (.func f) a b)
  | .iface t v => some (.iface t v)
  | _ => none

def isIface : Option TypeDesc → Option Bool
  | some (.interface _) => some true
  | some _ => some false
  | none => none

def ifaceA (P : Program) (t : TypeId) (v : AV) : Option AV :=
  match isIface (P.underlying t) with
  | some false => some (.iface t v)
  | _ => none

def fieldAddrD (P : Program) (d : Option TypeDesc) (x : AV) (f : Nat) : Option AV :=
  match d with
  | some (.struct fields) => match fieldAt P fields f with
    | some (off, n) => bif Nat.beq n 0 then none else addA x off
    | none => none
  | _ => none

def fieldD (P : Program) (d : Option TypeDesc) (x : AV) (f : Nat) : Option AV :=
  match d with
  | some (.struct fields) => match fields[f]? with
    | some fd => match x with | .agg cs => partA P fd.type cs fd.offset | _ => none
    | none => none
  | _ => none

def byteO : Option UInt8 → Option AV
  | some b => some (byteA b)
  | none => none

def indexD (P : Program) (d : Option TypeDesc) (x : AV) (i : Int) : Option AV :=
  match d with
  | some (.array len e) => match x with | .agg cs => (ixA i len).bind fun n => (szOf P e).bind fun s => partA P e cs (n * s) | _ => none
  | some .string => match x with | .str s => (match i with | .ofNat n => byteO s[n]? | .negSucc _ => none) | _ => none
  | _ => none

def extractA (x : AV) (i : Nat) : Option AV :=
  match x with
  | .tup vs => vs[i]?
  | _ => none

/- What an operation yields that writes nothing and makes nothing. -/
def opReadA (P : Program) (h : AH) (tm : Tm) (o : Op) : Option AV :=
  match o with
  | .move x => some (evo tm x)
  | .assign x => some (evo tm x)
  | .pick c a b => pickA (evo tm c) (evo tm a) (evo tm b)
  | .build t parts => buildA P t (evoP tm parts.toList)
  | .load t a => loadA P h t (evo tm a)
  | .nilCheck x => nilCheckA (evo tm x)
  | .binOp op t x y _ => binA P op t (isLit x || isLit y) (evo tm x) (evo tm y)
  | .unOp op _ x => unA op (evo tm x)
  | .convert s d x => convA P h s d (evo tm x)
  | .makeInterface t x => ifaceA P t (evo tm x)
  | .makeFunc fn first cap => match fn with
    | .yield _ => none
    | fn => some (.fn fn (evos tm first.toList) (evos tm cap.toList))
  | .fieldAddr s x f => fieldAddrD P (P.underlying s) (evo tm x) f
  | .field t x f => fieldD P (P.underlying t) (evo tm x) f
  | .indexAddr t x ix => indexAddrA P t (evo tm x) (evo tm ix)
  | .index t x ix => (asI (evo tm ix)).bind fun i => indexD P (P.underlying t) (evo tm x) i
  | .slice t x lo hi mx => sliceA P t (evo tm x) (evoO tm lo) (evoO tm hi) (evoO tm mx)
  | .extract t i => extractA (evo tm t) i
  | .typeAssert x _ t ok => typeAssertD P (P.underlying t) (evo tm x) t ok
  | .call c => match c.callee with
    | .builtin b => builtinA P b c.argTypes.toList (evos tm c.args.toList)
    | _ => none
  | _ => none

def rowP (id : Nat) : Option AV → Option (AV × List AV)
  | some z => some (.ptr id 0 0, z.cells)
  | none => none

def rowS (id len : Nat) : Option (Nat × List AV) → Option (AV × List AV)
  | some (s, cs) => some (.sl id 0 0 s len (some len), cs)
  | none => none

def rowM (id : Nat) : Option (Nat × Nat × Nat × List AV) → Option (AV × List AV)
  | some (s, l, c, cs) => some (.sl id 0 0 s l (some c), cs)
  | none => none

def strRow (P : Program) (id : Nat) (s d : Option TypeDesc) (x : AV) : Option (AV × List AV) :=
  match s with
  | some _ =>
    match d with
    | some (.slice e) => bif isU8 (P.underlying e) then (match x with | .str b => (match bytesN b.length b with | some cs => forceN b.length fun n => some (.sl id 0 0 1 n none, cs) | none => none) | _ => none) else none
    | _ => none
  | none => none

/- What an operation makes that makes a row and does nothing else: its value, and the row's cells. -/
def opMakeA (P : Program) (tm : Tm) (id : Nat) (o : Op) : Option (AV × List AV) :=
  match o with
  | .alloc e => rowP id (zeroA P e)
  | .box _ v => rowP id (some (evo tm v))
  | .buildSlice t len parts => rowS id len (buildSliceD P (P.underlying t) len (evoP tm parts.toList))
  | .makeSlice t l c => (asI (evo tm l)).bind fun l => (asI (evo tm c)).bind fun c => rowM id (makeSliceD P (P.underlying t) l c)
  | .convert s d x => strRow P id (P.underlying s) (P.underlying d) (evo tm x)
  | _ => none

def isSlice : Option TypeDesc → Bool
  | some (.slice _) => true
  | _ => false

/- a new row behind an append; the old row of the number sid as it is from now on -/
def growNew (h : AH) (id sz need : Nat) (cs : List AV) : Option (AV × AH) :=
  forceCs cs fun cs => forceN need fun need => some (.sl id 0 0 sz need none, h.put id ⟨0, cs, none⟩)

def growOld (h : AH) (sid ver sz need : Nat) (cs : List AV) : Option (AV × AH) :=
  forceCs cs fun cs => forceN need fun need => forceN (ver + 1) fun v => some (.sl sid v 0 sz need none, h.put sid ⟨v, cs, none⟩)

def slO (id ver off sz need : Nat) (cap : Option Nat) : Option AH → Option (AV × AH)
  | some h => forceN need fun need => some (.sl id ver off sz need cap, h)
  | none => none

def appOpen (h : AH) (sid ver off sz len n : Nat) (ys : List AV) (r : Option Row) : Option (AV × AH) :=
  match r with
  | none => none
  | some r =>
    bif r.fits ver then
      bif Nat.ble (off + (len + n) * sz) r.cs.length then slO sid ver off sz (len + n) none (wrRow h sid ver (off + len * sz) ys (some r))
      else match takeN (len * sz) (dropN off r.cs) with
        | some xs => growOld h sid ver sz (len + n) (appL xs ys)
        | none => none
    else none

def appSl (h : AH) (id sz : Nat) (s : AV) (n : Nat) (ys : List AV) : Option (AV × AH) :=
  match s with
  | .nils => bif Nat.beq n 0 then some (.nils, h) else growNew h id sz n ys
  | .fsl cs s0 len cap =>
    bif Nat.beq s0 sz then
      bif Nat.beq n 0 then some (.fsl cs s0 len cap, h)
      else match cap with
        | none => none
        | some c => bif Nat.ble (len + n) c then none else match takeN (len * sz) cs with
          | some xs => growNew h id sz (len + n) (appL xs ys)
          | none => none
    else none
  | .sl sid ver off s0 len cap =>
    bif Nat.beq s0 sz then
      match cap with
      | some c =>
        bif Nat.ble (len + n) c then slO sid ver off sz (len + n) (some c) (wrRow h sid ver (off + len * sz) ys (h.get sid))
        else match rdRow ver off (len * sz) (h.get sid) with
          | some xs => growNew h id sz (len + n) (appL xs ys)
          | none => none
      | none => appOpen h sid ver off sz len n ys (h.get sid)
    else none
  | _ => none

def notInt : Option TypeDesc → Bool
  | some (.int _) => false
  | some _ => true
  | none => false

def appN (P : Program) (h : AH) (id : Nat) (sz bytes : Nat) (s x : AV) (n l : Nat) : Option (AV × AH) :=
  bif Nat.ble ((l + n) * (bytes + 1)) 70368744177664 && !Nat.beq sz 0 then
    match firstA h n sz x with
    | some ys => bif allOne ys then appSl h id sz s n ys else none
    | none => none
  else none

def appZ (P : Program) (h : AH) (id : Nat) (sz bytes : Nat) (s x : AV) (z : Option AV) : Option (AV × AH) :=
  match z with
  | some z => bif Nat.beq z.cells.length sz then (lenA x).bind fun n => (lenA s).bind fun l => appN P h id sz bytes s x n l else none
  | none => none

def appD (P : Program) (h : AH) (id : Nat) (d : Option TypeDesc) (s x : AV) : Option (AV × AH) :=
  match d with
  | some (.slice e) =>
    match P.info? e with
    | some i => appZ P h id i.size i.bytes s x (zeroA P e)
    | none => none
  | _ => none

def copyTo (h : AH) (sz : Nat) (d : AV) (n : Nat) (ys : List AV) : Option AH :=
  match d with
  | .nils => some h
  | .sl id ver off s0 _ _ => bif Nat.beq s0 sz && allOne ys then wrRow h id ver off ys (h.get id) else none
  | .fsl _ _ _ _ => bif Nat.beq n 0 then some h else none
  | _ => none

def copyD (P : Program) (h : AH) (d : Option TypeDesc) (x y : AV) : Option (AV × AH) :=
  match d with
  | some (.slice e) =>
    match szOf P e with
    | some sz =>
      match lenA x with
      | some dl =>
        match lenA y with
        | some yl =>
          forceN (min yl dl) fun n =>
          match firstA h n sz y with
          | some ys => match copyTo h sz x n ys with
            | some h' => some (.int .i64 (.ofNat n), h')
            | none => none
          | none => none
        | none => none
      | none => none
    | none => none
  | _ => none

def clearSl (h : AH) (id ver off len : Nat) (sz : Nat) : Option (Nat × List AV) → Option (AV × AH)
  | some (s, cs) => bif Nat.beq s sz && allOne cs then (match wrRow h id ver off cs (h.get id) with | some h' => some (undefA, h') | none => none) else none
  | none => none

def clearD (P : Program) (h : AH) (d : Option TypeDesc) (x : AV) : Option (AV × AH) :=
  match d with
  | some (.slice e) =>
    match x with
    | .nils => some (undefA, h)
    | .sl id ver off sz len _ => bif Nat.beq len 0 then some (undefA, h) else clearSl h id ver off len sz (rowOf P e len)
    | .fsl _ _ len _ => bif Nat.beq len 0 then some (undefA, h) else none
    | _ => none
  | _ => none

inductive Stp where
  | next (v : AV) (h : AH)
  | defer (d : AV × List AV)
  | pan (v : AV) (h : AH)
  | recover

def nextO : Option (AV × AH) → Option Stp
  | some (v, h) => some (.next v h)
  | none => none

def unitO : Option AH → Option Stp
  | some h => some (.next undefA h)
  | none => none

def callO : Option CR → Option Stp
  | some (.val v h) => some (.next v h)
  | some (.pan v h) => some (.pan v h)
  | none => none

def panA (x : AV) (h : AH) : Option Stp :=
  match x with
  | .iface t v => some (.pan (.iface t v) h)
  | _ => none

def callV (call : CallF) (h : AH) (f : AV) (args : List AV) : Option Stp :=
  match f with
  | .fn (.func g) first cap => callO (call (.func g) (first ++ args ++ cap) h)
  | .fn (.yield i) [] [] => callO (call (.yield i) args h)
  | _ => none

def deferV (f : AV) (args : List AV) : Option Stp :=
  match f with
  | .fn (.func g) a b => some (.defer (.fn (.func g) a b, args))
  | _ => none

def two {α : Type} (xs : List AV) (k : AV → AV → Option α) : Option α :=
  match xs with
  | x :: y :: _ => k x y
  | _ => none

def builtinW (P : Program) (h : AH) (id : Nat) (b : Builtin) (ts : List TypeId) (xs : List AV) : Option Stp :=
  match b with
  | .append =>
    match ts with
    | t :: u :: _ => bif notInt (P.underlying u) then two xs fun s x => nextO (appD P h id (P.underlying t) s x) else none
    | _ => none
  | .copy =>
    match ts with
    | t :: _ => two xs fun d x => nextO (copyD P h (P.underlying t) d x)
    | _ => none
  | .clear =>
    match ts with
    | t :: _ => head1 xs fun d => nextO (clearD P h (P.underlying t) d)
    | _ => none
  | .panic => head1 xs fun x => panA x h
  | .recover => some .recover
  | _ => none

/- What an operation does that writes, or calls. -/
def opActA (P : Program) (call : CallF) (h : AH) (tm : Tm) (id : Nat) (o : Op) : Option Stp :=
  match o with
  | .store t a x => unitO (storeA P h t (evo tm a) (evo tm x))
  | .panic x => panA (evo tm x) h
  | .defer c => match c.callee with
    | .value f => deferV (evo tm f) (evos tm c.args.toList)
    | _ => none
  | .call c => match c.callee with
    | .value f => callV call h (evo tm f) (evos tm c.args.toList)
    | .builtin b => builtinW P h id b c.argTypes.toList (evos tm c.args.toList)
    | _ => none
  | _ => none

/- 0: it reads; 1: it makes a row; 2: it acts -/
def kindB : Builtin → Nat
  | .len => 0 | .cap => 0 | .max => 0 | .min => 0
  | _ => 2

def kindA (P : Program) (o : Op) : Nat :=
  match o with
  | .alloc _ => 1
  | .box _ _ => 1
  | .buildSlice _ _ _ => 1
  | .makeSlice _ _ _ => 1
  | .convert _ d _ => bif isSlice (P.underlying d) then 1 else 0
  | .store _ _ _ => 2
  | .panic _ => 2
  | .defer _ => 2
  | .call c => match c.callee with
    | .builtin b => kindB b
    | _ => 2
  | _ => 0

def putK {α : Type} (tm : Tm) (dst : Option Tmp) (v : AV) (k : Tm → Option α) : Option α :=
  Option.rec (motive := fun _ => Tm → AV → (Tm → Option α) → Option α) (fun tm _ k => k tm) (fun d tm v k => forceTr (Tr.set tm d v) k) dst tm v k

/- is an operation wanted? none: not told -/
def boolIs (want : Bool) (v : AV) : Option Bool :=
  match v with
  | .bool b => some (b == want)
  | .tup [] => some false
  | _ => none

def wantedG (ops : List Oper) (tm : Tm) (j : Nat) (want : Bool) : Option Bool :=
  match (ops[j]?).bind (·.dst) with
  | none => some false
  | some d => boolIs want (tm.val d)

def wantedA (ops : List Oper) (tm : Tm) (g : Option (Nat × Bool)) : Option Bool :=
  match g with
  | none => some true
  | some p => wantedG ops tm p.1 p.2

inductive SR where
  | go (s : St)
  | pan (v : AV) (s : St)

def readK (s : St) (dst : Option Tmp) (v : Option AV) : Option SR :=
  Option.rec (motive := fun _ => St → Option Tmp → Option SR) (fun _ _ => none) (fun v s dst => putK s.tmps dst v fun t => some (.go ⟨t, s.defs, s.h, s.rcv⟩)) v s dst

def makeK (s : St) (dst : Option Tmp) (r : Option (AV × List AV)) : Option SR :=
  match r with
  | some (v, cs) =>
    bif allOne cs then putK s.tmps dst v fun t => forceN (s.h.next + 1) fun n => forceTr (s.h.tr.set s.h.next ⟨0, cs, none⟩) fun tr => some (.go ⟨t, s.defs, ⟨n, tr⟩, s.rcv⟩)
    else none
  | none => none

def recK (s : St) (dst : Option Tmp) : Option SR :=
  match s.rcv with
  | .dfr (some v) => putK s.tmps dst v fun t => some (.go ⟨t, s.defs, s.h, .dfr none⟩)
  | .dfr none => putK s.tmps dst .nilIf fun t => some (.go ⟨t, s.defs, s.h, .dfr none⟩)
  | _ => none

def actK (s : St) (dst : Option Tmp) (r : Option Stp) : Option SR :=
  match r with
  | some (.next v h) => putK s.tmps dst v fun t => some (.go ⟨t, s.defs, h, s.rcv⟩)
  | some (.defer d) => match s.rcv with
    | .rnd => none
    | _ => putK s.tmps dst undefA fun t => some (.go ⟨t, d :: s.defs, s.h, s.rcv⟩)
  | some (.pan v h) => some (.pan v ⟨s.tmps, s.defs, h, s.rcv⟩)
  | some .recover => recK s dst
  | none => none

/- one operation, in the order of the text -/
def opK (P : Program) (call : CallF) (o : Oper) (s : St) (kd : Nat) : Option SR :=
  match kd with
  | 0 => readK s o.dst (opReadA P s.h s.tmps o.op)
  | 1 => makeK s o.dst (opMakeA P s.tmps s.h.next o.op)
  | _ => actK s o.dst (forceN (s.h.next + 1) fun n => opActA P call ⟨n, s.h.tr⟩ s.tmps s.h.next o.op)

/- a call, by what is called -/
def callF (c0 : Callee) : Call → Program → CallF → Option Tmp → St → Option SR :=
  Callee.rec (motive := fun _ => Call → Program → CallF → Option Tmp → St → Option SR)
    (fun f c P call d s => actK s d (forceN (s.h.next + 1) fun n => callV call ⟨n, s.h.tr⟩ (evo s.tmps f) (evos s.tmps c.args.toList)))
    (fun _ _ c P call d s => actK s d none)
    (fun b c P call d s => opK P call ⟨d, .call c, 0, "", #[], none⟩ s (kindB b)) c0

/- one operation, by its kind, at once -/
def opF (o : Op) : Program → CallF → Option Tmp → St → Option SR :=
  Op.rec (motive := fun _ => Program → CallF → Option Tmp → St → Option SR)
    (fun x P call d s => readK s d (some (evo s.tmps x)))
    (fun x P call d s => readK s d (some (evo s.tmps x)))
    (fun c a b P call d s => readK s d (pickA (evo s.tmps c) (evo s.tmps a) (evo s.tmps b)))
    (fun e P call d s => makeK s d (rowP s.h.next (zeroA P e)))
    (fun e v P call d s => makeK s d (rowP s.h.next (some (evo s.tmps v))))
    (fun t ps P call d s => readK s d (buildA P t (evoP s.tmps ps.toList)))
    (fun t len ps P call d s => makeK s d (rowS s.h.next len (buildSliceD P (P.underlying t) len (evoP s.tmps ps.toList))))
    (fun t m k v P call d s => readK s d (opReadA P s.h s.tmps (.insert t m k v)))
    (fun t a P call d s => readK s d (loadA P s.h t (evo s.tmps a)))
    (fun t a v P call d s => actK s d (forceN (s.h.next + 1) fun n => unitO (storeA P ⟨n, s.h.tr⟩ t (evo s.tmps a) (evo s.tmps v))))
    (fun g P call d s => readK s d (opReadA P s.h s.tmps (.ready g)))
    (fun g P call d s => readK s d (opReadA P s.h s.tmps (.waits g)))
    (fun x P call d s => readK s d (nilCheckA (evo s.tmps x)))
    (fun op t x y u P call d s => readK s d (binA P op t (isLit x || isLit y) (evo s.tmps x) (evo s.tmps y)))
    (fun op t x P call d s => readK s d (unA op (evo s.tmps x)))
    (fun src dst x P call d s => bif isSlice (P.underlying dst) then makeK s d (strRow P s.h.next (P.underlying src) (P.underlying dst) (evo s.tmps x)) else readK s d (convA P s.h src dst (evo s.tmps x)))
    (fun dst x P call d s => readK s d (opReadA P s.h s.tmps (.sliceToArrayPointer dst x)))
    (fun t x P call d s => readK s d (ifaceA P t (evo s.tmps x)))
    (fun fn fi ca P call d s => readK s d (opReadA P s.h s.tmps (.makeFunc fn fi ca)))
    (fun t r P call d s => readK s d (opReadA P s.h s.tmps (.makeMap t r)))
    (fun t z P call d s => readK s d (opReadA P s.h s.tmps (.makeChan t z)))
    (fun t l c P call d s => makeK s d ((asI (evo s.tmps l)).bind fun l => (asI (evo s.tmps c)).bind fun c => rowM s.h.next (makeSliceD P (P.underlying t) l c)))
    (fun t x lo hi mx P call d s => readK s d (sliceA P t (evo s.tmps x) (evoO s.tmps lo) (evoO s.tmps hi) (evoO s.tmps mx)))
    (fun t x f P call d s => readK s d (fieldAddrD P (P.underlying t) (evo s.tmps x) f))
    (fun t x f P call d s => readK s d (fieldD P (P.underlying t) (evo s.tmps x) f))
    (fun t x i P call d s => readK s d (indexAddrA P t (evo s.tmps x) (evo s.tmps i)))
    (fun t x i P call d s => readK s d ((asI (evo s.tmps i)).bind fun i => indexD P (P.underlying t) (evo s.tmps x) i))
    (fun t x i ok P call d s => readK s d (opReadA P s.h s.tmps (.lookup t x i ok)))
    (fun t m k v P call d s => readK s d (opReadA P s.h s.tmps (.mapUpdate t m k v)))
    (fun t m k P call d s => readK s d (opReadA P s.h s.tmps (.mapEntry t m k)))
    (fun t m st v P call d s => readK s d (opReadA P s.h s.tmps (.entryStore t m st v)))
    (fun t x P call d s => readK s d (opReadA P s.h s.tmps (.range t x)))
    (fun it b P call d s => readK s d (opReadA P s.h s.tmps (.next it b)))
    (fun it P call d s => readK s d (opReadA P s.h s.tmps (.entry it)))
    (fun x t u ok P call d s => readK s d (typeAssertD P (P.underlying u) (evo s.tmps x) u ok))
    (fun tu i P call d s => readK s d (extractA (evo s.tmps tu) i))
    (fun c P call d s => callF c.callee c P call d s)
    (fun c P call d s => readK s d (opReadA P s.h s.tmps (.go c)))
    (fun c P call d s => actK s d (forceN (s.h.next + 1) fun n => opActA P call ⟨n, s.h.tr⟩ s.tmps s.h.next (.defer c)))
    (fun x P call d s => actK s d (forceN (s.h.next + 1) fun n => opActA P call ⟨n, s.h.tr⟩ s.tmps s.h.next (.panic x)))
    (fun c x P call d s => readK s d (opReadA P s.h s.tmps (.send c x)))
    (fun t c ok P call d s => readK s d (opReadA P s.h s.tmps (.recv t c ok)))
    (fun cs b P call d s => readK s d (opReadA P s.h s.tmps (.select cs b))) o

def opA (P : Program) (call : CallF) (o : Oper) (s : St) : Option SR := opF o.op P call o.dst s

def thenK (r : Option SR) (k : St → Option SR) : Option SR :=
  match r with
  | some (.go s) => k s
  | some (.pan v s) => some (.pan v s)
  | none => none

def wantK (w : Option Bool) (o : Oper) (s : St) (yes : Option SR) (k : St → Option SR) : Option SR :=
  match w with
  | some true => thenK yes k
  | some false => putK s.tmps o.dst undefA fun t => k ⟨t, s.defs, s.h, s.rcv⟩
  | none => none

def seqA (P : Program) (call : CallF) (ops l : List Oper) : St → Option SR :=
  List.rec (motive := fun _ => St → Option SR) (fun s => some (.go s))
    (fun o _ ih s => wantK (wantedA ops s.tmps o.guard) o s (opA P call o s) ih) l

/- ARE TWO VALUES THE SAME? Of what can't be told: no. -/
def eqL {α : Type} (f : α → α → Bool) : List α → List α → Bool
  | [], [] => true
  | a :: x, b :: y => f a b && eqL f x y
  | _, _ => false

def eqO : Option Nat → Option Nat → Bool
  | none, none => true
  | some a, some b => Nat.beq a b
  | _, _ => false

def eqC (x y : AV) : Bool :=
  match x with
  | .bool a => match y with | .bool b => a == b | _ => false
  | .int j a => match y with | .int k b => Nat.beq (kcode j) (kcode k) && eqI a b | _ => false
  | .str a => match y with | .str b => eqS a b | _ => false
  | .nilp => match y with | .nilp => true | _ => false
  | .nils => match y with | .nils => true | _ => false
  | .nilFn => match y with | .nilFn => true | _ => false
  | .nilIf => match y with | .nilIf => true | _ => false
  | .nilMap => match y with | .nilMap => true | _ => false
  | .gptr a => match y with | .gptr b => Nat.beq a b | _ => false
  | .ptr a b c => match y with | .ptr a' b' c' => Nat.beq a a' && (Nat.beq b b' && Nat.beq c c') | _ => false
  | .sl a b c d e f => match y with | .sl a' b' c' d' e' f' => Nat.beq a a' && (Nat.beq b b' && (Nat.beq c c' && (Nat.beq d d' && (Nat.beq e e' && eqO f f')))) | _ => false
  | _ => false

def eqV (x y : AV) : Bool :=
  match x with
  | .agg a => match y with | .agg b => eqL eqC a b | _ => false
  | .fsl a b c d => match y with | .fsl a' b' c' d' => Nat.beq b b' && (Nat.beq c c' && (eqO d d' && eqL eqC a a')) | _ => false
  | .fptr a => match y with | .fptr b => eqL eqC a b | _ => false
  | .iface t v => match y with | .iface u w => Nat.beq t u && eqC v w | _ => false
  | x => eqC x y

/- A REGION THAT DRAWS ITS ORDER. What acts stands in one line of waits; what reads memory is read in every state in which it may come; what makes rows has numbers of its own. -/
def memRead : Op → Bool
  | .load _ _ => true
  | .convert _ _ _ => true
  | _ => false

def addRow (h : AH) (id : Nat) (r : Row) : AH :=
  match h.get id with
  | none => h.put id r
  | some _ => h

def addMade (mask : Nat) : List (Nat × Nat × Row) → AH → AH
  | [], h => h
  | p :: l, h => bif Nat.testBit mask p.1 then addRow (addMade mask l h) p.2.1 p.2.2 else addMade mask l h

structure Dr where
  tmps : Tm
  h0 : AH
  hist : List (Nat × AH)
  made : List (Nat × Nat × Row)
  reads : List (Nat × Tm × Op × AV)

def Dr.cur (d : Dr) : AH :=
  match d.hist with
  | [] => d.h0
  | p :: _ => p.2

def sameO (u : Option AV) (v : AV) : Bool :=
  match u with
  | some u => eqV u v
  | none => false

def readAt (P : Program) (made : List (Nat × Nat × Row)) (mask : Nat) (tm : Tm) (op : Op) (v : AV) (h : AH) : Bool :=
  sameO (opReadA P (addMade mask made h) tm op) v

def backA (P : Program) (made : List (Nat × Nat × Row)) (mask : Nat) (tm : Tm) (op : Op) (v : AV) (h0 : AH) : List (Nat × AH) → Bool
  | [] => readAt P made mask tm op v h0
  | p :: r => readAt P made mask tm op v p.2 && (Nat.testBit mask p.1 || backA P made mask tm op v h0 r)

def dReadK (P : Program) (mask i : Nat) (o : Oper) (d : Dr) (v : Option AV) : Option Dr :=
  match v with
  | some v => putK d.tmps o.dst v fun t =>
    bif memRead o.op then
      bif backA P d.made mask d.tmps o.op v d.h0 d.hist then some ⟨t, d.h0, d.hist, d.made, (i, d.tmps, o.op, v) :: d.reads⟩ else none
    else some ⟨t, d.h0, d.hist, d.made, d.reads⟩
  | none => none

def dMakeK (i id : Nat) (o : Oper) (d : Dr) (r : Option (AV × List AV)) : Option Dr :=
  match r with
  | some (v, cs) => bif allOne cs then putK d.tmps o.dst v fun t => some ⟨t, d.h0, d.hist, (i, id, ⟨0, cs, none⟩) :: d.made, d.reads⟩ else none
  | none => none

def rereads (P : Program) (bf : List Nat) (mask : Nat) (made : List (Nat × Nat × Row)) (h : AH) : List (Nat × Tm × Op × AV) → Bool
  | [] => true
  | r :: l => (Nat.testBit mask r.1 || readAt P made (bf.getD r.1 0) r.2.1 r.2.2.1 r.2.2.2 h) && rereads P bf mask made h l

def dActK (P : Program) (bf : List Nat) (mask i : Nat) (o : Oper) (d : Dr) (r : Option Stp) : Option Dr :=
  match r with
  | some (.next v h) => bif rereads P bf mask d.made h d.reads then putK d.tmps o.dst v fun t => some ⟨t, d.h0, (i, h) :: d.hist, d.made, d.reads⟩ else none
  | _ => none

def waitsAll (mask : Nat) : List (Nat × AH) → Bool
  | [] => true
  | p :: l => Nat.testBit mask p.1 && waitsAll mask l

def drawK (P : Program) (call : CallF) (bf : List Nat) (mask i id : Nat) (o : Oper) (d : Dr) (kd : Nat) : Option Dr :=
  match kd with
  | 0 => dReadK P mask i o d (opReadA P (addMade mask d.made d.cur) d.tmps o.op)
  | 1 => dMakeK i id o d (opMakeA P d.tmps id o.op)
  | _ => bif waitsAll mask d.hist then dActK P bf mask i o d (opActA P call (addMade mask d.made d.cur) d.tmps id o.op) else none

def wantD (w : Option Bool) (o : Oper) (d : Dr) (yes : Option Dr) (k : Dr → Option Dr) : Option Dr :=
  match w with
  | some true => match yes with
    | some d' => k d'
    | none => none
  | some false => putK d.tmps o.dst undefA fun t => k ⟨t, d.h0, d.hist, d.made, d.reads⟩
  | none => none

/- no other operation than g writes its slot, but those that it waits for and those that wait for i -/
def notDst (d : Nat) (x : Option Tmp) : Bool :=
  match x with
  | some e => not (Nat.beq d e)
  | none => true

def sole (d g i : Nat) : List Oper → List Nat → Nat → Bool
  | [], _, _ => true
  | o :: l, bf, k => (notDst d o.dst || (Nat.ble k g || Nat.testBit (bf.headD 0) i)) && forceN (k + 1) fun k => sole d g i l bf.tail k

def guardSole (ops : List Oper) (bf : List Nat) (i : Nat) (g : Option (Nat × Bool)) : Bool :=
  match g with
  | none => true
  | some p => match (ops[p.1]?).bind (·.dst) with
    | some d => sole d p.1 i ops bf 0
    | none => true

def drawA (P : Program) (call : CallF) (ops : List Oper) (bf : List Nat) (base : Nat) (l : List Oper) : Nat → Dr → Option Dr :=
  List.rec (motive := fun _ => Nat → Dr → Option Dr) (fun _ d => some d)
    (fun o _ ih i d => bif guardSole ops bf i o.guard then wantD (wantedA ops d.tmps o.guard) o d (forceN (base + i) fun id => drawK P call bf (bf.getD i 0) i id o d (kindA P o.op)) (fun d => forceN (i + 1) fun i => ih i d) else none) l

def drawEnd (n : Nat) (s : St) (d : Option Dr) : Option SR :=
  match d with
  | some d => some (.go ⟨d.tmps, s.defs, addMade (2 ^ n - 1) d.made d.cur, s.rcv⟩)
  | none => none

def regionA (P : Program) (call : CallF) (ops : Array Oper) (draw : Bool) (s : St) : Option SR :=
  bif draw then forceN (s.h.next + ops.size) fun n => drawEnd ops.size s (drawA P call ops.toList (Region.before ops).toList s.h.next ops.toList 0 ⟨s.tmps, ⟨n, s.h.tr⟩, [], [], []⟩)
  else seqA P call ops.toList ops.toList s

abbrev CO := Option (Out × St)

def regK (r : Option SR) : CO :=
  match r with
  | some (.go s) => some (.normal, s)
  | some (.pan v s) => some (.panic v, s)
  | none => none

def seqK (r : CO) (k : St → CO) : CO :=
  match r with
  | some (o, s) => match o with
    | .normal => k s
    | o => some (o, s)
  | none => none

def condK (c : AV) (x y : St → CO) (s : St) : CO :=
  match c with
  | .bool b => match b with
    | true => x s
    | false => y s
  | _ => none

def blockK (id : Nat) (r : CO) : CO :=
  match r with
  | some (o, s) => match o with
    | .exit i => bif Nat.beq i id then some (.normal, s) else some (.exit i, s)
    | o => some (o, s)
  | none => none

def iterA (f : St → CO) (n : Nat) : St → CO :=
  Nat.rec (motive := fun _ => St → CO) (fun _ => none) (fun _ ih s => seqK (f s) ih) n

def loopPut (h : AH) (L : Nat) (la : LoopA) (st : LS) : AH := h.put L ⟨0, [], some ⟨la.tm, la.n, la.ps, la.asg, la.body, st⟩⟩

/- behind the function that was ranged over -/
def loopEnd (L : Nat) (s : St) (h : AH) (r : Option Row) : CO :=
  match r with
  | some r => match r.lp with
    | some la => bif Nat.beq r.ver 0 then
        match la.st with
        | .ready => some (.normal, ⟨s.tmps, s.defs, loopPut h L la .over, s.rcv⟩)
        | .ret => some (.ret, ⟨s.tmps, s.defs, loopPut h L la .over, s.rcv⟩)
        | .exit id => some (.exit id, ⟨s.tmps, s.defs, loopPut h L la .over, s.rcv⟩)
        | _ => none
      else none
    | none => none
  | none => none

def loopK (L : Nat) (s : St) (r : Option CR) : CO :=
  match r with
  | some (.val _ h) => loopEnd L s h (h.get L)
  | some (.pan v h) => some (.panic v, ⟨s.tmps, s.defs, h, s.rcv⟩)
  | none => none

def loopGo (call : CallF) (n : Nat) (f : AV) (ps : List Nat) (a b : Code) (s : St) : CO :=
  match f with
  | .fn (.func g) first cap =>
    loopK s.h.next s (forceN (s.h.next + 1) fun m => forceTr (s.h.tr.set s.h.next ⟨0, [], some ⟨s.tmps, n, ps, a, b, .ready⟩⟩) fun tr =>
      call (.func g) (first ++ .fn (.yield s.h.next) [] [] :: cap) ⟨m, tr⟩)
  | _ => none

def loopA (call : CallF) (n : Nat) (f : Operand) (ps : List Nat) (a b : Code) (s : St) : CO :=
  match s.rcv with
  | .rnd => none
  | _ => loopGo call n (evo s.tmps f) ps a b s

def codeA (P : Program) (call : CallF) (lf n : Nat) (c : Code) : St → CO :=
  Code.rec (motive := fun _ => St → CO)
    (fun s => some (.normal, s))
    (fun _ ops d s => regK (regionA P call ops d s))
    (fun _ _ ra rb s => seqK (ra s) rb)
    (fun c _ _ rx ry s => condK (evo s.tmps c) rx ry s)
    (fun id _ rb s => blockK id (rb s))
    (fun _ rb s => iterA rb lf s)
    (fun f ps a b _ _ s => loopA call n f ps.toList a b s)
    (fun id s => some (.exit id, s))
    (fun _ _ _ => none)
    (fun _ s => some (.normal, s))
    (fun _ _ => none)
    (fun s => some (.ret, s))
    (fun _ _ => none) c

def resultsA (P : Program) (h : AH) (tm : Tm) (rs : List ResultVar) : Option (List AV) :=
  List.rec (motive := fun _ => Option (List AV)) (some [])
    (fun r _ ih => match r with
      | .tmp t => (match ih with
        | some l => some (tm.val t :: l)
        | none => none)
      | .cell a t => (match loadA P h t (tm.val a) with
        | some v => (match ih with
          | some l => some (v :: l)
          | none => none)
        | none => none)) rs

def tupA : List AV → AV
  | [v] => v
  | vs => .tup vs

def bodyA (P : Program) (call : CallF) (lf : Nat) (n : Nat) (c : Code) (args : List AV) (h : AH) (rcv : Rc) : CO :=
  bif Nat.ble args.length n then forceTr (Tr.ofListFrom 0 args .leaf) fun t => codeA P call lf n c ⟨t, [], h, rcv⟩ else none

/- a deferred call: the mode that it leaves -/
def deferEnd (P : Program) (m : Option AV) (fn : Func) (s : St) : Option (Option AV × AH) :=
  match s.defs with
  | [] => match resultsA P s.h s.tmps fn.results.toList with
    | some _ => match s.rcv with
      | .dfr (some _) => some (m, s.h)
      | .dfr none => some (none, s.h)
      | _ => none
    | none => none
  | _ => none

def deferO (P : Program) (m : Option AV) (fn : Func) (r : CO) : Option (Option AV × AH) :=
  match r with
  | some (o, s) => match o with
    | .normal => deferEnd P m fn s
    | .ret => deferEnd P m fn s
    | _ => none
  | none => none

def deferA (P : Program) (F : Nat → Option Func) (call : CallF) (lf : Nat) (f : FuncId) (args : List AV) (m : Option AV) (h : AH) : Option (Option AV × AH) :=
  match F f with
  | some fn => match fn.body with
    | some c => deferO P m fn (bodyA P call lf fn.ntmps c args h (.dfr m))
    | none => none
  | none => none

def leaveA (P : Program) (F : Nat → Option Func) (call : CallF) (lf : Nat) : List (AV × List AV) → Option AV → AH → Option (Option AV × AH)
  | [], m, h => some (m, h)
  | d :: ds, m, h =>
    match d.1 with
    | .fn (.func g) first cap => match deferA P F call lf g (first ++ d.2 ++ cap) m h with
      | some (m', h') => leaveA P F call lf ds m' h'
      | none => none
    | _ => none

def valO (P : Program) (fn : Func) (tm : Tm) (h : AH) : Option CR :=
  match resultsA P h tm fn.results.toList with
  | some l => some (.val (tupA l) h)
  | none => none

def leftO (P : Program) (fn : Func) (tm : Tm) (r : Option (Option AV × AH)) : Option CR :=
  match r with
  | some (m, h) => match m with
    | none => valO P fn tm h
    | some v => some (.pan v h)
  | none => none

def outO (P : Program) (F : Nat → Option Func) (call : CallF) (lf : Nat) (fn : Func) (r : CO) : Option CR :=
  match r with
  | some (o, s) => match o with
    | .normal => leftO P fn s.tmps (leaveA P F call lf s.defs none s.h)
    | .ret => leftO P fn s.tmps (leaveA P F call lf s.defs none s.h)
    | .panic v => leftO P fn s.tmps (leaveA P F call lf s.defs (some v) s.h)
    | _ => none
  | none => none

def enterA (P : Program) (F : Nat → Option Func) (call : CallF) (lf : Nat) (f : FuncId) (args : List AV) (h : AH) : Option CR :=
  match F f with
  | some fn => match fn.body with
    | some c => outO P F call lf fn (bodyA P call lf fn.ntmps c args h .out)
    | none => none
  | none => none

def primO (r : Option CR) (k : Option CR) : Option CR :=
  match r with
  | some x => some x
  | none => k

/- A ROUND of a loop over a function. -/
def setPs : List Nat → List AV → Tm → Option Tm
  | [], [], t => some t
  | p :: ps, v :: vs, t => forceTr (Tr.set t p v) fun t => setPs ps vs t
  | _, _, _ => none

/- the loop's record, if it stands so that a round may begin (true), or is in one -/
def loopAt (rdy : Bool) (h : AH) (L : Nat) : Option LoopA :=
  match h.get L with
  | some r => match r.lp with
    | some la => bif Nat.beq r.ver 0 then match la.st with
      | .ready => bif rdy then some la else none
      | .busy => bif rdy then none else some la
      | _ => none
      else none
    | none => none
  | none => none

def roundEnd (L : Nat) (h : AH) (b : Bool) (st : LS) : Option CR :=
  match loopAt false h L with
  | some la => some (.val (.bool b) (loopPut h L la st))
  | none => none

def roundO (L : Nat) (r : CO) : Option CR :=
  match r with
  | some (o, s) => match s.defs with
    | [] => match o with
      | .normal => roundEnd L s.h true .ready
      | .ret => roundEnd L s.h false .ret
      | .exit id => roundEnd L s.h false (.exit id)
      | _ => none
    | _ => none
  | none => none

def roundBody (P : Program) (call : CallF) (lf L : Nat) (la : LoopA) (r : CO) : Option CR :=
  match r with
  | some (o, s) => match o with
    | .normal => match loopAt true s.h L with
      | some lb => roundO L (codeA P call lf la.n la.body ⟨s.tmps, s.defs, loopPut s.h L lb .busy, s.rcv⟩)
      | none => none
    | _ => none
  | none => none

def roundA (P : Program) (call : CallF) (lf L : Nat) (args : List AV) (h : AH) : Option CR :=
  match loopAt true h L with
  | some la => match setPs la.ps args la.tm with
    | some tm => roundBody P call lf L la (codeA P call lf la.n la.asg ⟨tm, [], h, .rnd⟩)
    | none => none
  | none => none

def callA (P : Program) (F : Nat → Option Func) (prim : CallF) (lf : Nat) (ih : CallF) (f : Fn) (args : List AV) (h : AH) : Option CR :=
  match f with
  | .func g => primO (prim (.func g) args h) (enterA P F ih lf g args h)
  | .yield L => roundA P ih lf L args h
  | _ => none

/- THE CALL, to a depth: 'prim': calls that are told otherwise. -/
def funA (P : Program) (F : Nat → Option Func) (prim : CallF) (lf : Nat) (n : Nat) : CallF :=
  Nat.rec (motive := fun _ => CallF) (fun _ _ _ => none) (fun _ ih f args h => callA P F prim lf ih f args h) n

end
end Go.Proofs.YtckcgijepiejlaaGreat.Ae
