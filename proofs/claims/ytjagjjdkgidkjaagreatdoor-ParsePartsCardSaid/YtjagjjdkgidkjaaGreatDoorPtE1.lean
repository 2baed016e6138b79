/- A verified evaluator of closed calls, of no program: a part (Ev0 Ev1 Ev2 Ev3 Ev4 Ev5) of the proof that the law ParseParts answers true. No condition. -/
import Derived.Recover
import Derived.Orders
import Derived.Scope
import Derived.Below
import Derived.WalkKit
import Derived.Deep.MidRow
import Derived.WalkSpells
import Derived.Lib.Strings
import Derived.Sort.Walk0
import Derived.IntWalk
set_option linter.all false
/-
  The evaluator's smallest words: a trie over numbers, strictness, case distinctions by the recursors (the kernel reduces these fastest). Plain functions, no proof.
-/
namespace Go.Proofs.YtjagjjdkgidkjaaGreatDoor.Ev
noncomputable section
/-- A trie over numbers. -/
inductive T (α : Type) where
  | nil
  | node (v : Option α) (l r : T α)
/-- The way to a number. -/
inductive Way where
  | here
  | lo (p : Way)
  | hi (p : Way)
def wayN (f : Nat) : Nat → Way :=
  Nat.rec (motive := fun _ => Nat → Way) (fun _ => .here)
    (fun _ ih n => Nat.rec (motive := fun _ => Way) .here
      (fun m _ => Nat.rec (motive := fun _ => Way) (.lo (ih (Nat.div m 2))) (fun _ _ => .hi (ih (Nat.div m 2))) (Nat.mod m 2)) n) f
def way (n : Nat) : Way := wayN (Nat.succ n) n
/-- Strict in the tree. -/
def T.seq {α β : Type} (t : T α) (k : T α → β) : β := T.rec (motive := fun _ => β) (k .nil) (fun v l r _ _ => k (.node v l r)) t
def T.at {α : Type} (p : Way) : T α → Option α :=
  Way.rec (motive := fun _ => T α → Option α)
    (fun t => T.rec (motive := fun _ => Option α) none (fun v _ _ _ _ => v) t)
    (fun _ ih t => T.rec (motive := fun _ => Option α) none (fun _ l _ _ _ => ih l) t)
    (fun _ ih t => T.rec (motive := fun _ => Option α) none (fun _ _ r _ _ => ih r) t) p
def T.put {α : Type} (p : Way) : T α → α → T α :=
  Way.rec (motive := fun _ => T α → α → T α)
    (fun t x => T.rec (motive := fun _ => T α) (.node (some x) .nil .nil) (fun _ l r _ _ => .node (some x) l r) t)
    (fun _ ih t x => T.rec (motive := fun _ => T α) (T.seq (ih .nil x) fun l => .node none l .nil) (fun v l r _ _ => T.seq (ih l x) fun l => .node v l r) t)
    (fun _ ih t x => T.rec (motive := fun _ => T α) (T.seq (ih .nil x) fun r => .node none .nil r) (fun v l r _ _ => T.seq (ih r x) fun r => .node v l r) t) p
def T.get {α : Type} (t : T α) (n : Nat) : Option α := T.at (way n) t
def T.set {α : Type} (t : T α) (n : Nat) (x : α) : T α := T.put (way n) t x

/-- Strictness for numbers and lists. -/
def fNat {β : Type} (n : Nat) (k : Nat → β) : β := Nat.rec (motive := fun _ => β) (k 0) (fun m _ => k (Nat.succ m)) n
def fInt {β : Type} (n : Int) (k : Int → β) : β :=
  Int.rec (motive := fun _ => β) (fun m => fNat m fun m => k (.ofNat m)) (fun m => fNat m fun m => k (.negSucc m)) n
def fNats {β : Type} (l : List Nat) : (List Nat → β) → β :=
  List.rec (motive := fun _ => (List Nat → β) → β) (fun k => k []) (fun x _ ih k => fNat x fun x => ih fun xs => k (x :: xs)) l
def fBool {β : Type} (b : Bool) (k : Bool → β) : β := Bool.rec (motive := fun _ => β) (k false) (k true) b
/-- Option's and Bool's cases. -/
def oM {α β : Type} (x : Option α) (n : β) (s : α → β) : β := Option.rec (motive := fun _ => β) n s x
def oB {α β : Type} (x : Option α) (s : α → Option β) : Option β := Option.rec (motive := fun _ => Option β) none s x
def bM {β : Type} (b : Bool) (y n : β) : β := Bool.rec (motive := fun _ => β) n y b
def gB {β : Type} (b : Bool) (y : Option β) : Option β := Bool.rec (motive := fun _ => Option β) none y b
def lR {α β : Type} (z : β) (f : α → β → β) (l : List α) : β := List.rec (motive := fun _ => β) z (fun x _ ih => f x ih) l
end
end Go.Proofs.YtjagjjdkgidkjaaGreatDoor.Ev
/-
  The evaluator: abstract values, the trie, the abstract heap, the operations. Everything here is a plain function: no proof.
-/
set_option linter.all false
namespace Go.Proofs.YtjagjjdkgidkjaaGreatDoor.Ev
open Go
noncomputable section

/-- Abstract values. Addresses are abstract block numbers and offsets. -/
inductive AV where
  | bool (b : Bool)
  | int (k : IntKind) (n : Int)
  | float (k : FloatKind) (bits : Nat)
  | str (s : List Nat)
  | nilptr
  | ptr (b o : Nat)
  | nilslice
  | slice (b o len cap esz : Nat) (ex : Bool)
  | nilmap
  | map (r : Nat)
  | func (f : FuncId) (first caps : List AV)
  | nilFunc
  | iface (t : TypeId) (v : AV)
  | nilIface
  | agg (cs : List AV)
  | tuple (vs : List AV)
  /-- some string that is none of these -/
  | ostr (cs : List (List Nat))
  /-- some int that is at least this -/
  | least (n : Nat)
  /-- some value of one cell -/
  | any
  /-- the yield of a loop over a function -/
  | yield (b : Nat)
  deriving Inhabited

/-- Whole: the real block is just this long. Loose: it may be longer. Wild: its frozen cells may lie past the end. Far: it may begin behind the real one's beginning. -/
inductive BK where
  | whole
  | loose
  | wild
  | far
def BK.share (k : BK) (o : Nat) : BK :=
  match k with
  | .wild => .wild
  | .far => .far
  | _ => match o with
    | 0 => .loose
    | _ + 1 => .far
/-- Does the block begin where the real one does, its frozen cells within? -/
def BK.near : BK → Bool
  | .whole => true
  | .loose => true
  | _ => false

inductive ABlk where
  /-- cells: contents, how many, the element's type, how many may be frozen, may it be written, what kind of block -/
  | cells (c : T AV) (size : Nat) (elem : TypeId) (frz : Nat) (own : Bool) (kind : BK)
  | dead
  | map (es : List (AV × AV × Nat)) (clock : Nat)
  | siter (s : List Nat) (pos : Nat)
  | miter (m since : Nat) (seen : List Nat) (last : Nat)
  | niter
  /-- the deferred calls of a loop's rounds: none -/
  | dfr
  /-- a loop over a function: the temporaries, how many, what yield's arguments go to, the assignments, the body, how it stands, what it left -/
  | loop (tmps : T AV) (n : Nat) (params : List Nat) (assign body : Code) (st : LoopState) (pending : Option Code)

structure AS where
  heap : T ABlk
  next : Nat

def AS.get (σ : AS) (b : Nat) : Option ABlk := σ.heap.get b
def AS.upd (σ : AS) (b : Nat) (B : ABlk) : AS := (σ.heap.set b B).seq fun h => ⟨h, σ.next⟩
def AS.new {β : Type} (σ : AS) (B : ABlk) (k : Nat → AS → β) : β :=
  fNat σ.next fun n => (σ.heap.set n B).seq fun h => k n ⟨h, Nat.succ n⟩

/-- A list laid into a trie, from place i on. -/
def lay (l : List AV) : Nat → T AV → T AV := lR (fun _ t => t) (fun x ih i t => fNat i fun i => T.seq (T.set t i x) fun t => ih (Nat.succ i) t) l
def AS.row {β : Type} (σ : AS) (elem : TypeId) (cs : List AV) (whole : BK) (k : Nat → AS → β) : β :=
  fNat cs.length fun n => (lay cs 0 .nil).seq fun c => σ.new (.cells c n elem 0 true whole) k

/-- n cells from place o on. -/
def readN (c : T AV) : Nat → Nat → Option (List AV)
  | 0, _ => some []
  | n + 1, o => fNat o fun o => oB (c.get o) fun x => oB (readN c n (Nat.succ o)) fun xs => some (x :: xs)
/-- One cell wide? -/
def AV.one : AV → Bool
  | .agg _ => false
  | .tuple _ => false
  | _ => true
def allOne (xs : List AV) : Bool := lR true (fun x r => bM x.one r false) xs
def writeL (σ : AS) (b o : Nat) (xs : List AV) : Option AS :=
  match σ.get b with
  | some (.cells c size elem frz true w) =>
    gB (Nat.ble (o + xs.length) size) (gB (Nat.ble frz o) (gB (allOne xs) (T.seq (lay xs o c) fun c => some (σ.upd b (.cells c size elem frz true w)))))
  | _ => none

/-- The abstract value of a literal. -/
def bytesOf (s : ByteArray) : List Nat := s.data.toList.map UInt8.toNat
def ofValues (f : Value → Option AV) : List Value → Option (List AV)
  | [] => some []
  | v :: vs => match f v with
    | none => none
    | some x => match ofValues f vs with
      | none => none
      | some xs => some (x :: xs)
def ofValueN : Nat → Value → Option AV
  | 0, _ => none
  | d + 1, v => match v with
    | .bool b => some (.bool b)
    | .int k n => some (.int k n)
    | .float k b => some (.float k b)
    | .string s => fNats (bytesOf s) fun l => some (.str l)
    | .pointer none => some .nilptr
    | .slice none 0 0 => some .nilslice
    | .map none => some .nilmap
    | .nilFunc => some .nilFunc
    | .nilIface => some .nilIface
    | .func (.func f) ⟨[]⟩ ⟨[]⟩ => some (.func f [] [])
    | .agg cs => match ofValues (ofValueN d) cs.toList with
      | some xs => some (.agg xs)
      | none => none
    | .tuple cs => match ofValues (ofValueN d) cs.toList with
      | some xs => some (.tuple xs)
      | none => none
    | .iface t x => match ofValueN d x with
      | some y => some (.iface t y)
      | none => none
    | _ => none
def ofValue (v : Value) : Option AV := ofValueN 8 v

def AV.cells : AV → List AV
  | .agg cs => cs
  | v => [v]

/-- Back to a value: what bears no address. -/
def unbytes (l : List Nat) : ByteArray := ⟨(l.map UInt8.ofNat).toArray⟩
def flats (f : AV → Option Value) : List AV → Option (List Value)
  | [] => some []
  | x :: xs => match f x with
    | none => none
    | some v => match flats f xs with
      | none => none
      | some vs => some (v :: vs)
def flatN : Nat → AV → Option Value
  | 0, _ => none
  | d + 1, x => match x with
    | .bool b => some (.bool b)
    | .int k n => some (.int k n)
    | .float k b => some (.float k b)
    | .str l => some (.string (unbytes l))
    | .nilptr => some (.pointer none)
    | .nilslice => some (.slice none 0 0)
    | .nilmap => some (.map none)
    | .nilFunc => some .nilFunc
    | .nilIface => some .nilIface
    | .iface t y => match flatN d y with
      | some v => some (.iface t v)
      | none => none
    | .agg xs => match flats (flatN d) xs with
      | some vs => some (.agg ⟨vs⟩)
      | none => none
    | .tuple xs => match flats (flatN d) xs with
      | some vs => some (.tuple ⟨vs⟩)
      | none => none
    | _ => none
def flat (x : AV) : Option Value := flatN 8 x

/-- A computation that touches no memory and asks no open question. -/
def pureRun {α : Type} (P : Program) : Sem α → Option α
  | .pure a => some a
  | .program k => pureRun P (k P)
  | .mark _ k => pureRun P k
  | .choose q k => if q.forced then pureRun P (k 0) else none
  | _ => none

/-- What a law on flat values gives. -/
def viaPure (P : Program) (s : Sem Value) : Option AV :=
  match pureRun P s with
  | some v => ofValue v
  | none => none
def viaPureN (P : Program) (s : Sem Next) : Option AV :=
  match pureRun P s with
  | some (.value v) => ofValue v
  | _ => none

def sizeOfT (P : Program) (t : TypeId) : Option Nat := (P.info? t).map (·.size)
def bytesOfT (P : Program) (t : TypeId) : Option Nat := (P.info? t).map (·.bytes)
def zeroOfT (P : Program) (t : TypeId) : Option AV :=
  match P.info? t with
  | some i => match i.zero with
    | some z => ofValue z
    | none => none
  | none => none
def isAggT (P : Program) (t : TypeId) : Option Bool :=
  match P.underlying t with
  | some (.struct _) | some (.array _ _) => some true
  | some _ => some false
  | none => none

/-! ### integers -/
def maxOf : IntKind → Nat
  | .i8 => 127 | .i16 => 32767 | .i32 => 2147483647 | .i64 => 9223372036854775807
  | .u8 => 255 | .u16 => 65535 | .u32 => 4294967295 | .u64 => 18446744073709551615
def wrapF (k : IntKind) (n : Int) : Int :=
  match n with
  | .ofNat m => match Nat.ble m (maxOf k) with
    | true => n
    | false => k.wrap n
  | .negSucc m => match k.signed, Nat.ble m (maxOf k) with
    | true, true => n
    | _, _ => k.wrap n
def ltF : Int → Int → Bool
  | .ofNat a, .ofNat b => Nat.blt a b
  | .negSucc _, .ofNat _ => true
  | .ofNat _, .negSucc _ => false
  | .negSucc a, .negSucc b => Nat.blt b a
def eqF : Int → Int → Bool
  | .ofNat a, .ofNat b => Nat.beq a b
  | .negSucc a, .negSucc b => Nat.beq a b
  | _, _ => false
def eqL : List Nat → List Nat → Bool
  | [], [] => true
  | a :: x, b :: y => match Nat.beq a b with
    | true => eqL x y
    | false => false
  | _, _ => false
def ltL : List Nat → List Nat → Bool
  | _, [] => false
  | [], _ :: _ => true
  | a :: x, b :: y => match Nat.blt a b with
    | true => true
    | false => match Nat.beq a b with
      | true => ltL x y
      | false => false

def kindEq (k k' : IntKind) : Bool := decide (k = k')
def intI (k : IntKind) (n : Int) : Option AV := fInt n fun n => some (.int k n)
def boolI (b : Bool) : Option AV := fBool b fun b => some (.bool b)
def strI (l : List Nat) : Option AV := fNats l fun l => some (.str l)

def isConst : Operand → Bool
  | .const _ => true
  | _ => false

def binInt (op : BinOp) (k : IntKind) (a b : Int) : Option AV :=
  match op with
  | .add => intI k (wrapF k (a + b))
  | .sub => intI k (wrapF k (a - b))
  | .mul => intI k (wrapF k (a * b))
  | .eql => boolI (eqF a b)
  | .neq => boolI (!eqF a b)
  | .lss => boolI (ltF a b)
  | .gtr => boolI (ltF b a)
  | .leq => boolI (!ltF b a)
  | .geq => boolI (!ltF a b)
  | _ => none
def binStr (op : BinOp) (x y : List Nat) : Option AV :=
  match op with
  | .eql => boolI (eqL x y)
  | .neq => boolI (!eqL x y)
  | .lss => boolI (ltL x y)
  | .gtr => boolI (ltL y x)
  | .leq => boolI (!ltL y x)
  | .geq => boolI (!ltL x y)
  | .add => match Nat.blt (x.length + y.length) 9223372036854775807 with
    | true => strI (x ++ y)
    | false => none
  | _ => none
/-- Equality with nil, and of what bears an address. -/
def eqNil (P : Program) (t : TypeDesc) (x y : AV) : Option Bool :=
  match t, x, y with
  | .pointer e, .ptr b o, .ptr b' o' => match Nat.beq b b', sizeOfT P e with
    | true, some (_ + 1) => some (Nat.beq o o')
    | _, _ => none
  | .pointer _, .nilptr, .nilptr => some true
  | .pointer _, .nilptr, .ptr _ _ => some false
  | .pointer _, .ptr _ _, .nilptr => some false
  | .slice _, .nilslice, .nilslice => some true
  | .slice _, .nilslice, .slice .. => some false
  | .slice _, .slice .., .nilslice => some false
  | .map _ _, .nilmap, .nilmap => some true
  | .map _ _, .nilmap, .map _ => some false
  | .map _ _, .map _, .nilmap => some false
  | .func _ _ _, .nilFunc, .nilFunc => some true
  | .func _ _ _, .nilFunc, .func _ _ _ => some false
  | .func _ _ _, .func _ _ _, .nilFunc => some false
  | .interface _, .nilIface, .iface _ _ => some false
  | .interface _, .iface _ _, .nilIface => some false
  | _, _, _ => none
def binII (P : Program) (op : BinOp) (t : TypeId) (k : IntKind) (m : Int) (k' : IntKind) (n : Int) : Option AV :=
  match op with
  | .shl | .shr | .quo | .rem | .and | .or | .xor | .andNot => viaPure P (binOp op t (.int k m) (.int k' n))
  | _ => gB (kindEq k k') (binInt op k m n)
def binBB (P : Program) (op : BinOp) (t : TypeId) (m n : Bool) : Option AV :=
  match P.underlying t, op with
  | some .bool, .eql => boolI (m == n)
  | some .bool, .neq => boolI (m != n)
  | _, _ => none
def binNN (P : Program) (op : BinOp) (t : TypeId) (x y : Operand) : Option AV :=
  match op, P.underlying t, isConst x || isConst y with
  | .eql, some (.interface _), true => boolI true
  | .neq, some (.interface _), true => boolI false
  | _, _, _ => none
def binFlat (P : Program) (op : BinOp) (t : TypeId) (x y : Operand) (a b : AV) : Option AV :=
  oB (flat a) fun va => oB (flat b) fun vb => viaPure P (do eqGuard op t x y va vb; binOp op t va vb)
def binRest (P : Program) (op : BinOp) (t : TypeId) (x y : Operand) (a b : AV) : Option AV :=
  match op with
  | .eql => oB (P.underlying t) fun d => oM (eqNil P d a b) (binFlat P op t x y a b) boolI
  | .neq => oB (P.underlying t) fun d => oM (eqNil P d a b) (binFlat P op t x y a b) fun r => boolI (!r)
  | _ => binFlat P op t x y a b
def memL (x : List Nat) : List (List Nat) → Bool
  | [] => false
  | y :: r => match eqL x y with
    | true => true
    | false => memL x r
def binOther (op : BinOp) (cs : List (List Nat)) (n : List Nat) : Option AV :=
  match memL n cs with
  | true => match op with
    | .eql => some (.bool false)
    | .neq => some (.bool true)
    | _ => none
  | false => none
def bin (P : Program) (op : BinOp) (t : TypeId) (x y : Operand) (a b : AV) : Option AV :=
  match a with
  | .ostr cs => match b with
    | .str n => binOther op cs n
    | _ => none
  | .least m => match b with
    | .int .i64 (.ofNat z) => match Nat.blt z m with
      | true => match op with
        | .eql => some (.bool false)
        | .neq => some (.bool true)
        | _ => none
      | false => none
    | _ => none
  | .int k m => match b with
    | .int k' n => binII P op t k m k' n
    | _ => none
  | .str m => match b with
    | .str n => binStr op m n
    | _ => none
  | .bool m => match b with
    | .bool n => binBB P op t m n
    | _ => none
  | .nilIface => match b with
    | .nilIface => binNN P op t x y
    | b => binRest P op t x y .nilIface b
  | a => binRest P op t x y a b

/-! ### the pure operations -/
def partA (P : Program) (t : TypeId) (cs : List AV) (off : Nat) : Option AV :=
  match isAggT P t with
  | some true => match sizeOfT P t with
    | some n => match Nat.ble (off + n) cs.length with
      | true => some (.agg ((cs.drop off).take n))
      | false => none
    | none => none
  | some false => cs[off]?
  | none => none
def natI : AV → Option Nat
  | .int _ (.ofNat n) => fNat n some
  | _ => none
def splice (cs : List AV) (off : Nat) (vs : List AV) : List AV := cs.take off ++ vs ++ cs.drop (off + vs.length)
def fillA (place : Nat → Option (Nat × Nat)) : List AV → List (Nat × AV) → Option (List AV)
  | cs, [] => some cs
  | cs, (i, v) :: rest =>
    match place i with
    | none => none
    | some (off, size) => match Nat.beq v.cells.length size, Nat.ble (off + size) cs.length with
      | true, true => fillA place (splice cs off v.cells) rest
      | _, _ => none
def partsA (ρ : Operand → Option AV) : List (Nat × Operand) → Option (List (Nat × AV))
  | [] => some []
  | (i, x) :: r => match ρ x with
    | none => none
    | some v => match partsA ρ r with
      | none => none
      | some l => some ((i, v) :: l)
def argsA (ρ : Operand → Option AV) : List Operand → Option (List AV)
  | [] => some []
  | x :: r => match ρ x with
    | none => none
    | some v => match argsA ρ r with
      | none => none
      | some l => some (v :: l)
def placesA (P : Program) (fs : Array Field) (i : Nat) : Option (Nat × Nat) :=
  match fs[i]? with
  | some f => match sizeOfT P f.type with
    | some n => some (f.offset, n)
    | none => none
  | none => none
def buildA (P : Program) (t : TypeId) (parts : List (Nat × AV)) : Option AV :=
  match zeroOfT P t, P.underlying t with
  | some z, some (.struct fs) => match fs.all fun f => (sizeOfT P f.type).isSome with
    | true => match fillA (placesA P fs) z.cells parts with
      | some cs => some (.agg cs)
      | none => none
    | false => none
  | some z, some (.array _ e) => match sizeOfT P e with
    | some n => match fillA (fun i => some (i * n, n)) z.cells parts with
      | some cs => some (.agg cs)
      | none => none
    | none => none
  | _, _ => none

def boundA (x : Option AV) (dflt most : Nat) : Option Nat :=
  match x with
  | none => some dflt
  | some v => match natI v with
    | some n => match Nat.ble n most with
      | true => some n
      | false => none
    | none => none
def optA (ρ : Operand → Option AV) : Option Operand → Option (Option AV)
  | none => some none
  | some x => match ρ x with
    | some v => some (some v)
    | none => none
def elemSize (P : Program) (t : TypeId) : Option Nat :=
  match P.underlying t with
  | some (.slice e) => sizeOfT P e
  | some (.array _ e) => sizeOfT P e
  | some (.pointer a) => match P.underlying a with
    | some (.array _ e) => sizeOfT P e
    | _ => none
  | _ => none
def sliceA (P : Program) (t : TypeId) (x : AV) (lo hi : Option AV) : Option AV :=
  match x with
  | .str s => match P.underlying t with
    | some .string => oB (boundA hi s.length s.length) fun h => oB (boundA lo 0 h) fun l => strI ((s.take h).drop l)
    | _ => none
  | .nilslice => match P.underlying t with
    | some (.slice e) => oB (sizeOfT P e) fun _ => oB (boundA hi 0 0) fun h => gB (Nat.beq h 0) (oB (boundA lo 0 0) fun l => gB (Nat.beq l 0) (some .nilslice))
    | _ => none
  | .slice b o len cap esz ex => match P.underlying t with
    | some (.slice e) => oB (sizeOfT P e) fun n => gB (Nat.beq n esz) (oB (boundA hi len cap) fun h => gB (Nat.ble h cap) (oB (boundA lo 0 h) fun l => gB (Nat.ble l h)
        (bM (ex && Nat.beq cap l) (some (.slice b o 0 0 esz true))
          (fNat (o + l * esz) fun o => fNat (h - l) fun n => fNat (cap - l) fun c => some (.slice b o n c esz ex)))))
    | _ => none
  | _ => none
/-- A slice expression of three bounds. -/
def slice3A (P : Program) (t : TypeId) (x : AV) (lo : Option AV) (hi mx : AV) : Option AV :=
  match x with
  | .slice b o _ cap esz _ => match P.underlying t with
    | some (.slice e) => oB (sizeOfT P e) fun n => gB (Nat.beq n esz) (oB (boundA (some mx) 0 cap) fun m => oB (boundA (some hi) 0 m) fun h => oB (boundA lo 0 h) fun l => gB (Nat.ble l h)
        (bM (Nat.beq m l) (some (.slice b o 0 0 esz true))
          (fNat (o + l * esz) fun o => fNat (h - l) fun n => fNat (m - l) fun c => some (.slice b o n c esz true))))
    | _ => none
  | _ => none
/-- An array behind an address, sliced. -/
def sliceArr (σ : AS) (n size b o : Nat) (lo hi : Option AV) : Option AV :=
  match σ.get b with
  | some (.cells _ bs _ _ _ _) => gB (Nat.ble (o + n * size) bs) (oB (boundA hi n n) fun h => gB (Nat.ble h n) (oB (boundA lo 0 h) fun l => gB (Nat.ble l h)
      (bM (Nat.beq n l) (some (.slice b o 0 0 size true))
        (fNat (o + l * size) fun o => fNat (h - l) fun k => fNat (n - l) fun c => some (.slice b o k c size true)))))
  | _ => none
def indexAddrA (P : Program) (t : TypeId) (x ix : AV) : Option AV :=
  match natI ix, P.underlying t, x with
  | some i, some (.slice e), .slice b o len _ esz _ => match sizeOfT P e with
    | some n => match Nat.beq n esz, Nat.blt i len with
      | true, true => fNat (o + i * n) fun o => some (.ptr b o)
      | _, _ => none
    | none => none
  | some i, some (.array len e), .ptr b o => match sizeOfT P e with
    | some n => match Nat.blt i len with
      | true => fNat (o + i * n) fun o => some (.ptr b o)
      | false => none
    | none => none
  | _, _, _ => none
def indexA (P : Program) (t : TypeId) (x ix : AV) : Option AV :=
  match natI ix, P.underlying t, x with
  | some i, some .string, .str s => match s[i]? with
    | some b => fNat b fun b => some (.int .u8 (.ofNat b))
    | none => none
  | some i, some (.array len e), .agg cs => match sizeOfT P e with
    | some n => match Nat.blt i len with
      | true => partA P e cs (i * n)
      | false => none
    | none => none
  | _, _, _ => none
def convA (P : Program) (s d : TypeId) (x : AV) : Option AV :=
  match P.underlying s, P.underlying d, x with
  | some _, some (.int k), .int _ n => intI k (wrapF k n)
  | some _, some .string, .str l => some (.str l)
  | some (.pointer _), some .unsafePointer, .nilptr => some .nilptr
  | some .unsafePointer, some (.pointer _), .nilptr => some .nilptr
  | _, _, _ => match flat x with
    | some v => viaPure P (convert s d v)
    | none => none
def lenA (P : Program) (t : TypeId) (x : AV) : Option AV :=
  match P.underlying t, x with
  | some .string, .str l => fNat l.length fun n => some (.int .i64 (.ofNat n))
  | some (.slice _), .slice _ _ n _ _ _ => some (.int .i64 (.ofNat n))
  | some (.slice _), .nilslice => some (.int .i64 0)
  | some (.map _ _), .nilmap => some (.int .i64 0)
  | some (.array n _), _ => some (.int .i64 (.ofNat n))
  | some (.pointer a), _ => match P.underlying a with
    | some (.array n _) => some (.int .i64 (.ofNat n))
    | _ => none
  | _, _ => none
def mm2 (mx : Bool) (x y : AV) : Option AV :=
  match x, y with
  | .int k a, .int _ b => match mx with
    | true => match ltF a b with
      | true => some (.int k b)
      | false => some (.int k a)
    | false => match ltF b a with
      | true => some (.int k b)
      | false => some (.int k a)
  | _, _ => none
def mmL (mx : Bool) : AV → List AV → Option AV
  | x, [] => some x
  | x, y :: r => match mm2 mx x y with
    | some z => mmL mx z r
    | none => none
def assertA (P : Program) (x : AV) (asserted : TypeId) (ok : Bool) : Option AV :=
  match x, P.underlying asserted with
  | .iface t v, some d =>
    match d with
    | .interface want => match P.info? t with
      | some i => match Instr.missingMethod want i.methods with
        | none => some (match ok with | true => .tuple [.iface t v, .bool true] | false => .iface t v)
        | some _ => match ok with
          | true => match zeroOfT P asserted with
            | some z => some (.tuple [z, .bool false])
            | none => none
          | false => none
      | none => none
    | _ => match Nat.beq t asserted with
      | true => some (match ok with | true => .tuple [v, .bool true] | false => v)
      | false => match ok with
        | true => match zeroOfT P asserted with
          | some z => some (.tuple [z, .bool false])
          | none => none
        | false => none
  | .nilIface, some _ => match ok with
    | true => match zeroOfT P asserted with
      | some z => some (.tuple [z, .bool false])
      | none => none
    | false => none
  | _, _ => none

/-! The operations that neither read nor write memory: one law each, the operands' reading last. -/
abbrev Rho := Operand → Option AV
def qMove (x : Operand) (_P : Program) (ρ : Rho) : Option AV := ρ x
def qPick (c a b : Operand) (_P : Program) (ρ : Rho) : Option AV :=
  match ρ c with
  | some (.bool true) => ρ a
  | some (.bool false) => ρ b
  | _ => none
def qBuild (t : TypeId) (parts : Array (Nat × Operand)) (P : Program) (ρ : Rho) : Option AV :=
  match partsA ρ parts.toList with
  | some l => buildA P t l
  | none => none
def qNilCheck (x : Operand) (_P : Program) (ρ : Rho) : Option AV :=
  match ρ x with
  | some (.ptr b o) => some (.ptr b o)
  | some (.func f p c) => some (.func f p c)
  | some (.yield b) => some (.yield b)
  | some (.iface t v) => some (.iface t v)
  | some (.int k n) => some (.int k n)
  | _ => none
def qBin (op : BinOp) (t : TypeId) (x y : Operand) (_ : TypeId) (P : Program) (ρ : Rho) : Option AV :=
  match ρ x with
  | some a => match ρ y with
    | some b => bin P op t x y a b
    | none => none
  | none => none
def qUn (op : UnOp) (_ : TypeId) (x : Operand) (P : Program) (ρ : Rho) : Option AV :=
  match op, ρ x with
  | .not, some (.bool b) => boolI (!b)
  | .neg, some (.int k n) => intI k (wrapF k (0 - n))
  | op, some a => match flat a with
    | some v => viaPure P (Op.unary op v)
    | none => none
  | _, none => none
def qConv (s d : TypeId) (x : Operand) (P : Program) (ρ : Rho) : Option AV :=
  match ρ x with
  | some a => convA P s d a
  | none => none
def qIface (t : TypeId) (x : Operand) (P : Program) (ρ : Rho) : Option AV :=
  match P.underlying t, ρ x with
  | some (.interface _), _ => none
  | some _, some a => some (.iface t a)
  | _, _ => none
def qFunc (fn : Fn) (first captured : Array Operand) (_P : Program) (ρ : Rho) : Option AV :=
  match fn, argsA ρ first.toList, argsA ρ captured.toList with
  | .func f, some p, some l => some (.func f p l)
  | _, _, _ => none
def qSlice (t : TypeId) (x : Operand) (lo hi mx : Option Operand) (P : Program) (ρ : Rho) : Option AV :=
  oM mx (oB (ρ x) fun a => oB (optA ρ lo) fun l => oB (optA ρ hi) fun h => sliceA P t a l h)
    fun m => oB (ρ x) fun a => oB (optA ρ lo) fun l => oB hi fun h => oB (ρ h) fun h => oB (ρ m) fun m => slice3A P t a l h m
def qFieldAddr (s : TypeId) (x : Operand) (f : Nat) (P : Program) (ρ : Rho) : Option AV :=
  match ρ x, P.underlying s with
  | some (.ptr b o), some (.struct fs) => match fs[f]? with
    | some fd => match sizeOfT P fd.type with
      | some (_ + 1) => fNat (o + fd.offset) fun o => some (.ptr b o)
      | _ => none
    | none => none
  | _, _ => none
def qField (t : TypeId) (x : Operand) (f : Nat) (P : Program) (ρ : Rho) : Option AV :=
  match ρ x, P.underlying t with
  | some (.agg cs), some (.struct fs) => match fs[f]? with
    | some fd => partA P fd.type cs fd.offset
    | none => none
  | _, _ => none
def qIndexAddr (t : TypeId) (x ix : Operand) (P : Program) (ρ : Rho) : Option AV :=
  match ρ x, ρ ix with
  | some a, some i => indexAddrA P t a i
  | _, _ => none
def qIndex (t : TypeId) (x ix : Operand) (P : Program) (ρ : Rho) : Option AV :=
  match ρ x, ρ ix with
  | some a, some i => indexA P t a i
  | _, _ => none
def qAssert (x : Operand) (_ asserted : TypeId) (ok : Bool) (P : Program) (ρ : Rho) : Option AV :=
  match ρ x with
  | some a => assertA P a asserted ok
  | none => none
def qExtract (t : Operand) (i : Nat) (_P : Program) (ρ : Rho) : Option AV :=
  match ρ t with
  | some (.tuple vs) => vs[i]?
  | _ => none
def capA (P : Program) (t : TypeId) (x : AV) : Option AV :=
  match P.underlying t, x with
  | some (.slice _), .nilslice => some (.int .i64 0)
  | some (.slice _), .slice _ _ _ c _ true => some (.int .i64 (.ofNat c))
  | some (.slice _), .slice _ _ _ c _ false => some (.least c)
  | _, _ => none
def qCap (args : Array Operand) (ts : Array TypeId) (P : Program) (ρ : Rho) : Option AV :=
  match args.toList, ts.toList with
  | [x], t :: _ => match ρ x with
    | some a => capA P t a
    | none => none
  | _, _ => none
def qLen (args : Array Operand) (ts : Array TypeId) (P : Program) (ρ : Rho) : Option AV :=
  match args.toList, ts.toList with
  | [x], t :: _ => match ρ x with
    | some a => lenA P t a
    | none => none
  | _, _ => none
def qMm (mx : Bool) (args : Array Operand) (_P : Program) (ρ : Rho) : Option AV :=
  match argsA ρ args.toList with
  | some (x :: r) => mmL mx x r
  | _ => none

/-! ### what reads memory, and turns nothing -/
def loadA (P : Program) (σ : AS) (t : TypeId) (b o : Nat) : Option AV :=
  match σ.get b, isAggT P t with
  | some (.cells c size _ _ _ _), some true => match sizeOfT P t with
    | some n => match Nat.ble (o + n) size with
      | true => match readN c n o with
        | some xs => some (.agg xs)
        | none => none
      | false => none
    | none => none
  | some (.cells c size _ _ _ _), some false => match Nat.blt o size with
    | true => c.get o
    | false => none
  | _, _ => none
def keyIs (k e : AV) : Option Bool :=
  match k with
  | .str a => match e with
    | .str b => some (eqL a b)
    | _ => none
  | .int j a => match e with
    | .int j' b => gB (kindEq j j') (some (eqF a b))
    | _ => none
  | _ => none
def findA (k : AV) : List (AV × AV × Nat) → Nat → Option (Option (Nat × AV))
  | [], _ => some none
  | (e, v, _) :: r, i => oB (keyIs k e) fun b => bM b (some (some (i, v))) (findA k r (Nat.succ i))
def keyOk (P : Program) (t : TypeId) (k : AV) : Bool :=
  match P.underlying t, k with
  | some .string, .str _ => true
  | some (.int j), .int j' _ => kindEq j j'
  | _, _ => false
def entriesA (σ : AS) (m : AV) : Option (List (AV × AV × Nat)) :=
  match m with
  | .nilmap => some []
  | .map r => match σ.get r with
    | some (.map es _) => some es
    | _ => none
  | _ => none
def lookupA (P : Program) (σ : AS) (t : TypeId) (m k : AV) (ok : Bool) : Option AV :=
  match P.underlying t with
  | some (.map kt et) => gB (keyOk P kt k) (oB (entriesA σ m) fun es => oB (findA k es 0) fun r =>
      oM r (oB (zeroOfT P et) fun z => some (bM ok (.tuple [z, .bool false]) z)) fun p => some (bM ok (.tuple [p.2, .bool true]) p.2))
  | _ => none
def rLoad (t : TypeId) (a : Operand) (P : Program) (ρ : Rho) (σ : AS) : Option AV :=
  match ρ a with
  | some (.ptr b o) => loadA P σ t b o
  | _ => none
def rSliceArr (t : TypeId) (x : Operand) (lo hi mx : Option Operand) (P : Program) (ρ : Rho) (σ : AS) : Option AV :=
  oM mx (oB (ρ x) fun a => oB (optA ρ lo) fun l => oB (optA ρ hi) fun h =>
    match a, P.underlying t with
    | .ptr b o, some (.array n e) => oB (sizeOfT P e) fun size => sliceArr σ n size b o l h
    | .ptr b o, some (.pointer arr) => match P.underlying arr with
      | some (.array n e) => oB (sizeOfT P e) fun size => sliceArr σ n size b o l h
      | _ => none
    | _, _ => none) fun _ => none
def rLenMap (args : Array Operand) (ts : Array TypeId) (P : Program) (ρ : Rho) (σ : AS) : Option AV :=
  match ts.toList, argsA ρ args.toList with
  | t :: _, some [.map r] => match P.underlying t, σ.get r with
    | some (.map _ _), some (.map es _) => fNat es.length fun n => some (.int .i64 (.ofNat n))
    | _, _ => none
  | t :: _, some [.nilmap] => match P.underlying t with
    | some (.map _ _) => some (.int .i64 0)
    | _ => none
  | _, _ => none
def findBorn (n : Nat) : List (AV × AV × Nat) → Option (AV × AV)
  | [] => none
  | (k, v, m) :: r => match Nat.beq m n with
    | true => some (k, v)
    | false => findBorn n r
def lastOf : List Nat → Option Nat
  | [] => none
  | [n] => some n
  | _ :: r => lastOf r
def rEntry (it : Operand) (_P : Program) (ρ : Rho) (σ : AS) : Option AV :=
  match ρ it with
  | some (.ptr b 0) => match σ.get b with
    | some (.miter m _ seen last) => match σ.get m, lastOf seen with
      | some (.map es clock), some n => match Nat.beq clock last, findBorn n es with
        | true, some (k, v) => some (.tuple [k, v])
        | _, _ => none
      | _, _ => none
    | _ => none
  | _ => none
def rLookup (t : TypeId) (m k : Operand) (ok : Bool) (P : Program) (ρ : Rho) (σ : AS) : Option AV :=
  match ρ m, ρ k with
  | some m, some k => lookupA P σ t m k ok
  | _, _ => none
end
end Go.Proofs.YtjagjjdkgidkjaaGreatDoor.Ev
set_option linter.all false
namespace Go.Proofs.YtjagjjdkgidkjaaGreatDoor.Ev
open Go
noncomputable section

inductive ADef where
  | call (f : FuncId) (args : List AV)
  | mark (b : Nat)
structure APE where
  v : AV
  recovered : Bool
inductive AX where
  | normal
  | exit (id : Nat)
  | goto (l : Nat)
  | ret
  | panic (chain : List APE)
/-- The temporaries, how many, the deferred calls. -/
structure AA where
  tmps : T AV
  n : Nat
  defers : List ADef
def AA.look (α : AA) (t : Nat) : Option AV := oM (T.get α.tmps t) (some (.tuple [])) some
def AA.put (α : AA) (dst : Option Nat) (v : AV) : Option AA :=
  oM dst (some α) fun d => gB (Nat.blt d α.n) (T.seq (T.set α.tmps d v) fun t => some ⟨t, α.n, α.defers⟩)
/-- 'known': which package-level variables are known. -/
def opd (known : Nat → Bool) (look : Nat → Option AV) : Operand → Option AV
  | .tmp t => look t
  | .const v => ofValue v
  | .global g => gB (known g) (some (.ptr g 0))
  | .func f => some (.func f [] [])

/-- What a loud operation comes to. -/
inductive AR where
  | val (v : AV) (σ : AS)
  | defer (d : ADef) (σ : AS)
  | enter (f : FuncId) (args : List AV) (σ : AS)
  | round (b : Nat) (args : List AV) (σ : AS)
  | panic (v : AV) (σ : AS)

def isNilL {α : Type} (l : List α) : Bool :=
  match l with
  | [] => true
  | _ :: _ => false
def fitsA (σ : AS) (b n : Nat) : Bool :=
  match σ.get b with
  | some (.cells _ bs _ _ _ _) => Nat.ble n bs
  | _ => false
def AS.grow (σ : AS) (e : TypeId) (size : Nat) (xs : List AV) (k : Nat) : Option AR :=
  σ.row e xs .loose fun b σ => fNat k fun k => some (.val (.slice b 0 k k size false) σ)
def AS.append (P : Program) (σ : AS) (e : TypeId) (s : AV) (xs : List AV) (n : Nat) : Option AR :=
  oB (sizeOfT P e) fun size => oB (bytesOfT P e) fun bytes => oB (zeroOfT P e) fun z => gB (Nat.beq z.cells.length size) (gB (Nat.beq xs.length (n * size)) (match s with
    | .nilslice => match n with
      | 0 => some (.val .nilslice σ)
      | _ + 1 => gB (Nat.ble (2 * n * bytes) 281474976710656) (gB (Nat.ble n 4611686018427387904) (σ.grow e size xs n))
    | .slice b o len cap esz ex => gB (Nat.beq esz size) (bM (Nat.ble (len + n) cap && (isNilL xs || fitsA σ b (o + (len + n) * size)))
        (match xs with
          | [] => fNat (len + n) fun k => some (.val (.slice b o k cap esz ex) σ)
          | _ => oB (writeL σ b (o + len * size) xs) fun σ => fNat (len + n) fun k => some (.val (.slice b o k cap esz ex) σ))
        (match σ.get b with
          | some (.cells c bs e' frz own kd) => gB (Nat.ble (2 * (len + n) * bytes) 281474976710656) (gB (Nat.ble (len + n) 4611686018427387904) (gB (Nat.ble (o + len * size) bs) (oB (readN c (len * size) o) fun olds =>
            match ex with
              | true => gB (Nat.blt cap (len + n)) (σ.grow e size (olds ++ xs) (len + n))
              | false => gB (own && Nat.beq e e' && Nat.ble frz (o + len * size) && allOne xs)
                (T.seq (lay (olds ++ xs) 0 .nil) fun c => fNat ((len + n) * size) fun m => fNat (frz - o) fun frz =>
                  (σ.upd b .dead).new (.cells c m e frz true (kd.share o)) fun b' σ => fNat (len + n) fun k => some (.val (.slice b' 0 k k size false) σ)))))
          | _ => none))
    | _ => none))

/-- The cells of what is appended or copied: how many elements, and they. -/
def elems (σ : AS) (size : Nat) (x : AV) (n : Nat) : Option (List AV) :=
  match x with
  | .nilslice => some []
  | .slice b o _ _ _ _ => match σ.get b with
    | some (.cells c bs _ _ _ _) => match Nat.ble (o + n * size) bs with
      | true => readN c (n * size) o
      | false => none
    | _ => none
  | .str l => some ((l.take n).map fun b => .int .u8 (.ofNat b))
  | _ => none
def lenOfA : AV → Option Nat
  | .nilslice => some 0
  | .slice _ _ n _ _ _ => some n
  | .str l => fNat l.length some
  | _ => none

/-- The names of functions without a body whose law is plain. -/
def externPure (P : Program) (fn : Func) (args : List AV) : Option AV :=
  match flats (flatN 8) args, Extern.findNext fn, Extern.find fn with
  | some vs, none, some e => viaPure P (e ⟨vs⟩)
  | _, _, _ => none

/-- The words of sync/atomic and of internal/race. -/
inductive Atom where
  | load (k : IntKind)
  | store
  | cas (k : IntKind)
  | add (k : IntKind)
  | nop0
  | nop1
def atomNames : List (String × Atom) :=
  [("sync/atomic.LoadUint32", .load .u32), ("sync/atomic.StoreUint32", .store), ("sync/atomic.CompareAndSwapInt32", .cas .i32), ("sync/atomic.AddInt32", .add .i32),
   ("sync/atomic.LoadInt64", .load .i64), ("sync/atomic.StoreInt64", .store), ("sync/atomic.AddInt64", .add .i64), ("sync/atomic.LoadInt32", .load .i32), ("sync/atomic.StoreInt32", .store),
   ("internal/race.Acquire", .nop1), ("internal/race.Release", .nop1), ("internal/race.ReleaseMerge", .nop1), ("internal/race.Disable", .nop0), ("internal/race.Enable", .nop0)]
def atomOf (n : String) : List (String × Atom) → Option Atom
  | [] => none
  | x :: r => match n == x.1 with
    | true => some x.2
    | false => atomOf n r
def cellI (σ : AS) (k : IntKind) (b o : Nat) : Option Int :=
  match σ.get b with
  | some (.cells c size _ _ _ _) => match Nat.blt o size, c.get o with
    | true, some (.int k' n) => match kindEq k k' with
      | true => some n
      | false => none
    | _, _ => none
  | _ => none
def ownB (σ : AS) (b : Nat) : Bool :=
  match σ.get b with
  | some (.cells _ _ _ _ true _) => true
  | _ => false
def atomA (a : Atom) (σ : AS) (args : List AV) : Option AR :=
  match a with
  | .load k => match args with
    | [.ptr b o] => match cellI σ k b o with
      | some n => some (.val (.int k n) σ)
      | none => none
    | _ => none
  | .store => match args with
    | [.ptr b o, .int k n] => match writeL σ b o [.int k n] with
      | some σ' => some (.val (.tuple []) σ')
      | none => none
    | _ => none
  | .cas k => match args with
    | [.ptr b o, .int k1 x, .int k2 y] => match cellI σ k b o with
      | some z => match writeL σ b o [.int k2 y] with
        | some σ' => match eqF z x with
          | true => some (.val (.bool true) σ')
          | false => some (.val (.bool false) σ)
        | none => none
      | none => none
    | _ => none
  | .add k => match args with
    | [.ptr b o, .int _ y] => match cellI σ k b o with
      | some x => fInt (wrapF k (x + y)) fun z => match writeL σ b o [.int k z] with
        | some σ' => some (.val (.int k z) σ')
        | none => none
      | none => none
    | _ => none
  | .nop0 => some (.val (.tuple []) σ)
  | .nop1 => match args with
    | [.ptr _ _] => some (.val (.tuple []) σ)
    | _ => none
/-- bytealg.MakeNoZero: its bytes are not known; the abstract row is empty. -/
def makeNoZeroA (P : Program) (σ : AS) (ts : List TypeId) (args : List AV) : Option AR :=
  match ts, args with
  | [t], [.int .i64 (.ofNat n)] => match P.underlying t, Nat.ble n 281474976710656 with
    | some (.slice e), true => match sizeOfT P e with
      | some 1 => fNat n fun n => σ.new (.cells .nil 0 e 0 true .loose) fun b σ => some (.val (.slice b 0 n n 1 false) σ)
      | _ => none
    | _, _ => none
  | _, _ => none
def callF (P : Program) (σ : AS) (f : FuncId) (args : List AV) : Option AR :=
  match P.funcs[f]? with
  | some fn => match fn.name == "runtime.NumGoroutine", fn.body with
    | false, some _ => some (.enter f args σ)
    | false, none => match fn.name == "internal/abi.NoEscape", (Extern.findNext fn).isNone, args with
      | true, true, [.ptr b o] => some (.val (.ptr b o) σ)
      | _, _, _ => match atomOf fn.name atomNames, (Extern.findNext fn).isNone with
        | some a, true => atomA a σ args
        | _, nx => match fn.name == "internal/bytealg.MakeNoZero", nx with
         | true, true => makeNoZeroA P σ fn.resultTypes.toList args
         | _, _ => match externPure P fn args with
          | some v => some (.val v σ)
          | none => none
    | true, _ => none
  | none => none

def byte1 : AV → Option Nat
  | .int .u8 (.ofNat b) => gB (Nat.ble b 255) (some b)
  | _ => none
def byteL : List AV → Option (List Nat)
  | [] => some []
  | x :: xs => oB (byte1 x) fun b => oB (byteL xs) fun l => some (b :: l)
def byteConv (P : Program) (σ : AS) (s d : TypeId) (x : AV) : Option AR :=
  match P.underlying s, P.underlying d, x with
  | some (.slice _), some (.slice e), .slice b o n c z x => match Nat.beq s d, P.underlying e, σ.get b with
    | true, some (.int .u8), some (.cells cs bs el 0 true .whole) => some (.val (.slice b o n c z x) (σ.upd b (.cells cs bs el 0 true .wild)))
    | _, _, _ => none
  | some .string, some (.slice e), .str l => match P.underlying e with
    | some (.int .u8) => fNat l.length fun n =>
      σ.row e (l.map fun b => .int .u8 (.ofNat b)) .wild fun b σ => some (.val (.slice b 0 n n 1 false) σ)
    | _ => none
  | some (.slice e), some .string, .nilslice => match P.underlying e with
    | some (.int .u8) => some (.val (.str []) σ)
    | _ => none
  | some (.slice e), some .string, .slice b o n _ _ _ => match P.underlying e with
    | some (.int .u8) => match σ.get b with
      | some (.cells c bs _ _ _ _) => gB (Nat.ble (o + n) bs) (oB (readN c n o) fun xs => oB (byteL xs) fun l => fNats l fun l => some (.val (.str l) σ))
      | _ => none
    | _ => none
  | some (.pointer t), some .unsafePointer, .ptr b o => match σ.get b, sizeOfT P t with
    | some (.cells _ bs _ _ _ _), some (_ + 1) => match Nat.blt o bs with
      | true => some (.val (.ptr b o) σ)
      | false => none
    | _, _ => none
  | some .unsafePointer, some (.pointer u), .ptr b o => match σ.get b, sizeOfT P u with
    | some (.cells _ bs e _ true .whole), some (_ + 1) => match liesAt P P.depth e (bs / P.cellsOf e) o u 1 with
      | true => some (.val (.ptr b o) σ)
      | false => none
    | _, _ => none
  | _, _, _ => match convA P s d x with
    | some v => some (.val v σ)
    | none => none

/-- unsafe.String over bytes. -/
def unsafeStr (P : Program) (σ : AS) (pt : TypeId) (p : AV) (n : Nat) : Option AR :=
  match n with
  | 0 => match p with
    | .nilptr => some (.val (.str []) σ)
    | .ptr _ _ => some (.val (.str []) σ)
    | _ => none
  | _ + 1 => match p, P.underlying pt with
    | .ptr b o, some (.pointer u) => match σ.get b with
      | some (.cells c bs e frz true w) => gB (w.near && Nat.beq o 0) (gB (Nat.beq e u) (gB (Nat.ble (o + n) bs) (oB (sizeOfT P e) fun s => gB (Nat.beq s 1) (oB (readN c n o) fun xs => oB (byteL xs) fun l =>
          fNats l fun l => fNat (max frz (o + n)) fun frz => some (.val (.str l) (σ.upd b (.cells c bs e frz true w)))))))
      | _ => none
    | _, _ => none

def builtinA (P : Program) (σ : AS) (b : Builtin) (ts : List TypeId) (args : List AV) : Option AR :=
  match b with
  | .append => match ts, args with
    | [st, xt], [s, x] => match P.underlying st with
      | some (.slice e) => gB (match P.underlying xt with | some (.slice _) => true | some .string => true | _ => false)
        (oB (sizeOfT P e) fun size => oB (lenOfA x) fun n => oB (elems σ size x n) fun xs => σ.append P e s xs n)
      | _ => none
    | _, _ => none
  | .copy => match ts, args with
    | [dt, _], [d, s] => match P.underlying dt with
      | some (.slice e) => match sizeOfT P e, lenOfA s, d with
        | some _, some _, .nilslice => some (.val (.int .i64 0) σ)
        | some size, some m, .slice b o dn _ _ _ => fNat (min m dn) fun n =>
          match elems σ size s n with
          | some [] => some (.val (.int .i64 (.ofNat n)) σ)
          | some xs => match writeL σ b o xs with
            | some σ => some (.val (.int .i64 (.ofNat n)) σ)
            | none => none
          | none => none
        | _, _, _ => none
      | _ => none
    | _, _ => none
  | .panic => match args with
    | [.iface t v] => some (.panic (.iface t v) σ)
    | _ => none
  | .unsafeSliceData => match args with
    | [.nilslice] => some (.val .nilptr σ)
    | [.slice b o _ cap _ _] => match cap with
      | 0 => none
      | _ + 1 => some (.val (.ptr b o) σ)
    | _ => none
  | .unsafeString => match ts, args with
    | [pt, _], [p, .int .i64 (.ofNat n)] => match Nat.ble n 9223372036854775807 with
      | true => fNat n fun n => unsafeStr P σ pt p n
      | false => none
    | _, _ => none
  | .len => match ts, args with
    | t :: _, [.map r] => match P.underlying t, σ.get r with
      | some (.map _ _), some (.map es _) => fNat es.length fun n => some (.val (.int .i64 (.ofNat n)) σ)
      | _, _ => none
    | _, _ => none
  | _ => none

def setAt (es : List (AV × AV × Nat)) (i : Nat) (v : AV) : List (AV × AV × Nat) :=
  match es with
  | [] => []
  | (k, x, n) :: r => match i with
    | 0 => (k, v, n) :: r
    | j + 1 => (k, x, n) :: setAt r j v

def lAlloc (t : TypeId) (P : Program) (_ρ : Rho) (σ : AS) : Option AR :=
  match zeroOfT P t with
  | some z => σ.row t z.cells .whole fun b σ => some (.val (.ptr b 0) σ)
  | none => none
def lBox (t : TypeId) (x : Operand) (_P : Program) (ρ : Rho) (σ : AS) : Option AR :=
  match ρ x with
  | some v => σ.row t v.cells .whole fun b σ => some (.val (.ptr b 0) σ)
  | none => none
def lBuildSlice (t : TypeId) (len : Nat) (parts : Array (Nat × Operand)) (P : Program) (ρ : Rho) (σ : AS) : Option AR :=
  match P.underlying t, partsA ρ parts.toList with
  | some (.slice e), some l => match sizeOfT P e, zeroOfT P e with
    | some size, some z => match Nat.ble (len * size) 16777216, Nat.beq z.cells.length size with
      | true, true => match fillA (fun i => some (i * size, size)) (List.replicate len z.cells).flatten l with
        | some cs => σ.row e cs .whole fun b σ => fNat len fun n => some (.val (.slice b 0 n n size true) σ)
        | none => none
      | _, _ => none
    | _, _ => none
  | _, _ => none
def lStore (t : TypeId) (a x : Operand) (P : Program) (ρ : Rho) (σ : AS) : Option AR :=
  match ρ a, ρ x, sizeOfT P t with
  | some (.ptr b o), some v, some n => match Nat.beq v.cells.length n with
    | true => match writeL σ b o v.cells with
      | some σ => some (.val (.tuple []) σ)
      | none => none
    | false => none
  | _, _, _ => none
def lConv (s d : TypeId) (x : Operand) (P : Program) (ρ : Rho) (σ : AS) : Option AR :=
  match ρ x with
  | some a => byteConv P σ s d a
  | none => none
def lMakeSlice (t : TypeId) (l c : Operand) (P : Program) (ρ : Rho) (σ : AS) : Option AR :=
  match P.underlying t, ρ l, ρ c with
  | some (.slice e), some a, some b => match natI a, natI b, sizeOfT P e, bytesOfT P e, zeroOfT P e with
    | some n, some m, some size, some bytes, some z => match Nat.ble n m, Nat.ble (bytes * m) 281474976710656, Nat.beq z.cells.length size with
      | true, true, true => match Nat.ble m 1000000 with
        | true => σ.row e (List.replicate m z.cells).flatten .whole fun b σ => some (.val (.slice b 0 n m size true) σ)
        | false => none
      | _, _, _ => none
    | _, _, _, _, _ => none
  | _, _, _ => none
def lMakeMap (t : TypeId) (r : Option Operand) (P : Program) (ρ : Rho) (σ : AS) : Option AR :=
  match P.underlying t, r with
  | some (.map _ _), none => σ.new (.map [] 0) fun b σ => some (.val (.map b) σ)
  | some (.map _ _), some x => match ρ x with
    | some (.int _ _) => σ.new (.map [] 0) fun b σ => some (.val (.map b) σ)
    | _ => none
  | _, _ => none
def lMapUpdate (t : TypeId) (m k x : Operand) (P : Program) (ρ : Rho) (σ : AS) : Option AR :=
  match P.underlying t, ρ m, ρ k, ρ x with
  | some (.map kt _), some (.map r), some k, some v => match keyOk P kt k, σ.get r with
    | true, some (.map es clock) => match findA k es 0 with
      | some (some (i, _)) => some (.val (.tuple []) (σ.upd r (.map (setAt es i v) clock)))
      | some none => some (.val (.tuple []) (σ.upd r (.map (es ++ [(k, v, clock)]) (clock + 1))))
      | none => none
    | _, _ => none
  | _, _, _, _ => none
def lRange (t : TypeId) (x : Operand) (P : Program) (ρ : Rho) (σ : AS) : Option AR :=
  match P.underlying t, ρ x with
  | some .string, some (.str l) => σ.new (.siter l 0) fun b σ => some (.val (.ptr b 0) σ)
  | some (.map _ _), some (.map m) => match σ.get m with
    | some (.map _ clock) => σ.new (.miter m clock [] clock) fun b σ => some (.val (.ptr b 0) σ)
    | _ => none
  | some (.map _ _), some .nilmap => σ.new .niter fun b σ => some (.val (.ptr b 0) σ)
  | _, _ => none
def memN (x : Nat) : List Nat → Bool
  | [] => false
  | y :: r => match Nat.beq x y with
    | true => true
    | false => memN x r
/-- The entries that an iterator has not met. -/
def leftL (seen : List Nat) (es : List (AV × AV × Nat)) : List (AV × AV × Nat) :=
  match es with
  | [] => []
  | e :: r => match memN e.2.2 seen with
    | true => leftL seen r
    | false => e :: leftL seen r
def allNew (last : Nat) (es : List (AV × AV × Nat)) : Bool :=
  match es with
  | [] => true
  | e :: r => match Nat.ble last e.2.2 with
    | true => allNew last r
    | false => false
/-- One more entry, where there is but one, or none. -/
def nextMap (σ : AS) (b m since : Nat) (seen : List Nat) (last : Nat) (es : List (AV × AV × Nat)) (clock : Nat) : Option AR :=
  match isNilL seen || isNilL es || !allNew last es with
  | true => match leftL seen es with
    | [] => some (.val (.tuple [.bool false]) σ)
    | [(k, v, n)] => match Nat.blt n since with
      | true => fNat n fun n => some (.val (.tuple [.bool true, k, v]) (σ.upd b (.miter m since (seen ++ [n]) clock)))
      | false => none
    | _ => none
  | false => none
def lNext (it : Operand) (isString : Bool) (_P : Program) (ρ : Rho) (σ : AS) : Option AR :=
  match isString, ρ it with
  | true, some (.ptr b 0) => match σ.get b with
    | some (.siter s pos) => match Nat.blt pos s.length with
      | false => some (.val (.tuple [.bool false]) σ)
      | true => match s[pos]? with
        | some c => match Nat.blt c 128 with
          | true => fNat pos fun p => fNat c fun c => some (.val (.tuple [.bool true, .int .i64 (.ofNat p), .int .i32 (.ofNat c)]) (σ.upd b (.siter s (Nat.succ p))))
          | false => match Utf8.decode (unbytes s) pos with
            | (c, w) => fNat pos fun p => fNat c fun c => fNat (p + w) fun q => some (.val (.tuple [.bool true, .int .i64 (.ofNat p), .int .i32 (.ofNat c)]) (σ.upd b (.siter s q)))
        | none => none
    | _ => none
  | false, some (.ptr b 0) => match σ.get b with
    | some .niter => some (.val (.tuple [.bool false]) σ)
    | some (.miter m since seen last) => match σ.get m with
      | some (.map es clock) => nextMap σ b m since seen last es clock
      | _ => none
    | _ => none
  | _, _ => none
def lCallB (b : Builtin) (args : Array Operand) (ts : Array TypeId) (P : Program) (ρ : Rho) (σ : AS) : Option AR :=
  match argsA ρ args.toList with
  | some l => builtinA P σ b ts.toList l
  | none => none
def lCall (f : Operand) (args : Array Operand) (P : Program) (ρ : Rho) (σ : AS) : Option AR :=
  match ρ f with
  | some (.func f fst caps) => match argsA ρ args.toList with
    | some l => callF P σ f (fst ++ l ++ caps)
    | none => none
  | some (.yield b) => match argsA ρ args.toList with
    | some l => match σ.get b with
      | some (.loop _ _ ps _ _ _ _) => gB (Nat.beq ps.length l.length) (some (.round b l σ))
      | _ => none
    | none => none
  | _ => none
def lDefer (f : Operand) (args : Array Operand) (_P : Program) (ρ : Rho) (σ : AS) : Option AR :=
  match ρ f, argsA ρ args.toList with
  | some (.func f fst caps), some l => some (.defer (.call f (fst ++ l ++ caps)) σ)
  | _, _ => none
def lPanic (x : Operand) (_P : Program) (ρ : Rho) (σ : AS) : Option AR :=
  match ρ x with
  | some (.iface t v) => some (.panic (.iface t v) σ)
  | _ => none

/-- The law of an operation, and its kind. -/
inductive Hd where
  | quiet (f : Program → Rho → Option AV)
  | reads (f : Program → Rho → AS → Option AV)
  | loud (f : Program → Rho → AS → Option AR)
  | off
def quietConv (P : Program) (s d : TypeId) : Bool :=
  match P.underlying s, P.underlying d with
  | _, some (.int _) | _, some (.float _) => true
  | some .string, some .string | some (.int _), some .string => true
  | _, _ => false
def hdConv (s d : TypeId) (x : Operand) (P : Program) : Hd :=
  match quietConv P s d with
  | true => .quiet (qConv s d x)
  | false => .loud (lConv s d x)
def hdSlice (t : TypeId) (x : Operand) (lo hi mx : Option Operand) (P : Program) : Hd :=
  match P.underlying t with
  | some (.slice _) | some .string => .quiet (qSlice t x lo hi mx)
  | _ => .reads (rSliceArr t x lo hi mx)
def lenOfMap (P : Program) (c : Call) : Bool :=
  match c.argTypes.toList with
  | t :: _ => match P.underlying t with
    | some (.map _ _) => true
    | _ => false
  | _ => false
def hdCall (c : Call) (P : Program) : Hd :=
  match c.callee with
  | .value f => .loud (lCall f c.args)
  | .builtin .len => bM (lenOfMap P c) (.reads (rLenMap c.args c.argTypes)) (.quiet (qLen c.args c.argTypes))
  | .builtin .max => .quiet (qMm true c.args)
  | .builtin .min => .quiet (qMm false c.args)
  | .builtin .cap => .quiet (qCap c.args c.argTypes)
  | .builtin .recover => .off
  | .builtin b => .loud (lCallB b c.args c.argTypes)
  | .invoke .. => .off
def hdDefer (c : Call) (_P : Program) : Hd :=
  match c.callee with
  | .value f => .loud (lDefer f c.args)
  | _ => .off
def headOf (op : Op) : Program → Hd :=
  Op.rec (motive := fun _ => Program → Hd)
    (fun x _ => .quiet (qMove x)) (fun x _ => .quiet (qMove x)) (fun c a b _ => .quiet (qPick c a b))
    (fun t _ => .loud (lAlloc t)) (fun t x _ => .loud (lBox t x)) (fun t ps _ => .quiet (qBuild t ps)) (fun t n ps _ => .loud (lBuildSlice t n ps))
    (fun t m k x _ => .loud (lMapUpdate t m k x)) (fun t a _ => .reads (rLoad t a)) (fun t a x _ => .loud (lStore t a x))
    (fun _ _ => .off) (fun _ _ => .off) (fun x _ => .quiet (qNilCheck x)) (fun op t x y u _ => .quiet (qBin op t x y u)) (fun op t x _ => .quiet (qUn op t x))
    (fun s d x => hdConv s d x) (fun _ _ _ => .off) (fun t x _ => .quiet (qIface t x)) (fun fn f c _ => .quiet (qFunc fn f c))
    (fun t r _ => .loud (lMakeMap t r)) (fun _ _ _ => .off) (fun t l c _ => .loud (lMakeSlice t l c)) (fun t x lo hi mx => hdSlice t x lo hi mx)
    (fun s x f _ => .quiet (qFieldAddr s x f)) (fun t x f _ => .quiet (qField t x f)) (fun t x i _ => .quiet (qIndexAddr t x i)) (fun t x i _ => .quiet (qIndex t x i))
    (fun t m k ok _ => .reads (rLookup t m k ok)) (fun t m k x _ => .loud (lMapUpdate t m k x)) (fun _ _ _ _ => .off) (fun _ _ _ _ _ => .off)
    (fun t x _ => .loud (lRange t x)) (fun it s _ => .loud (lNext it s)) (fun it _ => .reads (rEntry it)) (fun x t a ok _ => .quiet (qAssert x t a ok)) (fun t i _ => .quiet (qExtract t i))
    (fun c => hdCall c) (fun _ _ => .off) (fun c => hdDefer c) (fun x _ => .loud (lPanic x)) (fun _ _ _ => .off) (fun _ _ _ _ => .off) (fun _ _ _ => .off) op

/-- What a call comes to. -/
inductive AE where
  | returned (v : AV)
  | panicked (chain : List APE)
/-- A call of a function, or of a round of a loop over a function. -/
abbrev Rec := Option Nat → FuncId → List AV → AS → Option (AE × AS)

def isTrue (look : Nat → Option AV) (ops : Array Oper) (j : Nat) (want : Bool) : Bool :=
  oM (ops[j]?) false fun o => oM o.dst false fun d => oM (look d) false fun v => match v with
    | .bool b => bM want b (!b)
    | _ => false
def wantedA (look : Nat → Option AV) (ops : Array Oper) (o : Oper) : Bool :=
  oM o.guard true fun g => isTrue look ops g.1 g.2

/-- One operation: a value for its temporary, or a panic. -/
inductive AO where
  | val (v : AV) (σ : AS)
  | defer (d : ADef) (σ : AS)
  | panic (chain : List APE) (σ : AS)
def valO (v : Option AV) (σ : AS) : Option AO := oB v fun v => some (.val v σ)
def retO (r : Option (AE × AS)) : Option AO :=
  oB r fun r => match r.1 with
    | .returned v => some (.val v r.2)
    | .panicked ch => some (.panic ch r.2)
def loudO (call : Rec) (r : Option AR) : Option AO :=
  oB r fun r => match r with
    | .val v σ => some (.val v σ)
    | .defer d σ => some (.defer d σ)
    | .panic v σ => some (.panic [⟨v, false⟩] σ)
    | .enter f args σ => retO (call none f args σ)
    | .round b args σ => retO (call (some b) 0 args σ)
def doOp (P : Program) (known : Nat → Bool) (call : Rec) (look : Nat → Option AV) (σ : AS) (o : Oper) : Option AO :=
  Hd.rec (motive := fun _ => Option AO) (fun f => valO (f P (opd known look)) σ) (fun f => valO (f P (opd known look) σ) σ)
    (fun f => loudO call (f P (opd known look) σ)) none (headOf o.op P)

abbrev Out := Option (AX × AA × AS)
def onward (o : Oper) (α : AA) (ih : AA → AS → Out) (r : AO) : Out :=
  AO.rec (motive := fun _ => Out)
    (fun v σ => oB (α.put o.dst v) fun α => ih α σ)
    (fun d σ => oB ((AA.mk α.tmps α.n (d :: α.defers)).put o.dst (.tuple [])) fun α => ih α σ)
    (fun ch σ => some (.panic ch, α, σ)) r
def runOps (P : Program) (known : Nat → Bool) (call : Rec) (ops : Array Oper) (l : List Oper) : AA → AS → Out :=
  lR (fun α σ => some (.normal, α, σ))
    (fun o ih α σ => bM (wantedA α.look ops o)
      (oB (doOp P known call α.look σ o) fun r => onward o α ih r)
      (oB (α.put o.dst (.tuple [])) fun α => ih α σ)) l

/-! ### regions whose order is open -/
/-- The binding edges of an operation. -/
def bindsOf (o : Oper) : List Nat := (o.after.toList.filter (Region.binds .any)).map (·.on)
/-- Of each operation: the numbers of those that must stand ahead of it, as a number's bits. -/
def maskOf (acc : List Nat) (j : Nat) : List Nat → Nat → Nat
  | [], m => m
  | e :: r, m => maskOf acc j r (Nat.lor (Nat.lor m (Nat.pow 2 e)) (match Nat.blt e j with | true => acc.getD (j - 1 - e) 0 | false => 0))
def masksL : List Oper → Nat → List Nat → List Nat
  | [], _, acc => acc.reverse
  | o :: r, j, acc => fNat (maskOf acc j (bindsOf o) 0) fun m => masksL r (Nat.succ j) (m :: acc)
def masks (ops : Array Oper) : List Nat := masksL ops.toList 0 []
def bitOf (m i : Nat) : Bool := Nat.beq (Nat.mod (Nat.shiftRight m i) 2) 1
/-- The temporaries that an operation looks at. -/
def looksAt (ops : Array Oper) (o : Oper) : List Nat :=
  (o.op.operands.toList.filterMap fun | .tmp t => some t | _ => none) ++
  (match o.guard with
   | some (g, _) => ((ops[g]?).bind (·.dst)).toList
   | none => [])
def touches (d : Option Nat) (l : List Nat) : Bool :=
  match d with
  | none => false
  | some d => memN d l
def sameDst (a b : Option Nat) : Bool :=
  match a, b with
  | some a, some b => Nat.beq a b
  | _, _ => false
def isLoud (P : Program) (o : Oper) : Bool :=
  match headOf o.op P with
  | .loud _ => true
  | .off => true
  | _ => false
/-- May two operations with no order between them be done in either order, as far as the text tells? -/
def pairOk (P : Program) (ops : Array Oper) (x y : Oper) : Bool :=
  !touches x.dst (looksAt ops y) && !touches y.dst (looksAt ops x) && !sameDst x.dst y.dst && !(isLoud P x && isLoud P y)
def pairsOk (P : Program) (ops : Array Oper) (y : Oper) (m : Nat) : List Oper → Nat → Bool
  | [], _ => true
  | x :: r, i => match bitOf m i || pairOk P ops x y with
    | true => pairsOk P ops y m r (Nat.succ i)
    | false => false
def edgesOk : List Oper → Nat → Bool
  | [], _ => true
  | o :: r, j => match (bindsOf o).all (fun e => Nat.blt e j) with
    | true => edgesOk r (Nat.succ j)
    | false => false
def regionOkL (P : Program) (ops : Array Oper) (all : List Oper) : List Oper → List Nat → Nat → Bool
  | [], _, _ => true
  | o :: r, ms, j => match ms with
    | [] => false
    | m :: ms => match pairsOk P ops o m (all.take j) 0 with
      | true => regionOkL P ops all r ms (Nat.succ j)
      | false => false
def regionOk (P : Program) (ops : Array Oper) : Bool :=
  edgesOk ops.toList 0 && regionOkL P ops ops.toList ops.toList (masks ops) 0

/-- What was done: of each operation its number, the temporaries ahead of it, the heap ahead of it and behind it, what it gave (none: passed by). -/
structure Done where
  i : Nat
  α : AA
  σ : AS
  σ' : AS
  v : Option AV
/-- Only the temporaries of a list. -/
def lookIn (l : List Nat) (look : Nat → Option AV) (t : Nat) : Option AV :=
  match memN t l with
  | true => look t
  | false => none
def runDraw (P : Program) (known : Nat → Bool) (call : Rec) (ops : Array Oper) : List Oper → Nat → AA → AS → List Done → Option (AA × AS × List Done)
  | [], _, α, σ, acc => some (α, σ, acc)
  | o :: rest, i, α, σ, acc => bM (wantedA (lookIn (looksAt ops o) α.look) ops o)
    (oB (doOp P known call (lookIn (looksAt ops o) α.look) σ o) fun r => match r with
      | .val v σ' => oB (α.put o.dst v) fun α' => runDraw P known call ops rest (Nat.succ i) α' σ' (⟨i, α, σ, σ', some v⟩ :: acc)
      | _ => none)
    (oB (α.put o.dst (.tuple [])) fun α' => runDraw P known call ops rest (Nat.succ i) α' σ (⟨i, α, σ, σ, none⟩ :: acc))

mutual
def eqAV : AV → AV → Bool
  | .bool a, .bool b => a == b
  | .int k a, .int j b => match kindEq k j with
    | true => eqF a b
    | false => false
  | .float k a, .float j b => decide (k = j) && Nat.beq a b
  | .str a, .str b => eqL a b
  | .nilptr, .nilptr | .nilslice, .nilslice | .nilmap, .nilmap | .nilFunc, .nilFunc | .nilIface, .nilIface => true
  | .ptr a b, .ptr c d => Nat.beq a c && Nat.beq b d
  | .slice a b c d e f, .slice a' b' c' d' e' f' => Nat.beq a a' && Nat.beq b b' && Nat.beq c c' && Nat.beq d d' && Nat.beq e e' && f == f'
  | .map a, .map b => Nat.beq a b
  | .func a p x, .func b q y => Nat.beq a b && eqAVs p q && eqAVs x y
  | .iface t x, .iface u y => Nat.beq t u && eqAV x y
  | .agg x, .agg y => eqAVs x y
  | .tuple x, .tuple y => eqAVs x y
  | _, _ => false
def eqAVs : List AV → List AV → Bool
  | [], [] => true
  | a :: x, b :: y => match eqAV a b with
    | true => eqAVs x y
    | false => false
  | _, _ => false
end

/-- Does a reading give the same in another heap? -/
def stays (P : Program) (known : Nat → Bool) (ops : Array Oper) (o : Oper) (d : Done) (σ : AS) : Bool :=
  match d.v with
  | none => true
  | some v => match headOf o.op P with
    | .reads f => match f P (opd known (lookIn (looksAt ops o) d.α.look)) σ with
      | some u => eqAV v u
      | none => false
    | _ => false
/-- d: a reading; e: a loud operation. If no order stands between them, the reading must be the same on the other side. -/
def windowOk (P : Program) (known : Nat → Bool) (ops : Array Oper) (ms : List Nat) (o : Oper) (d e : Done) : Bool :=
  match Nat.blt d.i e.i with
  | true => bitOf (ms.getD e.i 0) d.i || stays P known ops o d e.σ'
  | false => bitOf (ms.getD d.i 0) e.i || stays P known ops o d e.σ
def windowsOk (P : Program) (known : Nat → Bool) (ops : Array Oper) (ms : List Nat) (all : List Done) : List Done → Bool
  | [] => true
  | d :: r => match ops[d.i]? with
    | none => false
    | some o => match headOf o.op P with
      | .reads _ => match all.all (fun e => match ops[e.i]? with
          | none => false
          | some x => !isLoud P x || windowOk P known ops ms o d e) with
        | true => windowsOk P known ops ms all r
        | false => false
      | _ => windowsOk P known ops ms all r

def drawRegion (P : Program) (known : Nat → Bool) (call : Rec) (ops : Array Oper) (α : AA) (σ : AS) : Option (AX × AA × AS) :=
  match regionOk P ops with
  | true => match runDraw P known call ops ops.toList 0 α σ [] with
    | some (α', σ', ds) => match windowsOk P known ops (masks ops) ds ds with
      | true => some (.normal, α', σ')
      | false => none
    | none => none
  | false => none

/-! ### code -/
def calmOps : List Oper → Bool
  | [] => true
  | o :: r => match o.op with
    | .defer _ => false
    | _ => calmOps r
/-- No deferred call and no loop over a function. -/
def calm : Code → Bool
  | .region _ ops _ => calmOps ops.toList
  | .seq a b => calm a && calm b
  | .cond _ a b => calm a && calm b
  | .block _ a => calm a
  | .loop a => calm a
  | .scope _ => false
  | .rangeFunc .. => false
  | _ => true
/-- The function that was ranged over has ended. -/
def rangeEnd (l : Nat) (α : AA) (r : Option (AE × AS)) : Option (AX × AA × AS) :=
  match r with
  | some (.returned _, σ) => match σ.get l with
    | some (.loop tm n ps ag bo st pd) => match st with
      | .busy => none
      | _ => match pd with
        | none => some (.normal, α, σ.upd l (.loop tm n ps ag bo .exhausted pd))
        | some .ret => some (.ret, α, σ.upd l (.loop tm n ps ag bo .exhausted pd))
        | some (.exit id) => some (.exit id, α, σ.upd l (.loop tm n ps ag bo .exhausted pd))
        | _ => none
    | _ => none
  | some (.panicked ch, σ) => some (.panic ch, α, σ)
  | none => none
def evCode (P : Program) (known : Nat → Bool) (call : Rec) : Nat → Code → AA → AS → Option (AX × AA × AS)
  | 0, _, _, _ => none
  | n + 1, c, α, σ =>
    match c with
    | .skip | .label _ => some (.normal, α, σ)
    | .exit id => some (.exit id, α, σ)
    | .ret => some (.ret, α, σ)
    | .seq a b => match evCode P known call n a α σ with
      | some (.normal, α, σ) => evCode P known call n b α σ
      | r => r
    | .cond c a b => match opd known α.look c with
      | some (.bool true) => evCode P known call n a α σ
      | some (.bool false) => evCode P known call n b α σ
      | _ => none
    | .block id b => match evCode P known call n b α σ with
      | some (.exit id', α, σ) => match Nat.beq id' id with
        | true => some (.normal, α, σ)
        | false => some (.exit id', α, σ)
      | r => r
    | .loop b => match evCode P known call n b α σ with
      | some (.normal, α, σ) => evCode P known call n (.loop b) α σ
      | r => r
    | .region _ ops false => runOps P known call ops ops.toList α σ
    | .region _ ops true => drawRegion P known call ops α σ
    | .scope b => match evCode P known call n b α σ with
      | some (.goto _, _, _) => none
      | r => r
    | .rangeFunc g ps assign body => gB (calm assign && calm body) (match opd known α.look g with
      | some (.func f fst caps) => σ.new .dfr fun d σ => σ.new (.loop α.tmps α.n ps.toList assign body .ready none) fun l σ =>
        match callF P σ f (fst ++ [.yield l] ++ caps) with
        | some (.enter f args σ) => rangeEnd l (AA.mk α.tmps α.n (.mark d :: α.defers)) (call none f args σ)
        | _ => none
      | _ => none)
    | _ => none

/-- The body of a deferred function that may call recover: x := recover() in a region of its own; 'mode': the chain of the frame below, none where it returns. -/
def resultsA (P : Program) (σ : AS) (α : AA) : List ResultVar → Option (List AV)
  | [] => some []
  | .tmp t :: r => oB (α.look t) fun v => oB (resultsA P σ α r) fun l => some (v :: l)
  | .cell a t :: r => match α.look a with
    | some (.ptr b o) => match loadA P σ t b o, resultsA P σ α r with
      | some v, some l => some (v :: l)
      | _, _ => none
    | _ => none
def resultA (P : Program) (σ : AS) (α : AA) (fn : Func) : Option AV :=
  match resultsA P σ α fn.results.toList with
  | some [v] => some v
  | some l => some (.tuple l)
  | none => none

/-- recover(): its place is a region of its own, in a body that is run as a deferred call. -/
def isRecover (o : Oper) : Bool :=
  match o.op with
  | .call c => match c.callee with
    | .builtin .recover => true
    | _ => false
  | _ => false
/-- The mode of the frame below: none: it returns; some chain: it panics. -/
abbrev AM := Option (List APE)
/-- An operation that calls nothing. -/
def doOpS (P : Program) (known : Nat → Bool) (look : Nat → Option AV) (σ : AS) (o : Oper) : Option AO :=
  match headOf o.op P with
  | .quiet f => valO (f P (opd known look)) σ
  | .reads f => valO (f P (opd known look) σ) σ
  | .loud f => match f P (opd known look) σ with
    | some (.val v σ) => some (.val v σ)
    | some (.panic v σ) => some (.panic [⟨v, false⟩] σ)
    | _ => none
  | .off => none
def runOpsD (P : Program) (known : Nat → Bool) (call : Rec) (ops : Array Oper) : List Oper → AA → AM → AS → Option (AX × AA × AM × AS)
  | [], α, u, σ => some (.normal, α, u, σ)
  | o :: rest, α, u, σ => bM (wantedA α.look ops o)
    (match isRecover o with
      | true => match u with
        | some (⟨v, false⟩ :: older) => oB (α.put o.dst v) fun α => runOpsD P known call ops rest α (some (⟨v, true⟩ :: older)) σ
        | _ => oB (α.put o.dst .nilIface) fun α => runOpsD P known call ops rest α u σ
      | false => oB (doOpS P known α.look σ o) fun r => match r with
        | .val v σ => oB (α.put o.dst v) fun α => runOpsD P known call ops rest α u σ
        | .panic ch σ => some (.panic ch, α, u, σ)
        | _ => none)
    (oB (α.put o.dst (.tuple [])) fun α => runOpsD P known call ops rest α u σ)
/-- A body with recover: sequences, tests, regions in order; whatever else holds no recover and goes the plain way. -/
def evCodeD (P : Program) (known : Nat → Bool) (call : Rec) : Nat → Code → AA → AM → AS → Option (AX × AA × AM × AS)
  | 0, _, _, _, _ => none
  | n + 1, c, α, u, σ =>
    match c with
    | .seq a b => match evCodeD P known call n a α u σ with
      | some (.normal, α, u, σ) => evCodeD P known call n b α u σ
      | r => r
    | .cond c a b => match opd known α.look c with
      | some (.bool true) => evCodeD P known call n a α u σ
      | some (.bool false) => evCodeD P known call n b α u σ
      | _ => none
    | .region i ops false => bM (ops.toList.any isRecover) (runOpsD P known call ops ops.toList α u σ) (match evCode P known call n (.region i ops false) α σ with
      | some (x, α, σ) => some (x, α, u, σ)
      | none => none)
    | c => match evCode P known call n c α σ with
      | some (x, α, σ) => some (x, α, u, σ)
      | none => none

def AA.start (fn : Func) (args : List AV) : AA :=
  fNat (max fn.ntmps args.length) fun n => (lay args 0 .nil).seq fun t => ⟨t, n, []⟩

/-- A deferred call: what becomes of the mode of the frame below. -/
def callD (P : Program) (known : Nat → Bool) (call : Rec) (n : Nat) (f : FuncId) (args : List AV) (u : AM) (σ : AS) : Option (AE × AM × AS) :=
  match P.funcs[f]? with
  | none => none
  | some fn => match fn.body, fn.name == "runtime.NumGoroutine" with
    | some c, false =>
      match evCodeD P known call n c (AA.start fn args) u σ with
      | some (.normal, α, u, σ) | some (.ret, α, u, σ) => match α.defers, resultA P σ α fn with
        | [], some v => some (.returned v, u, σ)
        | _, _ => none
      | some (.panic ch, α, u, σ) => match α.defers with
        | [] => some (.panicked ch, u, σ)
        | _ => none
      | _ => none
    | _, _ => none
def settleA : AM → AM
  | some (⟨_, true⟩ :: _) => none
  | u => u
def raisedA (u : AM) (ch : List APE) : AM :=
  match u with
  | some old => some (ch ++ old)
  | none => some ch
def leaves (P : Program) (known : Nat → Bool) (call : Rec) (n : Nat) (fn : Func) (α : AA) : List ADef → AM → AS → Option (AE × AS)
  | [], none, σ => match resultA P σ α fn with
    | some v => some (.returned v, σ)
    | none => none
  | [], some ch, σ => some (.panicked ch, σ)
  | .call f args :: ds, u, σ => match callD P known call n f args u σ with
    | some (.returned _, u, σ) => leaves P known call n fn α ds (settleA u) σ
    | some (.panicked ch, u, σ) => leaves P known call n fn α ds (raisedA u ch) σ
    | none => none
  | .mark _ :: _, _, _ => none

/-- yield's arguments, laid into the temporaries. -/
def putAll (n : Nat) : List Nat → List AV → T AV → Option (T AV)
  | t :: ts, x :: xs, m => gB (Nat.blt t n) (T.seq (T.set m t x) fun m => putAll n ts xs m)
  | [], [], m => some m
  | _, _, _ => none
/-- The end of a round. -/
def roundEnd (b : Nat) (σ : AS) (pd : Option Code) : Option (AE × AS) :=
  match σ.get b with
  | some (.loop tm n ps ag bo _ _) => match pd with
    | none => some (.returned (.bool true), σ.upd b (.loop tm n ps ag bo .ready none))
    | some c => some (.returned (.bool false), σ.upd b (.loop tm n ps ag bo .done (some c)))
  | _ => none
/-- A round of a loop over a function. -/
def evRound (P : Program) (known : Nat → Bool) (call : Rec) (N : Nat) (b : Nat) (args : List AV) (σ : AS) : Option (AE × AS) :=
  match σ.get b with
  | some (.loop tm n ps ag bo _ _) => gB (calm ag && calm bo) (oB (putAll n ps args tm) fun tm' => match evCode P known call N ag (AA.mk tm' n []) σ with
    | some (.normal, α, σ) => match σ.get b with
      | some (.loop tm n ps ag' bo' .ready pd) => match evCode P known call N bo α (σ.upd b (.loop tm n ps ag' bo' .busy pd)) with
        | some (.normal, _, σ) => roundEnd b σ none
        | some (.ret, _, σ) => roundEnd b σ (some .ret)
        | some (.exit id, _, σ) => roundEnd b σ (some (.exit id))
        | _ => none
      | _ => none
    | _ => none)
  | _ => none
/-- The marks of loops over functions, where there are no other deferred calls. -/
def marksOf : List ADef → Option (List Nat)
  | [] => some []
  | .mark b :: r => oB (marksOf r) fun l => some (b :: l)
  | .call _ _ :: _ => none
def leavesM (P : Program) (fn : Func) (α : AA) : List Nat → AM → AS → Option (AE × AS)
  | [], none, σ => match resultA P σ α fn with
    | some v => some (.returned v, σ)
    | none => none
  | [], some ch, σ => some (.panicked ch, σ)
  | b :: bs, u, σ => match σ.get b with
    | some .dfr => leavesM P fn α bs u (σ.upd b .dead)
    | _ => none
/-- The end of a function's frame. -/
def leaveA (P : Program) (known : Nat → Bool) (call : Rec) (N : Nat) (fn : Func) (α : AA) (u : AM) (σ : AS) : Option (AE × AS) :=
  match marksOf α.defers with
  | some bs => leavesM P fn α bs u σ
  | none => leaves P known call N fn α α.defers u σ
def evCall (P : Program) (known : Nat → Bool) : Nat → Rec
  | 0, _, _, _, _ => none
  | n + 1, some b, _, args, σ => evRound P known (evCall P known n) 1000000 b args σ
  | n + 1, none, f, args, σ => match P.funcs[f]? with
    | none => none
    | some fn => match fn.body with
      | none => none
      | some c => match evCode P known (evCall P known n) 1000000 c (AA.start fn args) σ with
        | some (.normal, α, σ) | some (.ret, α, σ) => leaveA P known (evCall P known n) 1000000 fn α none σ
        | some (.panic ch, α, σ) => leaveA P known (evCall P known n) 1000000 fn α (some ch) σ
        | _ => none
end
end Go.Proofs.YtjagjjdkgidkjaaGreatDoor.Ev
set_option linter.all false
namespace Go.Proofs.YtjagjjdkgidkjaaGreatDoor.Ev
open Go Go.RowKit

/-- Where an abstract block lies: the real block, the first cell, how many cells the real block has. -/
abbrev Pi := Nat → Option (Nat × Nat × Nat)

mutual
/-- An abstract value and a real one. -/
def VR (π : Pi) : AV → Value → Prop
  | .bool b, v => v = .bool b
  | .int k n, v => v = .int k n
  | .float k b, v => v = .float k b
  | .str l, v => ∃ s, v = .string s ∧ bytesOf s = l
  | .nilptr, v => v = .pointer none
  | .ptr b o, v => ∃ rb δ rs, π b = some (rb, δ, rs) ∧ v = .pointer (some ⟨rb, δ + o, none⟩)
  | .nilslice, v => v = .slice none 0 0
  | .slice b o len cap esz ex, v => ∃ rb δ rs off cap', π b = some (rb, δ, rs) ∧ v = .slice (some ⟨rb, off, none⟩) len cap' ∧
      (off = δ + o ∨ (len = 0 ∧ cap' = 0)) ∧ cap ≤ cap' ∧ (ex = true → cap' = cap) ∧ off + cap' * esz ≤ rs
  | .nilmap, v => v = .map none
  | .map r, v => ∃ rb δ rs, π r = some (rb, δ, rs) ∧ v = .map (some rb)
  | .func f fst caps, v => ∃ ps cs, v = .func (.func f) ⟨ps⟩ ⟨cs⟩ ∧ VRL π fst ps ∧ VRL π caps cs
  | .nilFunc, v => v = .nilFunc
  | .iface t x, v => ∃ y, v = .iface t y ∧ VR π x y
  | .nilIface, v => v = .nilIface
  | .agg xs, v => ∃ ys, v = .agg ⟨ys⟩ ∧ VRL π xs ys
  | .tuple xs, v => ∃ ys, v = .tuple ⟨ys⟩ ∧ VRL π xs ys
  | .ostr cs, v => ∃ s, v = .string s ∧ bytesOf s ∉ cs
  | .least n, v => ∃ m : Nat, n ≤ m ∧ v = .int .i64 (.ofNat m)
  | .any, v => v.oneCell' = true ∧ ∀ b, v ≠ .bool b
  | .yield b, v => ∃ rb rs, π b = some (rb, 0, rs) ∧ v = .func (.yield rb) #[] #[]
def VRL (π : Pi) : List AV → List Value → Prop
  | [], ys => ys = []
  | x :: xs, ys => ∃ y r, ys = y :: r ∧ VR π x y ∧ VRL π xs r
end

def Pi.le (π π' : Pi) : Prop := ∀ b p, π b = some p → π' b = some p
theorem Pi.le_refl (π : Pi) : π.le π := fun _ _ h => h
theorem Pi.le_trans {a b c : Pi} (h : a.le b) (k : b.le c) : a.le c := fun i p e => k i p (h i p e)

mutual
theorem VR.mono {π π' : Pi} (h : π.le π') : ∀ (x : AV) (v : Value), VR π x v → VR π' x v
  | .bool _, _, e => by simpa [VR] using e
  | .int _ _, _, e => by simpa [VR] using e
  | .float _ _, _, e => by simpa [VR] using e
  | .str _, _, e => by simpa [VR] using e
  | .nilptr, _, e => by simpa [VR] using e
  | .ptr _ _, _, e => by
    simp only [VR] at e ⊢
    obtain ⟨rb, δ, rs, e1, e2⟩ := e
    exact ⟨rb, δ, rs, h _ _ e1, e2⟩
  | .nilslice, _, e => by simpa [VR] using e
  | .slice .., _, e => by
    simp only [VR] at e ⊢
    obtain ⟨rb, δ, rs, off, cap', e1, e2⟩ := e
    exact ⟨rb, δ, rs, off, cap', h _ _ e1, e2⟩
  | .nilmap, _, e => by simpa [VR] using e
  | .map _, _, e => by
    simp only [VR] at e ⊢
    obtain ⟨rb, δ, rs, e1, e2⟩ := e
    exact ⟨rb, δ, rs, h _ _ e1, e2⟩
  | .func _ fst caps, _, e => by
    simp only [VR] at e ⊢
    obtain ⟨ps, cs, e1, e2, e3⟩ := e
    exact ⟨ps, cs, e1, VRL.mono h fst ps e2, VRL.mono h caps cs e3⟩
  | .nilFunc, _, e => by simpa [VR] using e
  | .iface _ x, _, e => by
    simp only [VR] at e ⊢
    obtain ⟨y, e1, e2⟩ := e
    exact ⟨y, e1, VR.mono h x y e2⟩
  | .nilIface, _, e => by simpa [VR] using e
  | .ostr _, _, e => by simpa [VR] using e
  | .least _, _, e => by simpa [VR] using e
  | .any, _, e => by simpa [VR] using e
  | .yield _, _, e => by
    simp only [VR] at e ⊢
    obtain ⟨rb, rs, e1, e2⟩ := e
    exact ⟨rb, rs, h _ _ e1, e2⟩
  | .agg xs, _, e => by
    simp only [VR] at e ⊢
    obtain ⟨ys, e1, e2⟩ := e
    exact ⟨ys, e1, VRL.mono h xs ys e2⟩
  | .tuple xs, _, e => by
    simp only [VR] at e ⊢
    obtain ⟨ys, e1, e2⟩ := e
    exact ⟨ys, e1, VRL.mono h xs ys e2⟩
theorem VRL.mono {π π' : Pi} (h : π.le π') : ∀ (xs : List AV) (vs : List Value), VRL π xs vs → VRL π' xs vs
  | [], _, e => by simpa [VRL] using e
  | x :: xs, _, e => by
    simp only [VRL] at e ⊢
    obtain ⟨y, r, e1, e2, e3⟩ := e
    exact ⟨y, r, e1, VR.mono h x y e2, VRL.mono h xs r e3⟩
end

/-! ### lists of related values -/
theorem VRL.length {π : Pi} : ∀ {xs : List AV} {vs : List Value}, VRL π xs vs → vs.length = xs.length
  | [], _, e => by simp only [VRL] at e; subst e; rfl
  | x :: xs, _, e => by
    simp only [VRL] at e
    obtain ⟨y, r, rfl, _, e3⟩ := e
    simp [VRL.length e3]
theorem VRL.get {π : Pi} : ∀ {xs : List AV} {vs : List Value}, VRL π xs vs → ∀ (i : Nat) (x : AV), xs[i]? = some x → ∃ v, vs[i]? = some v ∧ VR π x v
  | [], _, _, i, x, hx => by simp at hx
  | x :: xs, _, e, i, y, hy => by
    simp only [VRL] at e
    obtain ⟨v, r, rfl, e2, e3⟩ := e
    cases i with
    | zero => simp at hy; subst hy; exact ⟨v, by simp, e2⟩
    | succ i => simp at hy; obtain ⟨u, hu, hv⟩ := VRL.get e3 i y hy; exact ⟨u, by simpa using hu, hv⟩
theorem VRL.append {π : Pi} : ∀ {xs ys : List AV} {vs us : List Value}, VRL π xs vs → VRL π ys us → VRL π (xs ++ ys) (vs ++ us)
  | [], _, _, _, e, k => by simp only [VRL] at e; subst e; simpa using k
  | x :: xs, ys, _, us, e, k => by
    simp only [VRL] at e
    obtain ⟨v, r, rfl, e2, e3⟩ := e
    simp only [List.cons_append, VRL]
    exact ⟨v, r ++ us, rfl, e2, VRL.append e3 k⟩
theorem VRL.take {π : Pi} : ∀ (n : Nat) {xs : List AV} {vs : List Value}, VRL π xs vs → VRL π (xs.take n) (vs.take n)
  | 0, _, _, _ => by simp [VRL]
  | n + 1, [], _, e => by simp only [VRL] at e; subst e; simp [VRL]
  | n + 1, x :: xs, _, e => by
    simp only [VRL] at e
    obtain ⟨v, r, rfl, e2, e3⟩ := e
    simp only [List.take_succ_cons, VRL]
    exact ⟨v, _, rfl, e2, VRL.take n e3⟩
theorem VRL.drop {π : Pi} : ∀ (n : Nat) {xs : List AV} {vs : List Value}, VRL π xs vs → VRL π (xs.drop n) (vs.drop n)
  | 0, _, _, e => by simpa using e
  | n + 1, [], _, e => by simp only [VRL] at e; subst e; simp [VRL]
  | n + 1, x :: xs, _, e => by
    simp only [VRL] at e
    obtain ⟨v, r, rfl, e2, e3⟩ := e
    simpa using VRL.drop n e3
theorem VRL.nil {π : Pi} : VRL π [] [] := by simp [VRL]
theorem VRL.cons {π : Pi} {x : AV} {xs : List AV} {v : Value} {vs : List Value} (h : VR π x v) (k : VRL π xs vs) : VRL π (x :: xs) (v :: vs) := by
  simp only [VRL]; exact ⟨v, vs, rfl, h, k⟩

/-! ### the trie -/
theorem T.seq_eq {α β : Type} (u : T α) (k : T α → β) : T.seq u k = k u := by cases u <;> rfl
section
variable {α : Type} (p q : Way) (v : Option α) (l r : T α) (x : α)
theorem put_here_nil : T.put .here .nil x = .node (some x) .nil .nil := rfl
theorem put_here : T.put .here (.node v l r) x = .node (some x) l r := rfl
theorem put_lo_nil : T.put (.lo p) .nil x = .node none (T.put p .nil x) .nil := T.seq_eq (T.put p .nil x) fun l => T.node none l .nil
theorem put_lo : T.put (.lo p) (.node v l r) x = .node v (T.put p l x) r := T.seq_eq (T.put p l x) fun l => T.node v l r
theorem put_hi_nil : T.put (.hi p) .nil x = .node none .nil (T.put p .nil x) := T.seq_eq (T.put p .nil x) fun r => T.node none .nil r
theorem put_hi : T.put (.hi p) (.node v l r) x = .node v l (T.put p r x) := T.seq_eq (T.put p r x) fun r => T.node v l r
theorem at_nil : T.at p (.nil : T α) = none := by cases p <;> rfl
theorem at_here : T.at .here (.node v l r) = v := rfl
theorem at_lo : T.at (.lo p) (.node v l r) = T.at p l := rfl
theorem at_hi : T.at (.hi p) (.node v l r) = T.at p r := rfl
end
theorem at_put_same {α : Type} (p : Way) : ∀ (t : T α) (x : α), T.at p (T.put p t x) = some x := by
  induction p with
  | here => intro t x; cases t <;> rfl
  | lo p ih => intro t x; cases t <;> simp only [put_lo_nil, put_lo, at_lo, ih]
  | hi p ih => intro t x; cases t <;> simp only [put_hi_nil, put_hi, at_hi, ih]
theorem at_put_ne {α : Type} (p : Way) : ∀ (q : Way) (t : T α) (x : α), q ≠ p → T.at q (T.put p t x) = T.at q t := by
  induction p with
  | here => intro q t x h; cases q <;> cases t <;> first | exact absurd rfl h | simp only [put_here_nil, put_here, at_lo, at_hi, at_nil]
  | lo p ih =>
    intro q t x h
    cases q with
    | here => cases t <;> simp only [put_lo_nil, put_lo, at_here, at_nil]
    | hi q => cases t <;> simp only [put_lo_nil, put_lo, at_hi, at_nil]
    | lo q =>
      have hq : q ≠ p := fun e => h (by rw [e])
      cases t <;> simp only [put_lo_nil, put_lo, at_lo, ih _ _ _ hq, at_nil]
  | hi p ih =>
    intro q t x h
    cases q with
    | here => cases t <;> simp only [put_hi_nil, put_hi, at_here, at_nil]
    | lo q => cases t <;> simp only [put_hi_nil, put_hi, at_lo, at_nil]
    | hi q =>
      have hq : q ≠ p := fun e => h (by rw [e])
      cases t <;> simp only [put_hi_nil, put_hi, at_hi, ih _ _ _ hq, at_nil]
theorem wayN_zero (f : Nat) : wayN (f + 1) 0 = .here := rfl
theorem wayN_succ (f m : Nat) : wayN (f + 1) (m + 1) = if m % 2 = 0 then .lo (wayN f (m / 2)) else .hi (wayN f (m / 2)) := by
  show (Nat.rec (motive := fun _ => Way) (Way.lo (wayN f (m / 2))) (fun _ _ => Way.hi (wayN f (m / 2))) (m % 2)) = _
  cases h : m % 2 with
  | zero => rw [if_pos rfl]; rfl
  | succ k => rw [if_neg (by omega)]
theorem wayN_inj : ∀ (f g a b : Nat), a < f → b < g → wayN f a = wayN g b → a = b := by
  intro f
  induction f with
  | zero => intro g a b ha; omega
  | succ f ih =>
    intro g a b ha hb h
    obtain ⟨g, rfl⟩ : ∃ k, g = k + 1 := ⟨g - 1, by omega⟩
    cases a with
    | zero =>
      cases b with
      | zero => rfl
      | succ k => rw [wayN_zero, wayN_succ] at h; split at h <;> cases h
    | succ m =>
      cases b with
      | zero => rw [wayN_zero, wayN_succ] at h; split at h <;> cases h
      | succ k =>
        rw [wayN_succ, wayN_succ] at h
        split at h <;> split at h
        · injection h with h
          have := ih g (m / 2) (k / 2) (by omega) (by omega) h
          omega
        · cases h
        · cases h
        · injection h with h
          have := ih g (m / 2) (k / 2) (by omega) (by omega) h
          omega
theorem way_inj {a b : Nat} (h : way a = way b) : a = b := wayN_inj _ _ _ _ (Nat.lt_succ_self a) (Nat.lt_succ_self b) h
theorem T.get_set {α : Type} (t : T α) (n : Nat) (x : α) : (t.set n x).get n = some x := at_put_same _ _ _
theorem T.get_set_ne {α : Type} (t : T α) {n m : Nat} (x : α) (h : m ≠ n) : (t.set n x).get m = t.get m := at_put_ne _ _ _ _ (fun e => h (way_inj e))
theorem T.get_nil {α : Type} (n : Nat) : (T.nil : T α).get n = none := at_nil _
theorem fNat_eq {β : Type} (n : Nat) (k : Nat → β) : fNat n k = k n := by cases n <;> rfl
theorem fInt_eq {β : Type} (n : Int) (k : Int → β) : fInt n k = k n := by cases n <;> (rename_i m; cases m <;> rfl)
theorem fNats_eq {β : Type} (l : List Nat) : ∀ (k : List Nat → β), fNats l k = k l := by
  induction l with
  | nil => intro k; rfl
  | cons x xs ih =>
    intro k
    show fNat x (fun x => fNats xs fun xs => k (x :: xs)) = _
    rw [fNat_eq, ih]
theorem fBool_eq {β : Type} (b : Bool) (k : Bool → β) : fBool b k = k b := by cases b <;> rfl
theorem oB_some {α β : Type} {x : Option α} {s : α → Option β} {y : β} (h : oB x s = some y) : ∃ a, x = some a ∧ s a = some y := by
  cases x with
  | none => cases h
  | some a => exact ⟨a, rfl, h⟩
theorem gB_some {β : Type} {b : Bool} {y : Option β} {z : β} (h : gB b y = some z) : b = true ∧ y = some z := by
  cases b with
  | false => cases h
  | true => exact ⟨rfl, h⟩
theorem oB_iff {α β : Type} {x : Option α} {s : α → Option β} {y : β} : oB x s = some y ↔ ∃ a, x = some a ∧ s a = some y :=
  ⟨oB_some, fun ⟨a, h1, h2⟩ => by subst h1; exact h2⟩
theorem gB_iff {β : Type} {b : Bool} {y : Option β} {z : β} : gB b y = some z ↔ b = true ∧ y = some z :=
  ⟨gB_some, fun ⟨h1, h2⟩ => by subst h1; exact h2⟩
end Go.Proofs.YtjagjjdkgidkjaaGreatDoor.Ev
set_option linter.all false
namespace Go.Proofs.YtjagjjdkgidkjaaGreatDoor.Ev
open Go Go.RowKit

theorem gB_true {β : Type} {b : Bool} {y : Option β} {z : β} (h : gB b y = some z) : b = true := (gB_some h).1
theorem lR_nil {α β : Type} (z : β) (f : α → β → β) : lR z f [] = z := rfl
theorem lR_cons {α β : Type} (z : β) (f : α → β → β) (x : α) (l : List α) : lR z f (x :: l) = f x (lR z f l) := rfl
theorem bM_eq {β : Type} (b : Bool) (y n : β) : bM b y n = if b then y else n := by cases b <;> rfl
theorem oM_none {α β : Type} (n : β) (s : α → β) : oM none n s = n := rfl
theorem oM_some {α β : Type} (a : α) (n : β) (s : α → β) : oM (some a) n s = s a := rfl

theorem lay_nil (i : Nat) (t : T AV) : lay [] i t = t := rfl
theorem lay_cons (x : AV) (xs : List AV) (i : Nat) (t : T AV) : lay (x :: xs) i t = lay xs (i + 1) (t.set i x) := by
  show fNat i (fun i => T.seq (T.set t i x) fun t => lay xs (Nat.succ i) t) = _
  rw [fNat_eq, T.seq_eq]
theorem get_lay : ∀ (xs : List AV) (o : Nat) (t : T AV) (i : Nat), (lay xs o t).get i = if o ≤ i ∧ i < o + xs.length then xs[i - o]? else t.get i
  | [], o, t, i => by rw [lay_nil, if_neg (by simp)]
  | x :: xs, o, t, i => by
    rw [lay_cons, get_lay xs (o + 1) (t.set o x) i]
    by_cases h : i = o
    · subst h
      rw [if_neg (by omega), if_pos ⟨by omega, by simp⟩, T.get_set]
      simp
    · by_cases h2 : o + 1 ≤ i ∧ i < o + 1 + xs.length
      · rw [if_pos h2, if_pos ⟨by omega, by simp; omega⟩]
        obtain ⟨k, hk⟩ : ∃ k, i - o = k + 1 := ⟨i - o - 1, by omega⟩
        rw [hk, show i - (o + 1) = k by omega]
        simp
      · rw [if_neg h2, T.get_set_ne _ _ h]
        rw [if_neg]
        simp
        omega
theorem readN_some {c : T AV} : ∀ {n o : Nat} {xs : List AV}, readN c n o = some xs → xs.length = n ∧ ∀ j, j < n → c.get (o + j) = xs[j]?
  | 0, o, xs, h => by simp only [readN, Option.some.injEq] at h; subst h; exact ⟨rfl, fun j hj => by omega⟩
  | n + 1, o, xs, h => by
    simp only [readN, fNat_eq] at h
    obtain ⟨x, hx, h⟩ := oB_some h
    obtain ⟨r, hr, h⟩ := oB_some h
    simp only [Option.some.injEq] at h
    subst h
    obtain ⟨h1, h2⟩ := readN_some hr
    refine ⟨by simp [h1], fun j hj => ?_⟩
    cases j with
    | zero => simpa using hx
    | succ j => have := h2 j (by omega); simp only [Nat.succ_eq_add_one] at this; rw [show o + (j + 1) = o + 1 + j by omega, this]; simp
theorem allOne_cons {x : AV} {xs : List AV} (h : allOne (x :: xs) = true) : x.one = true ∧ allOne xs = true := by
  have h' : bM x.one (allOne xs) false = true := h
  rw [bM_eq] at h'
  cases hx : x.one <;> simp_all
theorem allOne_one {π : Pi} : ∀ {xs : List AV} {vs : List Value}, allOne xs = true → VRL π xs vs → ∀ v ∈ vs, v.oneCell' = true
  | [], _, _, e, v, hv => by simp only [VRL] at e; subst e; simp at hv
  | x :: xs, _, h, e, v, hv => by
    simp only [VRL] at e
    obtain ⟨y, r, rfl, e2, e3⟩ := e
    obtain ⟨h1, h2⟩ := allOne_cons h
    rcases List.mem_cons.1 hv with rfl | hv
    · cases x <;> simp only [VR] at e2 <;> simp only [AV.one] at h1 <;> first
        | (subst e2; rfl)
        | exact e2.1
        | (obtain ⟨s, rfl, _⟩ := e2; rfl)
        | (obtain ⟨_, _, _, _, rfl⟩ := e2; rfl)
        | (obtain ⟨_, _, rfl, _⟩ := e2; rfl)
        | (obtain ⟨_, _, _, _, _, _, rfl, _⟩ := e2; rfl)
        | cases h1
    · exact allOne_one h2 e3 v hv

/-! ### the worlds -/
theorem setCells_heap (b : Nat) : ∀ (vs : List Value) (o : Nat) (w : World) (cs : Array Value) (e : TypeId) (fr : Nat × Nat), w.heap[b]? = some (.cells cs e fr) →
    ∃ cs' : Array Value, (w.setCells b o vs).heap[b]? = some (.cells cs' e fr) ∧ cs'.size = cs.size ∧ ∀ i, cs'[i]? = if o ≤ i ∧ i < o + vs.length ∧ i < cs.size then vs[i - o]? else cs[i]?
  | [], o, w, cs, e, fr, h => ⟨cs, h, rfl, fun i => by rw [if_neg (by simp; omega)]⟩
  | v :: r, o, w, cs, e, fr, h => by
    have h1 : (w.setCell ⟨b, o, none⟩ v).heap[b]? = some (.cells (cs.setIfInBounds o v) e fr) := by
      simp [World.setCell, Array.getElem?_modify, h]
    obtain ⟨cs', a1, a2, a3⟩ := setCells_heap b r (o + 1) _ _ _ _ h1
    refine ⟨cs', by rw [World.setCells]; exact a1, by simpa using a2, fun i => ?_⟩
    rw [a3 i]
    simp only [Array.size_setIfInBounds]
    by_cases hi : i = o
    · subst hi
      rw [if_neg (by omega)]
      by_cases hs : i < cs.size
      · rw [if_pos ⟨by omega, by simp, hs⟩]; simp [hs]
      · rw [if_neg (by omega)]; rw [Array.getElem?_eq_none (by simp; omega), Array.getElem?_eq_none (by omega)]
    · by_cases h2 : o + 1 ≤ i ∧ i < o + 1 + r.length ∧ i < cs.size
      · rw [if_pos h2, if_pos ⟨by omega, by simp; omega, h2.2.2⟩]
        obtain ⟨k, hk⟩ : ∃ k, i - o = k + 1 := ⟨i - o - 1, by omega⟩
        rw [hk, show i - (o + 1) = k by omega]; simp
      · rw [if_neg h2, if_neg (by simp; omega)]
        rw [Array.getElem?_setIfInBounds_ne (by omega)]
theorem setCells_other (b : Nat) : ∀ (vs : List Value) (o : Nat) (w : World) (k : Nat), k ≠ b → (w.setCells b o vs).heap[k]? = w.heap[k]?
  | [], _, _, _, _ => rfl
  | v :: r, o, w, k, h => by rw [World.setCells, setCells_other b r _ _ k h]; exact Below.heap_setCell _ _ _ _ h
theorem setCells_size (b : Nat) : ∀ (vs : List Value) (o : Nat) (w : World), (w.setCells b o vs).heap.size = w.heap.size
  | [], _, _ => rfl
  | v :: r, o, w => by rw [World.setCells, setCells_size b r]; simp [World.setCell]
theorem setCells_below {B : Nat} {w0 : World} (b : Nat) (hb : B ≤ b) : ∀ (vs : List Value) (o : Nat) (w : World), Below B w0 w → Below B w0 (w.setCells b o vs)
  | [], _, _, h => h
  | v :: r, o, w, h => by rw [World.setCells]; exact setCells_below b hb r _ _ (h.setCell hb _)

def EL (π : Pi) : List (AV × AV × Nat) → List MapEntry → Prop
  | [], es => es = []
  | (k, v, n) :: r, es => ∃ e t, es = e :: t ∧ VR π k e.key ∧ VR π v e.val ∧ e.born = n ∧ EL π r t
theorem EL.length {π : Pi} : ∀ {l : List (AV × AV × Nat)} {es : List MapEntry}, EL π l es → es.length = l.length
  | [], _, h => by simp only [EL] at h; simp [h]
  | (k, v, n) :: l, _, h => by
    simp only [EL] at h
    obtain ⟨e, t, rfl, _, _, _, h4⟩ := h
    simp [EL.length h4]
theorem EL.mono {π π' : Pi} (h : π.le π') : ∀ {l : List (AV × AV × Nat)} {es : List MapEntry}, EL π l es → EL π' l es
  | [], _, e => e
  | (k, v, n) :: r, _, e => by
    simp only [EL] at e ⊢
    obtain ⟨x, t, rfl, h1, h2, h3, h4⟩ := e
    exact ⟨x, t, rfl, VR.mono h _ _ h1, VR.mono h _ _ h2, h3, EL.mono h h4⟩

/-- A loop over a function, and its record. -/
structure LR (π : Pi) (tm : T AV) (n : Nat) (ps : List Nat) (ag bo : Code) (st : LoopState) (pd : Option Code) (r : Loop) : Prop where
  params : r.params.toList = ps
  assign : r.assign = ag
  body : r.body = bo
  state : r.state = st
  pending : r.pending = pd
  size : r.tmps.size = n
  tmps : ∀ t, VR π ((T.get tm t).getD (.tuple [])) (r.tmps.getD t undef)
theorem LR.mono {π π' : Pi} (h : π.le π') {tm : T AV} {n : Nat} {ps : List Nat} {ag bo : Code} {st : LoopState} {pd : Option Code} {r : Loop} (e : LR π tm n ps ag bo st pd r) : LR π' tm n ps ag bo st pd r :=
  ⟨e.params, e.assign, e.body, e.state, e.pending, e.size, fun t => VR.mono h _ _ (e.tmps t)⟩
/-- What an abstract block says of the real heap. -/
def BR (π : Pi) (b : Nat) (B : ABlk) (w : World) : Prop :=
  match B with
  | .cells c size elem frz own whole => ∃ (rb δ rs : Nat) (cs : Array Value) (fr : Nat × Nat), π b = some (rb, δ, rs) ∧ (∃ el, w.heap[rb]? = some (.cells cs el fr) ∧ (own = true → el = elem)) ∧ cs.size = rs ∧ δ + size ≤ rs ∧
      (∀ i, i < size → ∃ x v, c.get i = some x ∧ cs[δ + i]? = some v ∧ VR π x v) ∧ (own = true → ∀ o, o < rs → fr.1 ≤ o → o < fr.2 → o < δ + frz) ∧ (whole = .whole → δ = 0 ∧ size = rs) ∧ (own = true → whole.near = true → δ = 0 ∧ (fr.1 = fr.2 ∨ (fr.1 < fr.2 ∧ fr.2 ≤ frz)))
  | .dead => True
  | .map es clock => ∃ (rb δ rs : Nat) (es' : Array MapEntry), π b = some (rb, δ, rs) ∧ w.heap[rb]? = some (.map es' clock) ∧ EL π es es'.toList
  | .siter s pos => ∃ (rb rs : Nat) (s' : ByteArray), π b = some (rb, 0, rs) ∧ w.heap[rb]? = some (.stringIter s' pos) ∧ bytesOf s' = s
  | .miter m since seen last => ∃ (rb rs rm δ rs' : Nat), π b = some (rb, 0, rs) ∧ π m = some (rm, δ, rs') ∧ w.heap[rb]? = some (.mapIter (some rm) since seen.toArray last)
  | .niter => ∃ (rb rs : Nat), π b = some (rb, 0, rs) ∧ w.heap[rb]? = some (.mapIter none 0 #[] 0)
  | .dfr => ∃ (rb rs : Nat), π b = some (rb, 0, rs) ∧ w.heap[rb]? = some (.deferred (some []))
  | .loop tm n ps ag bo st pd => ∃ (rb rs : Nat) (r : Loop), π b = some (rb, 0, rs) ∧ w.heap[rb]? = some (.loop r) ∧ LR π tm n ps ag bo st pd r
def ABlk.live : ABlk → Bool
  | .dead => false
  | _ => true
def ABlk.mine : ABlk → Bool
  | .cells _ _ _ _ own _ => own
  | .dead => false
  | _ => true
theorem BR.mono {π π' : Pi} (h : π.le π') {b : Nat} {B : ABlk} {w w' : World} (hw : ∀ p, π b = some p → w'.heap[p.1]? = w.heap[p.1]?) (e : BR π b B w) : BR π' b B w' := by
  cases B with
  | cells c size elem frz own whole =>
    obtain ⟨rb, δ, rs, cs, fr, h1, h2, h3, h4, h5, h6, h7⟩ := e
    obtain ⟨el, h2, h2e⟩ := h2
    refine ⟨rb, δ, rs, cs, fr, h _ _ h1, ⟨el, by rw [hw _ h1]; exact h2, h2e⟩, h3, h4, fun i hi => ?_, h6, h7⟩
    obtain ⟨x, v, a1, a2, a3⟩ := h5 i hi
    exact ⟨x, v, a1, a2, VR.mono h _ _ a3⟩
  | dead => trivial
  | map es clock =>
    obtain ⟨rb, δ, rs, es', h1, h2, h3⟩ := e
    exact ⟨rb, δ, rs, es', h _ _ h1, by rw [hw _ h1]; exact h2, EL.mono h h3⟩
  | siter s pos =>
    obtain ⟨rb, rs, s', h1, h2, h3⟩ := e
    exact ⟨rb, rs, s', h _ _ h1, by rw [hw _ h1]; exact h2, h3⟩
  | miter m since seen last =>
    obtain ⟨rb, rs, rm, δ, rs', h1, h2, h3⟩ := e
    exact ⟨rb, rs, rm, δ, rs', h _ _ h1, h _ _ h2, by rw [hw _ h1]; exact h3⟩
  | niter =>
    obtain ⟨rb, rs, h1, h2⟩ := e
    exact ⟨rb, rs, h _ _ h1, by rw [hw _ h1]; exact h2⟩
  | dfr =>
    obtain ⟨rb, rs, h1, h2⟩ := e
    exact ⟨rb, rs, h _ _ h1, by rw [hw _ h1]; exact h2⟩
  | loop tm n ps ag bo st pd =>
    obtain ⟨rb, rs, r, h1, h2, h3⟩ := e
    exact ⟨rb, rs, r, h _ _ h1, by rw [hw _ h1]; exact h2, h3.mono h⟩

/-- The abstract heap and the real one. 'base': the blocks below it are not this run's. -/
structure HR (known : Nat → Bool) (base : Nat) (w0 : World) (π : Pi) (σ : AS) (w : World) : Prop where
  blk : ∀ b B, σ.get b = some B → BR π b B w
  inj : ∀ b c B C p q, σ.get b = some B → σ.get c = some C → B.mine = true → C.live = true → π b = some p → π c = some q → p.1 = q.1 → b = c
  fresh : ∀ b, σ.next ≤ b → σ.get b = none ∧ π b = none
  bnd : ∀ b p, π b = some p → p.1 < w.heap.size
  mine : ∀ b B p, σ.get b = some B → B.mine = true → π b = some p → base ≤ p.1
  low : base ≤ w.heap.size
  below : Below base w0 w
  glob : ∀ g, known g = true → ∃ rs, π g = some (g, 0, rs)

variable {known : Nat → Bool} {base : Nat} {w0 : World} {π : Pi} {σ : AS} {w : World}

theorem HR.drew (h : HR known base w0 π σ w) : HR known base w0 π σ { w with drawn := w.drawn + 1 } :=
  ⟨fun b B hb => BR.mono (Pi.le_refl π) (fun _ _ => rfl) (h.blk b B hb), h.inj, h.fresh, h.bnd, h.mine, h.low, h.below.drew, h.glob⟩

def Pi.add (π : Pi) (n : Nat) (p : Nat × Nat × Nat) : Pi := fun b => if b = n then some p else π b
theorem HR.le_add (h : HR known base w0 π σ w) (p : Nat × Nat × Nat) : π.le (π.add σ.next p) := fun b q e => by
  by_cases hb : b = σ.next
  · subst hb; rw [(h.fresh _ (Nat.le_refl _)).2] at e; cases e
  · simp [Pi.add, hb, e]
theorem Pi.add_same (π : Pi) (n : Nat) (p : Nat × Nat × Nat) : π.add n p n = some p := by simp [Pi.add]
theorem Pi.add_ne (π : Pi) {n b : Nat} (p : Nat × Nat × Nat) (h : b ≠ n) : π.add n p b = π b := by simp [Pi.add, h]

noncomputable def AS.put (σ : AS) (b : Nat) (B : ABlk) : AS := ⟨σ.heap.set b B, σ.next⟩
noncomputable def AS.push (σ : AS) (B : ABlk) : AS := ⟨σ.heap.set σ.next B, σ.next + 1⟩
theorem AS.upd_eq (σ : AS) (b : Nat) (B : ABlk) : σ.upd b B = σ.put b B := by
  show T.seq (σ.heap.set b B) _ = _
  rw [T.seq_eq]; rfl
theorem AS.new_eq {β : Type} (σ : AS) (B : ABlk) (k : Nat → AS → β) : σ.new B k = k σ.next (σ.push B) := by
  show fNat σ.next _ = _
  rw [fNat_eq]
  show T.seq _ _ = _
  rw [T.seq_eq]; rfl
theorem AS.row_eq {β : Type} (σ : AS) (e : TypeId) (cs : List AV) (wh : BK) (k : Nat → AS → β) :
    σ.row e cs wh k = k σ.next (σ.push (.cells (lay cs 0 .nil) cs.length e 0 true wh)) := by
  show fNat cs.length _ = _
  rw [fNat_eq]
  show T.seq _ _ = _
  rw [T.seq_eq, AS.new_eq]
theorem AS.get_put (σ : AS) (b : Nat) (B : ABlk) : (σ.put b B).get b = some B := T.get_set _ _ _
theorem AS.get_put_ne (σ : AS) {b c : Nat} (B : ABlk) (h : c ≠ b) : (σ.put b B).get c = σ.get c := T.get_set_ne _ _ h
theorem AS.get_push (σ : AS) (B : ABlk) : (σ.push B).get σ.next = some B := T.get_set _ _ _
theorem AS.get_push_ne (σ : AS) {c : Nat} (B : ABlk) (h : c ≠ σ.next) : (σ.push B).get c = σ.get c := T.get_set_ne _ _ h

/-- A new block. -/
theorem HR.new (h : HR known base w0 π σ w) (B : ABlk) (o : Obj) (rs : Nat) (hB : BR (π.add σ.next (w.heap.size, 0, rs)) σ.next B (w.alloc o)) :
    HR known base w0 (π.add σ.next (w.heap.size, 0, rs)) (σ.push B) (w.alloc o) := by
  have hle := h.le_add (w.heap.size, 0, rs)
  refine ⟨fun b C hb => ?_, fun b c B' C p q hb hc lb lc pb pc e => ?_, fun b hb => ?_, fun b p hb => ?_, fun b C p hb hm hp => ?_, ?_, h.below.alloc h.low o, fun g hg => ?_⟩
  · by_cases e : b = σ.next
    · subst e; rw [AS.get_push] at hb; cases hb; exact hB
    · rw [AS.get_push_ne _ _ e] at hb
      exact BR.mono hle (fun p hp => Below.heap_alloc w o _ (h.bnd b p hp)) (h.blk b C hb)
  · by_cases eb : b = σ.next <;> by_cases ec : c = σ.next
    · rw [eb, ec]
    · subst eb
      rw [Pi.add_same] at pb; rw [Pi.add_ne _ _ ec] at pc
      have := h.bnd c q pc
      cases pb; simp at e; omega
    · subst ec
      rw [Pi.add_same] at pc; rw [Pi.add_ne _ _ eb] at pb
      have := h.bnd b p pb
      cases pc; simp at e; omega
    · rw [Pi.add_ne _ _ eb] at pb; rw [Pi.add_ne _ _ ec] at pc
      rw [AS.get_push_ne _ _ eb] at hb; rw [AS.get_push_ne _ _ ec] at hc
      exact h.inj b c B' C p q hb hc lb lc pb pc e
  · have hb' : σ.next + 1 ≤ b := hb
    rw [AS.get_push_ne _ _ (by omega), Pi.add_ne _ _ (by omega)]
    exact h.fresh b (by omega)
  · by_cases e : b = σ.next
    · subst e; rw [Pi.add_same] at hb; cases hb; simp
    · rw [Pi.add_ne _ _ e] at hb
      have := h.bnd b p hb
      simp; omega
  · by_cases e : b = σ.next
    · subst e; rw [Pi.add_same] at hp; cases hp; exact h.low
    · rw [Pi.add_ne _ _ e] at hp; rw [AS.get_push_ne _ _ e] at hb
      exact h.mine b C p hb hm hp
  · have := h.low; simp; omega
  · obtain ⟨rs', hr⟩ := h.glob g hg
    exact ⟨rs', hle _ _ hr⟩
/-- A new row of cells. -/
theorem HR.row (h : HR known base w0 π σ w) (e : TypeId) {xs : List AV} {vs : List Value} (hx : VRL π xs vs) (spare : List Value) (wh : BK) (hw : wh = .whole → spare = []) (frz : Nat := 0) :
    HR known base w0 (π.add σ.next (w.heap.size, 0, vs.length + spare.length)) (σ.push (.cells (lay xs 0 .nil) xs.length e frz true wh)) (w.alloc (.cells (vs ++ spare).toArray e)) := by
  have hl := hx.length
  refine h.new _ _ _ ⟨w.heap.size, 0, vs.length + spare.length, (vs ++ spare).toArray, (0, 0), Pi.add_same _ _ _, ⟨e, ?_, fun _ => rfl⟩, by simp, by omega, fun i hi => ?_, fun _ o _ _ h2 => by simp at h2, fun hwh => ⟨rfl, by rw [hw hwh]; simp [hl]⟩, fun _ _ => ⟨rfl, .inl rfl⟩⟩
  · show (w.heap.push _)[w.heap.size]? = _
    simp
  · obtain ⟨x, hx'⟩ : ∃ x, xs[i]? = some x := ⟨xs[i], List.getElem?_eq_getElem hi⟩
    obtain ⟨v, hv, hr⟩ := hx.get i x hx'
    refine ⟨x, v, ?_, ?_, VR.mono (h.le_add _) _ _ hr⟩
    · rw [get_lay, if_pos ⟨by omega, by omega⟩]; simpa using hx'
    · have hlt : i < vs.length := by omega
      simp only [Nat.zero_add, List.getElem?_toArray]
      rw [List.getElem?_append_left hlt]; exact hv

theorem mine_live {B : ABlk} (h : B.mine = true) : B.live = true := by cases B <;> first | rfl | cases h
/-- A block is turned, another stays. -/
theorem HR.turn (h : HR known base w0 π σ w) {b : Nat} {B B' : ABlk} {w' : World} {p : Nat × Nat × Nat} (hb : σ.get b = some B) (mb : B.mine = true) (hp : π b = some p)
    (lb' : B'.mine = true → B.mine = true) (hB : BR π b B' w') (hk : ∀ k, k ≠ p.1 → w'.heap[k]? = w.heap[k]?) (hs : w'.heap.size = w.heap.size) (hbel : Below base w0 w') :
    HR known base w0 π (σ.put b B') w' := by
  refine ⟨fun c C hc => ?_, fun c d C D p' q' hc hd lc ld pc pd e => ?_, fun c hc => ?_, fun c q hc => ?_, fun c C q hc hm hq => ?_, by rw [hs]; exact h.low, hbel, h.glob⟩
  · by_cases e : c = b
    · subst e; rw [AS.get_put] at hc; cases hc; exact hB
    · rw [AS.get_put_ne _ _ e] at hc
      cases C with
      | dead => trivial
      | _ =>
        refine BR.mono (Pi.le_refl π) (fun q hq => hk _ (fun e1 => e ?_)) (h.blk c _ hc)
        exact (h.inj b c _ _ p q hb hc mb rfl hp hq e1.symm).symm
  · have key : ∀ x X, (σ.put b B').get x = some X → X.live = true → ∃ Y, σ.get x = some Y ∧ Y.live = true := by
      intro x X hx lx
      by_cases e : x = b
      · subst e; exact ⟨B, hb, mine_live mb⟩
      · rw [AS.get_put_ne _ _ e] at hx; exact ⟨X, hx, lx⟩
    have keym : ∀ x X, (σ.put b B').get x = some X → X.mine = true → ∃ Y, σ.get x = some Y ∧ Y.mine = true := by
      intro x X hx lx
      by_cases e : x = b
      · subst e; exact ⟨B, hb, mb⟩
      · rw [AS.get_put_ne _ _ e] at hx; exact ⟨X, hx, lx⟩
    obtain ⟨Y, hY, lY⟩ := keym c C hc lc
    obtain ⟨Z, hZ, lZ⟩ := key d D hd ld
    exact h.inj c d Y Z p' q' hY hZ lY lZ pc pd e
  · have hn := h.fresh c hc
    refine ⟨?_, hn.2⟩
    rw [AS.get_put_ne _ _ (fun e => by subst e; rw [hb] at hn; exact absurd hn.1 (by simp))]; exact hn.1
  · rw [hs]; exact h.bnd c q hc
  · by_cases e : c = b
    · subst e; rw [AS.get_put] at hc; cases hc; exact h.mine c B q hb (lb' hm) hq
    · rw [AS.get_put_ne _ _ e] at hc; exact h.mine c C q hc hm hq

/-- A cell that is read. -/
theorem HR.cell (h : HR known base w0 π σ w) {b : Nat} {c : T AV} {size : Nat} {e : TypeId} {frz : Nat} {own : Bool} {wh : BK} (hb : σ.get b = some (.cells c size e frz own wh)) :
    ∃ rb δ rs, π b = some (rb, δ, rs) ∧ δ + size ≤ rs ∧ ∀ i, i < size → ∃ x v, c.get i = some x ∧ w.cell? ⟨rb, δ + i, none⟩ = some v ∧ VR π x v := by
  obtain ⟨rb, δ, rs, cs, fr, h1, ⟨el, h2, _⟩, h3, h4, h5, _, _⟩ := h.blk b _ hb
  refine ⟨rb, δ, rs, h1, h4, fun i hi => ?_⟩
  obtain ⟨x, v, a1, a2, a3⟩ := h5 i hi
  exact ⟨x, v, a1, by simp [World.cell?, h2, a2], a3⟩
/-- Cells that are read. -/
theorem HR.cells (h : HR known base w0 π σ w) {b : Nat} {c : T AV} {size : Nat} {e : TypeId} {frz : Nat} {own : Bool} {wh : BK} (hb : σ.get b = some (.cells c size e frz own wh))
    {n o : Nat} {xs : List AV} (hr : readN c n o = some xs) (ho : o + n ≤ size) :
    ∃ rb δ rs vs, π b = some (rb, δ, rs) ∧ VRL π xs vs ∧ vs.length = n ∧ w.rangeAt rb (δ + o) vs ∧ δ + size ≤ rs := by
  obtain ⟨rb, δ, rs, h1, h4, h5⟩ := h.cell hb
  obtain ⟨hl, hg⟩ := readN_some hr
  have : ∀ (m : Nat) (ys : List AV) (k : Nat), ys.length = m → k + m ≤ n → (∀ j, j < m → c.get (o + (k + j)) = ys[j]?) →
      ∃ vs, VRL π ys vs ∧ vs.length = m ∧ w.rangeAt rb (δ + o + k) vs := by
    intro m
    induction m with
    | zero => intro ys k hy _ _; cases ys with
      | nil => exact ⟨[], VRL.nil, rfl, fun j v hv => by simp at hv⟩
      | cons => simp at hy
    | succ m ih =>
      intro ys k hy hk hj
      cases ys with
      | nil => simp at hy
      | cons y ys =>
        obtain ⟨vs, a1, a2, a3⟩ := ih ys (k + 1) (by simpa using hy) (by omega) (fun j hjm => by
          have := hj (j + 1) (by omega)
          rw [show k + 1 + j = k + (j + 1) by omega, this]; simp)
        obtain ⟨x, v, b1, b2, b3⟩ := h5 (o + k) (by omega)
        have h0 := hj 0 (by omega)
        simp only [Nat.add_zero, List.getElem?_cons_zero] at h0
        rw [b1] at h0
        cases h0
        refine ⟨v :: vs, VRL.cons b3 a1, by simp [a2], fun j u hu => ?_⟩
        cases j with
        | zero => simp at hu; subst hu; simpa [Nat.add_assoc] using b2
        | succ j => simp at hu; have := a3 j u hu; rw [show δ + o + k + (j + 1) = δ + o + (k + 1) + j by omega]; exact this
  obtain ⟨vs, a1, a2, a3⟩ := this n xs 0 hl (by omega) (fun j hj => by simpa using hg j hj)
  exact ⟨rb, δ, rs, vs, h1, a1, a2, by simpa using a3, h4⟩
/-- Cells that are written. -/
theorem HR.write (h : HR known base w0 π σ w) {b o : Nat} {xs : List AV} {σ' : AS} (hw : writeL σ b o xs = some σ') {vs : List Value} (hx : VRL π xs vs) :
    ∃ rb δ rs, π b = some (rb, δ, rs) ∧ w.there rb (δ + o) vs.length ∧ (∀ v ∈ vs, v.oneCell' = true) ∧ HR known base w0 π σ' (w.setCells rb (δ + o) vs) := by
  unfold writeL at hw
  split at hw
  case h_2 => cases hw
  case h_1 c size e frz wh hb =>
    obtain ⟨g1, hw⟩ := gB_some hw
    obtain ⟨g2, hw⟩ := gB_some hw
    obtain ⟨g3, hw⟩ := gB_some hw
    rw [T.seq_eq, AS.upd_eq] at hw
    simp only [Option.some.injEq] at hw
    subst hw
    have hl := hx.length
    have hle : o + xs.length ≤ size := by simpa using g1
    have hfz : frz ≤ o := by simpa using g2
    obtain ⟨rb, δ, rs, cs, fr, h1, ⟨el, h2, h2e⟩, h3, h4, h5, h6, h7⟩ := h.blk b _ hb
    rw [h2e rfl] at h2
    have hmine := h.mine b _ _ hb rfl h1
    refine ⟨rb, δ, rs, h1, fun j hj => ⟨?_, ?_⟩, allOne_one g3 hx, ?_⟩
    · obtain ⟨x, v, _, a2, _⟩ := h5 (o + j) (by omega)
      simp [World.cell?, h2, Nat.add_assoc, a2]
    · cases hf : w.frozen? ⟨rb, δ + o + j, none⟩ with
      | false => rfl
      | true =>
        simp only [World.frozen?, h2] at hf
        obtain ⟨lo, hi⟩ := fr
        simp at hf
        have := h6 rfl (δ + o + j) (by omega) hf.1 hf.2
        omega
    · obtain ⟨cs', a1, a2, a3⟩ := setCells_heap rb vs (δ + o) w cs e fr h2
      refine h.turn hb rfl h1 (fun _ => rfl) ⟨rb, δ, rs, cs', fr, h1, ⟨_, a1, fun _ => rfl⟩, by omega, h4, fun i hi => ?_, h6, h7⟩ (fun k hk => setCells_other rb vs _ w k hk) (setCells_size rb vs _ w) (setCells_below rb hmine vs _ w h.below)
      rw [a3]
      by_cases hin : o ≤ i ∧ i < o + xs.length
      · obtain ⟨x, hx'⟩ : ∃ x, xs[i - o]? = some x := ⟨xs[i - o]'(by omega), List.getElem?_eq_getElem (by omega)⟩
        obtain ⟨v, hv, hr⟩ := hx.get _ x hx'
        refine ⟨x, v, ?_, ?_, hr⟩
        · rw [get_lay, if_pos hin]; exact hx'
        · rw [if_pos ⟨by omega, by omega, by omega⟩, show δ + i - (δ + o) = i - o by omega]; exact hv
      · obtain ⟨x, v, b1, b2, b3⟩ := h5 i hi
        refine ⟨x, v, ?_, ?_, b3⟩
        · rw [get_lay, if_neg hin]; exact b1
        · rw [if_neg (by omega)]; exact b2
end Go.Proofs.YtjagjjdkgidkjaaGreatDoor.Ev
set_option linter.all false
namespace Go.Proofs.YtjagjjdkgidkjaaGreatDoor.Ev
open Go Go.RowKit

variable {P : Program} {known : Nat → Bool} {base : Nat} {w0 : World} {π : Pi} {σ : AS} {w : World}

/-! ### flat values -/
theorem bytes_back (s : ByteArray) : unbytes (bytesOf s) = s := by
  obtain ⟨⟨l⟩⟩ := s
  simp only [unbytes, bytesOf]
  congr 1
  simp [Function.comp_def]
mutual
theorem flatN_eq : ∀ (d : Nat) (x : AV) (u v : Value), flatN d x = some u → VR π x v → v = u
  | 0, _, _, _, h, _ => by simp [flatN] at h
  | d + 1, x, u, v, h, r => by
    cases x <;> simp only [flatN, VR] at h r
    case bool => simp only [Option.some.injEq] at h; rw [r, h]
    case int => simp only [Option.some.injEq] at h; rw [r, h]
    case float => simp only [Option.some.injEq] at h; rw [r, h]
    case str => obtain ⟨s, rfl, rfl⟩ := r; simp only [Option.some.injEq] at h; rw [← h, bytes_back]
    case nilptr => simp only [Option.some.injEq] at h; rw [r, h]
    case nilslice => simp only [Option.some.injEq] at h; rw [r, h]
    case nilmap => simp only [Option.some.injEq] at h; rw [r, h]
    case nilFunc => simp only [Option.some.injEq] at h; rw [r, h]
    case nilIface => simp only [Option.some.injEq] at h; rw [r, h]
    case ptr => cases h
    case ostr => cases h
    case least => cases h
    case any => cases h
    case yield => cases h
    case slice => cases h
    case map => cases h
    case func => cases h
    case iface t y =>
      obtain ⟨z, rfl, hz⟩ := r
      split at h
      · rename_i u' hu
        simp only [Option.some.injEq] at h
        rw [← h, flatN_eq d y _ _ hu hz]
      · cases h
    case agg xs =>
      obtain ⟨ys, rfl, hz⟩ := r
      split at h
      · rename_i us hu
        simp only [Option.some.injEq] at h
        rw [← h, flats_eq d xs _ _ hu hz]
      · cases h
    case tuple xs =>
      obtain ⟨ys, rfl, hz⟩ := r
      split at h
      · rename_i us hu
        simp only [Option.some.injEq] at h
        rw [← h, flats_eq d xs _ _ hu hz]
      · cases h
theorem flats_eq : ∀ (d : Nat) (xs : List AV) (us vs : List Value), flats (flatN d) xs = some us → VRL π xs vs → vs = us
  | _, [], us, vs, h, r => by simp only [flats, Option.some.injEq, VRL] at h r; rw [r, h]
  | d, x :: xs, us, vs, h, r => by
    simp only [VRL] at r
    obtain ⟨y, t, rfl, h1, h2⟩ := r
    simp only [flats] at h
    split at h
    · cases h
    · rename_i u hu
      split at h
      · cases h
      · rename_i us' hus
        simp only [Option.some.injEq] at h
        rw [← h, flatN_eq d x _ _ hu h1, flats_eq d xs _ _ hus h2]
end
theorem flat_eq {x : AV} {u v : Value} (h : flat x = some u) (r : VR π x v) : v = u := flatN_eq 8 x u v h r

theorem ofValues_rel {f : Value → Option AV} (hf : ∀ v x, f v = some x → VR π x v) : ∀ (vs : List Value) (xs : List AV), ofValues f vs = some xs → VRL π xs vs
  | [], xs, h => by simp only [ofValues, Option.some.injEq] at h; subst h; exact VRL.nil
  | v :: vs, xs, h => by
    simp only [ofValues] at h
    split at h
    · cases h
    · rename_i x hx
      split at h
      · cases h
      · rename_i ys hy
        simp only [Option.some.injEq] at h
        subst h
        exact VRL.cons (hf _ _ hx) (ofValues_rel hf vs ys hy)
theorem ofValueN_rel : ∀ (d : Nat) (v : Value) (x : AV), ofValueN d v = some x → VR π x v
  | 0, _, _, h => by simp [ofValueN] at h
  | d + 1, v, x, h => by
    simp only [ofValueN] at h
    split at h
    case h_4 s => rw [fNats_eq] at h; simp only [Option.some.injEq] at h; subst h; exact ⟨s, rfl, rfl⟩
    case h_10 f => simp only [Option.some.injEq] at h; subst h; simp only [VR]; exact ⟨[], [], rfl, VRL.nil, VRL.nil⟩
    case h_11 cs =>
      split at h
      · rename_i xs hx
        simp only [Option.some.injEq] at h; subst h
        simp only [VR]; exact ⟨cs.toList, by simp, ofValues_rel (fun v x => ofValueN_rel d v x) _ _ hx⟩
      · cases h
    case h_12 cs =>
      split at h
      · rename_i xs hx
        simp only [Option.some.injEq] at h; subst h
        simp only [VR]; exact ⟨cs.toList, by simp, ofValues_rel (fun v x => ofValueN_rel d v x) _ _ hx⟩
      · cases h
    case h_13 t y =>
      split at h
      · rename_i z hz
        simp only [Option.some.injEq] at h; subst h
        simp only [VR]; exact ⟨y, rfl, ofValueN_rel d _ _ hz⟩
      · cases h
    case h_14 => cases h
    all_goals (simp only [Option.some.injEq] at h; subst h; simp only [VR])
theorem ofValue_rel {v : Value} {x : AV} (h : ofValue v = some x) : VR π x v := ofValueN_rel 8 v x h

theorem pureRun_run {α : Type} : ∀ (s : Sem α) (a : α) (w : World), pureRun P s = some a → s.run P w = .ok a w
  | .pure a, b, w, h => by simp only [pureRun, Option.some.injEq] at h; subst h; rfl
  | .program k, b, w, h => by simp only [pureRun] at h; exact pureRun_run (k P) b w h
  | .mark _ k, b, w, h => by simp only [pureRun] at h; exact pureRun_run k b w h
  | .choose q k, b, w, h => by
    simp only [pureRun] at h
    by_cases hq : q.forced = true
    · rw [if_pos hq] at h
      simp only [Sem.run, hq, if_true]
      exact pureRun_run (k 0) b w h
    · rw [if_neg hq] at h; cases h
  | .load .., _, _, h => by simp [pureRun] at h
  | .store .., _, _, h => by simp [pureRun] at h
  | .new .., _, _, h => by simp [pureRun] at h
  | .shape .., _, _, h => by simp [pureRun] at h
  | .freeze .., _, _, h => by simp [pureRun] at h
  | .frozen .., _, _, h => by simp [pureRun] at h
  | .getObj .., _, _, h => by simp [pureRun] at h
  | .setObj .., _, _, h => by simp [pureRun] at h
  | .sys .., _, _, h => by simp [pureRun] at h
  | .halt _, _, _, h => by simp [pureRun] at h
theorem viaPure_run {s : Sem Value} {x : AV} (h : viaPure P s = some x) (w : World) : ∃ v, s.run P w = .ok v w ∧ VR π x v := by
  unfold viaPure at h
  split at h
  · rename_i v hv
    exact ⟨v, pureRun_run s v w hv, ofValue_rel h⟩
  · cases h

/-! ### types -/
theorem sizeOfT_run {t : TypeId} {n : Nat} (h : sizeOfT P t = some n) (w : World) : (sizeOf t).run P w = .ok n w := by
  unfold sizeOfT at h
  cases hi : P.info? t with
  | none => simp [hi] at h
  | some i => simp [hi] at h; simp [sizeOf, typeInfo, hi, h]
theorem sizeOfT_info {t : TypeId} {n : Nat} (h : sizeOfT P t = some n) : (P.info? t).map (·.size) = some n := h
theorem zeroOfT_run {t : TypeId} {z : AV} (h : zeroOfT P t = some z) (w : World) : ∃ v, (zeroValue t).run P w = .ok v w ∧ VR π z v := by
  unfold zeroOfT at h
  cases hi : P.info? t with
  | none => simp [hi] at h
  | some i =>
    simp only [hi] at h
    cases hz : i.zero with
    | none => simp [hz] at h
    | some v => simp only [hz] at h; exact ⟨v, by simp [zeroValue, typeInfo, hi, hz], ofValue_rel h⟩
theorem isAggT_run {t : TypeId} {b : Bool} (h : isAggT P t = some b) (w : World) : (isAgg t).run P w = .ok b w := by
  unfold isAggT at h
  split at h
  · rename_i fs hu; simp only [Option.some.injEq] at h; subst h; simp [isAgg, run_underlying hu]
  · rename_i fs hu; simp only [Option.some.injEq] at h; subst h; simp [isAgg, run_underlying hu]
  · rename_i d hn1 hn2 hu
    simp only [Option.some.injEq] at h; subst h
    simp only [isAgg, Sem.run_bind, run_underlying hu, Result.andThen_ok]
    cases d <;> first | rfl | exact absurd rfl (hn1 _) | exact absurd rfl (hn2 _ _)
  · cases h
theorem isAggT_row {t : TypeId} (h : isAggT P t = some true) : ∃ d, P.underlying t = some d ∧ d.isRow = true := by
  unfold isAggT at h
  split at h
  · rename_i fs hu; exact ⟨_, hu, rfl⟩
  · rename_i fs hu; exact ⟨_, hu, rfl⟩
  · cases h
  · cases h

/-! ### integers -/
theorem wrap_id (k : IntKind) (n : Int) (h : (n < 0 → k.signed = true ∧ -n - 1 ≤ maxOf k) ∧ n ≤ maxOf k) : k.wrap n = n := by
  cases k <;> simp only [maxOf, IntKind.signed, Bool.false_eq_true, false_and, true_and, imp_false] at h
  · exact IntWalk.i8_in n (by omega)
  · exact IntWalk.i16_in n (by omega)
  · exact IntWalk.i32_in n (by omega)
  · exact IntWalk.i64_in n (by omega)
  · exact IntWalk.u8_in n (by omega)
  · exact IntWalk.u16_in n (by omega)
  · exact IntWalk.u32_in n (by omega)
  · exact IntWalk.u64_in n (by omega)
theorem wrapF_eq (k : IntKind) (n : Int) : wrapF k n = k.wrap n := by
  cases n with
  | ofNat m =>
    unfold wrapF
    dsimp only
    split
    · rename_i h
      have h' : m ≤ maxOf k := by simpa using h
      exact (wrap_id k _ ⟨fun hn => by simp at hn; omega, by simp; omega⟩).symm
    · rfl
  | negSucc m =>
    unfold wrapF
    dsimp only
    split
    · rename_i h1 h
      have h' : m ≤ maxOf k := by simpa using h
      exact (wrap_id k _ ⟨fun _ => ⟨h1, by rw [Int.negSucc_eq]; omega⟩, by rw [Int.negSucc_eq]; omega⟩).symm
    · rfl
theorem ltF_eq (a b : Int) : ltF a b = decide (a < b) := by
  cases a <;> cases b <;> simp only [ltF] <;> rw [Bool.eq_iff_iff] <;> simp [Nat.blt] <;> omega
theorem eqF_eq (a b : Int) : eqF a b = (a == b) := by
  cases a <;> cases b <;> simp only [eqF] <;> rw [Bool.eq_iff_iff] <;> simp <;> omega
theorem eqL_eq : ∀ (x y : List Nat), eqL x y = (x == y)
  | [], [] => rfl
  | [], _ :: _ => rfl
  | _ :: _, [] => rfl
  | a :: x, b :: y => by
    simp only [eqL]
    split
    · rename_i h; rw [eqL_eq x y]; simp at h; simp [h]
    · rename_i h; rw [Bool.eq_iff_iff]; simp; intro e; subst e; simp at h
theorem ltL_eq : ∀ (x y : List UInt8), ltL (x.map UInt8.toNat) (y.map UInt8.toNat) = Op.bytesLess x y
  | _, [] => by cases ‹List UInt8› <;> rfl
  | [], _ :: _ => rfl
  | a :: x, b :: y => by
    simp only [List.map_cons, ltL, Op.bytesLess]
    rw [ltL_eq x y]
    by_cases h1 : a < b
    · have : Nat.blt a.toNat b.toNat = true := by simp [Nat.blt]; exact UInt8.lt_iff_toNat_lt.1 h1
      simp [this, h1]
    · have : Nat.blt a.toNat b.toNat = false := by
        cases hb : Nat.blt a.toNat b.toNat with
        | false => rfl
        | true => exact absurd (UInt8.lt_iff_toNat_lt.2 (by simp [Nat.blt] at hb; omega)) h1
      rw [this]
      by_cases h2 : a = b
      · subst h2; simp
      · have : Nat.beq a.toNat b.toNat = false := by
          cases hb : Nat.beq a.toNat b.toNat with
          | false => rfl
          | true => exact absurd (UInt8.toNat_inj.1 (by simpa using hb)) h2
        rw [this]; simp [h1, h2]
theorem bytesOf_inj {s t : ByteArray} : (bytesOf s == bytesOf t) = (s.toList == t.toList) := by
  rw [ByteArray.toList_eq, ByteArray.toList_eq, Bool.eq_iff_iff]
  simp only [beq_iff_eq, bytesOf]
  constructor
  · intro h
    exact (List.map_inj_right (fun a b e => UInt8.toNat_inj.1 e)).1 h
  · intro h; rw [h]
theorem bytesOf_length (s : ByteArray) : (bytesOf s).length = s.size := by simp [bytesOf]
theorem bytesOf_append (s t : ByteArray) : bytesOf (s ++ t) = bytesOf s ++ bytesOf t := by simp [bytesOf]

theorem intI_some {k : IntKind} {n : Int} {x : AV} (h : intI k n = some x) : x = .int k n := by
  rw [intI, fInt_eq] at h; exact (Option.some.inj h).symm
theorem boolI_some {b : Bool} {x : AV} (h : boolI b = some x) : x = .bool b := by
  rw [boolI, fBool_eq] at h; exact (Option.some.inj h).symm
theorem strI_some {l : List Nat} {x : AV} (h : strI l = some x) : x = .str l := by
  rw [strI, fNats_eq] at h; exact (Option.some.inj h).symm

/-- What a binary operation's law gives. -/
def Gives (P : Program) (π : Pi) (w : World) (s : Sem Value) (x : AV) : Prop := ∃ v, s.run P w = .ok v w ∧ VR π x v
theorem Gives.int {s : Sem Value} {k : IntKind} {n : Int} {x : AV} (h : intI k n = some x) (e : s.run P w = .ok (.int k n) w) : Gives P π w s x := by
  rw [intI_some h]; exact ⟨_, e, by simp [VR]⟩
theorem Gives.bool {s : Sem Value} {b : Bool} {x : AV} (h : boolI b = some x) (e : s.run P w = .ok (.bool b) w) : Gives P π w s x := by
  rw [boolI_some h]; exact ⟨_, e, by simp [VR]⟩

theorem binInt_gives {op : BinOp} {k : IntKind} {m n : Int} {t : TypeId} {x : AV} (h : binInt op k m n = some x) : Gives P π w (binOp op t (.int k m) (.int k n)) x := by
  cases op <;> simp only [binInt] at h
  case add => exact Gives.int h (by simp [binOp, Op.intArith, wrapF_eq])
  case sub => exact Gives.int h (by simp [binOp, Op.intArith, wrapF_eq])
  case mul => exact Gives.int h (by simp [binOp, Op.intArith, wrapF_eq])
  case eql => rw [eqF_eq] at h; exact Gives.bool h (by simp [binOp, Op.intCmp])
  case neq => rw [eqF_eq] at h; exact Gives.bool h (by simp [binOp, Op.intCmp]; rfl)
  case lss => rw [ltF_eq] at h; exact Gives.bool h (by simp [binOp, Op.intCmp])
  case gtr => rw [ltF_eq] at h; exact Gives.bool h (by simp [binOp, Op.intCmp])
  case leq => rw [ltF_eq] at h; exact Gives.bool h (by simp [binOp, Op.intCmp]; rw [Bool.eq_iff_iff]; simp)
  case geq => rw [ltF_eq] at h; exact Gives.bool h (by simp [binOp, Op.intCmp]; rw [Bool.eq_iff_iff]; simp)
  all_goals cases h
theorem binStr_gives {op : BinOp} {s u : ByteArray} {t : TypeId} {x : AV} (h : binStr op (bytesOf s) (bytesOf u) = some x) : Gives P π w (binOp op t (.string s) (.string u)) x := by
  have hlt : ∀ a b : ByteArray, ltL (bytesOf a) (bytesOf b) = Op.bytesLess a.toList b.toList := fun a b => by
    rw [ByteArray.toList_eq, ByteArray.toList_eq]; exact ltL_eq _ _
  have htri : ∀ a b : ByteArray, (!Op.bytesLess b.toList a.toList) = (Op.bytesLess a.toList b.toList || a.toList == b.toList) := fun a b => by
    rw [Go.Proofs.bytesLess_eq, Go.Proofs.bytesLess_eq, Bool.eq_iff_iff]
    simp only [Bool.not_eq_true', decide_eq_false_iff_not, Bool.or_eq_true, decide_eq_true_eq, beq_iff_eq]
    constructor
    · intro hn
      by_cases h1 : a.toList < b.toList
      · exact .inl h1
      · exact .inr (List.le_antisymm (List.not_lt.1 hn) (List.not_lt.1 h1))
    · rintro (h1 | h1)
      · exact List.lt_asymm h1
      · rw [h1]; exact List.lt_irrefl _
  cases op <;> simp only [binStr] at h
  case eql => rw [eqL_eq, bytesOf_inj] at h; exact Gives.bool h (by simp [binOp, Op.stringOp])
  case neq => rw [eqL_eq, bytesOf_inj] at h; exact Gives.bool h (by simp [binOp, Op.stringOp])
  case lss => rw [hlt] at h; exact Gives.bool h (by simp [binOp, Op.stringOp])
  case gtr => rw [hlt] at h; refine Gives.bool h ?_; simp only [binOp, Op.stringOp, Sem.run_pure]; rw [← htri]; simp
  case leq => rw [hlt] at h; refine Gives.bool h ?_; simp only [binOp, Op.stringOp, Sem.run_pure]; rw [← htri]
  case geq => rw [hlt] at h; exact Gives.bool h (by simp [binOp, Op.stringOp])
  case add =>
    split at h
    · rename_i hb
      rw [strI_some h]
      have hb' : s.size + u.size < 9223372036854775807 := by simp [Nat.blt, bytesOf_length] at hb; omega
      refine ⟨.string (s ++ u), ?_, ?_⟩
      · have : ¬ (((s.size + u.size : Nat) : Int) > IntKind.i64.max) := by simp [IntKind.max, IntKind.bits, IntKind.signed]; omega
        simp only [binOp, Op.stringOp]
        rw [if_neg this]; rfl
      · simp only [VR]; exact ⟨_, rfl, bytesOf_append s u⟩
    · cases h
  all_goals cases h
end Go.Proofs.YtjagjjdkgidkjaaGreatDoor.Ev
