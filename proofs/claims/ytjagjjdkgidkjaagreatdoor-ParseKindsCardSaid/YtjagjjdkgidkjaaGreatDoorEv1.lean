/- Part Ev1 of a verified evaluator of closed calls: of no program; no condition. -/
import Derived.Test.YtjagjjdkgidkjaaGreatDoorEv0
/-
  The evaluator: abstract values, the trie, the abstract heap, the operations. Everything here is a plain function: no proof.
-/
set_option linter.all false
namespace Go.Proofs.YtjagjjdkgidkjaaGreatDoor.Ev
open Go
noncomputable section

/-- Abstract values. Addresses are abstract block numbers and offsets. -/
inductive AV where
  | bool (b : Bool)
  | int (k : IntKind) (n : Int)
  | float (k : FloatKind) (bits : Nat)
  | str (s : List Nat)
  | nilptr
  | ptr (b o : Nat)
  | nilslice
  | slice (b o len cap esz : Nat) (ex : Bool)
  | nilmap
  | map (r : Nat)
  | func (f : FuncId) (first caps : List AV)
  | nilFunc
  | iface (t : TypeId) (v : AV)
  | nilIface
  | agg (cs : List AV)
  | tuple (vs : List AV)
  /-- some string that is none of these -/
  | ostr (cs : List (List Nat))
  deriving Inhabited

/-- Whole: the real block is just this long. Loose: it may be longer. Wild: its frozen cells may lie past the end. Far: it may begin behind the real one's beginning. -/
inductive BK where
  | whole
  | loose
  | wild
  | far
def BK.share (k : BK) (o : Nat) : BK :=
  match k with
  | .wild => .wild
  | .far => .far
  | _ => match o with
    | 0 => .loose
    | _ + 1 => .far
/-- Does the block begin where the real one does, its frozen cells within? -/
def BK.near : BK → Bool
  | .whole => true
  | .loose => true
  | _ => false

inductive ABlk where
  /-- cells: contents, how many, the element's type, how many may be frozen, may it be written, what kind of block -/
  | cells (c : T AV) (size : Nat) (elem : TypeId) (frz : Nat) (own : Bool) (kind : BK)
  | dead
  | map (es : List (AV × AV × Nat)) (clock : Nat)
  | siter (s : List Nat) (pos : Nat)
  | miter (m since : Nat) (seen : List Nat) (last : Nat)
  | niter

structure AS where
  heap : T ABlk
  next : Nat

def AS.get (σ : AS) (b : Nat) : Option ABlk := σ.heap.get b
def AS.upd (σ : AS) (b : Nat) (B : ABlk) : AS := (σ.heap.set b B).seq fun h => ⟨h, σ.next⟩
def AS.new {β : Type} (σ : AS) (B : ABlk) (k : Nat → AS → β) : β :=
  fNat σ.next fun n => (σ.heap.set n B).seq fun h => k n ⟨h, Nat.succ n⟩

/-- A list laid into a trie, from place i on. -/
def lay (l : List AV) : Nat → T AV → T AV := lR (fun _ t => t) (fun x ih i t => fNat i fun i => T.seq (T.set t i x) fun t => ih (Nat.succ i) t) l
def AS.row {β : Type} (σ : AS) (elem : TypeId) (cs : List AV) (whole : BK) (k : Nat → AS → β) : β :=
  fNat cs.length fun n => (lay cs 0 .nil).seq fun c => σ.new (.cells c n elem 0 true whole) k

/-- n cells from place o on. -/
def readN (c : T AV) : Nat → Nat → Option (List AV)
  | 0, _ => some []
  | n + 1, o => fNat o fun o => oB (c.get o) fun x => oB (readN c n (Nat.succ o)) fun xs => some (x :: xs)
/-- One cell wide? -/
def AV.one : AV → Bool
  | .agg _ => false
  | .tuple _ => false
  | _ => true
def allOne (xs : List AV) : Bool := lR true (fun x r => bM x.one r false) xs
def writeL (σ : AS) (b o : Nat) (xs : List AV) : Option AS :=
  match σ.get b with
  | some (.cells c size elem frz true w) =>
    gB (Nat.ble (o + xs.length) size) (gB (Nat.ble frz o) (gB (allOne xs) (T.seq (lay xs o c) fun c => some (σ.upd b (.cells c size elem frz true w)))))
  | _ => none

/-- The abstract value of a literal. -/
def bytesOf (s : ByteArray) : List Nat := s.data.toList.map UInt8.toNat
def ofValues (f : Value → Option AV) : List Value → Option (List AV)
  | [] => some []
  | v :: vs => match f v with
    | none => none
    | some x => match ofValues f vs with
      | none => none
      | some xs => some (x :: xs)
def ofValueN : Nat → Value → Option AV
  | 0, _ => none
  | d + 1, v => match v with
    | .bool b => some (.bool b)
    | .int k n => some (.int k n)
    | .float k b => some (.float k b)
    | .string s => fNats (bytesOf s) fun l => some (.str l)
    | .pointer none => some .nilptr
    | .slice none 0 0 => some .nilslice
    | .map none => some .nilmap
    | .nilFunc => some .nilFunc
    | .nilIface => some .nilIface
    | .func (.func f) ⟨[]⟩ ⟨[]⟩ => some (.func f [] [])
    | .agg cs => match ofValues (ofValueN d) cs.toList with
      | some xs => some (.agg xs)
      | none => none
    | .tuple cs => match ofValues (ofValueN d) cs.toList with
      | some xs => some (.tuple xs)
      | none => none
    | .iface t x => match ofValueN d x with
      | some y => some (.iface t y)
      | none => none
    | _ => none
def ofValue (v : Value) : Option AV := ofValueN 8 v

def AV.cells : AV → List AV
  | .agg cs => cs
  | v => [v]

/-- Back to a value: what bears no address. -/
def unbytes (l : List Nat) : ByteArray := ⟨(l.map UInt8.ofNat).toArray⟩
def flats (f : AV → Option Value) : List AV → Option (List Value)
  | [] => some []
  | x :: xs => match f x with
    | none => none
    | some v => match flats f xs with
      | none => none
      | some vs => some (v :: vs)
def flatN : Nat → AV → Option Value
  | 0, _ => none
  | d + 1, x => match x with
    | .bool b => some (.bool b)
    | .int k n => some (.int k n)
    | .float k b => some (.float k b)
    | .str l => some (.string (unbytes l))
    | .nilptr => some (.pointer none)
    | .nilslice => some (.slice none 0 0)
    | .nilmap => some (.map none)
    | .nilFunc => some .nilFunc
    | .nilIface => some .nilIface
    | .iface t y => match flatN d y with
      | some v => some (.iface t v)
      | none => none
    | .agg xs => match flats (flatN d) xs with
      | some vs => some (.agg ⟨vs⟩)
      | none => none
    | .tuple xs => match flats (flatN d) xs with
      | some vs => some (.tuple ⟨vs⟩)
      | none => none
    | _ => none
def flat (x : AV) : Option Value := flatN 8 x

/-- A computation that touches no memory and asks no open question. -/
def pureRun {α : Type} (P : Program) : Sem α → Option α
  | .pure a => some a
  | .program k => pureRun P (k P)
  | .mark _ k => pureRun P k
  | .choose q k => if q.forced then pureRun P (k 0) else none
  | _ => none

/-- What a law on flat values gives. -/
def viaPure (P : Program) (s : Sem Value) : Option AV :=
  match pureRun P s with
  | some v => ofValue v
  | none => none
def viaPureN (P : Program) (s : Sem Next) : Option AV :=
  match pureRun P s with
  | some (.value v) => ofValue v
  | _ => none

def sizeOfT (P : Program) (t : TypeId) : Option Nat := (P.info? t).map (·.size)
def bytesOfT (P : Program) (t : TypeId) : Option Nat := (P.info? t).map (·.bytes)
def zeroOfT (P : Program) (t : TypeId) : Option AV :=
  match P.info? t with
  | some i => match i.zero with
    | some z => ofValue z
    | none => none
  | none => none
def isAggT (P : Program) (t : TypeId) : Option Bool :=
  match P.underlying t with
  | some (.struct _) | some (.array _ _) => some true
  | some _ => some false
  | none => none

/-! ### integers -/
def maxOf : IntKind → Nat
  | .i8 => 127 | .i16 => 32767 | .i32 => 2147483647 | .i64 => 9223372036854775807
  | .u8 => 255 | .u16 => 65535 | .u32 => 4294967295 | .u64 => 18446744073709551615
def wrapF (k : IntKind) (n : Int) : Int :=
  match n with
  | .ofNat m => match Nat.ble m (maxOf k) with
    | true => n
    | false => k.wrap n
  | .negSucc m => match k.signed, Nat.ble m (maxOf k) with
    | true, true => n
    | _, _ => k.wrap n
def ltF : Int → Int → Bool
  | .ofNat a, .ofNat b => Nat.blt a b
  | .negSucc _, .ofNat _ => true
  | .ofNat _, .negSucc _ => false
  | .negSucc a, .negSucc b => Nat.blt b a
def eqF : Int → Int → Bool
  | .ofNat a, .ofNat b => Nat.beq a b
  | .negSucc a, .negSucc b => Nat.beq a b
  | _, _ => false
def eqL : List Nat → List Nat → Bool
  | [], [] => true
  | a :: x, b :: y => match Nat.beq a b with
    | true => eqL x y
    | false => false
  | _, _ => false
def ltL : List Nat → List Nat → Bool
  | _, [] => false
  | [], _ :: _ => true
  | a :: x, b :: y => match Nat.blt a b with
    | true => true
    | false => match Nat.beq a b with
      | true => ltL x y
      | false => false

def kindEq (k k' : IntKind) : Bool := decide (k = k')
def intI (k : IntKind) (n : Int) : Option AV := fInt n fun n => some (.int k n)
def boolI (b : Bool) : Option AV := fBool b fun b => some (.bool b)
def strI (l : List Nat) : Option AV := fNats l fun l => some (.str l)

def isConst : Operand → Bool
  | .const _ => true
  | _ => false

def binInt (op : BinOp) (k : IntKind) (a b : Int) : Option AV :=
  match op with
  | .add => intI k (wrapF k (a + b))
  | .sub => intI k (wrapF k (a - b))
  | .mul => intI k (wrapF k (a * b))
  | .eql => boolI (eqF a b)
  | .neq => boolI (!eqF a b)
  | .lss => boolI (ltF a b)
  | .gtr => boolI (ltF b a)
  | .leq => boolI (!ltF b a)
  | .geq => boolI (!ltF a b)
  | _ => none
def binStr (op : BinOp) (x y : List Nat) : Option AV :=
  match op with
  | .eql => boolI (eqL x y)
  | .neq => boolI (!eqL x y)
  | .lss => boolI (ltL x y)
  | .gtr => boolI (ltL y x)
  | .leq => boolI (!ltL y x)
  | .geq => boolI (!ltL x y)
  | .add => match Nat.blt (x.length + y.length) 9223372036854775807 with
    | true => strI (x ++ y)
    | false => none
  | _ => none
/-- Equality with nil, and of what bears an address. -/
def eqNil (P : Program) (t : TypeDesc) (x y : AV) : Option Bool :=
  match t, x, y with
  | .pointer e, .ptr b o, .ptr b' o' => match Nat.beq b b', sizeOfT P e with
    | true, some (_ + 1) => some (Nat.beq o o')
    | _, _ => none
  | .pointer _, .nilptr, .nilptr => some true
  | .pointer _, .nilptr, .ptr _ _ => some false
  | .pointer _, .ptr _ _, .nilptr => some false
  | .slice _, .nilslice, .nilslice => some true
  | .slice _, .nilslice, .slice .. => some false
  | .slice _, .slice .., .nilslice => some false
  | .map _ _, .nilmap, .nilmap => some true
  | .map _ _, .nilmap, .map _ => some false
  | .map _ _, .map _, .nilmap => some false
  | .func _ _ _, .nilFunc, .nilFunc => some true
  | .func _ _ _, .nilFunc, .func _ _ _ => some false
  | .func _ _ _, .func _ _ _, .nilFunc => some false
  | .interface _, .nilIface, .iface _ _ => some false
  | .interface _, .iface _ _, .nilIface => some false
  | _, _, _ => none
def binII (P : Program) (op : BinOp) (t : TypeId) (k : IntKind) (m : Int) (k' : IntKind) (n : Int) : Option AV :=
  match op with
  | .shl | .shr | .quo | .rem | .and | .or | .xor | .andNot => viaPure P (binOp op t (.int k m) (.int k' n))
  | _ => gB (kindEq k k') (binInt op k m n)
def binBB (P : Program) (op : BinOp) (t : TypeId) (m n : Bool) : Option AV :=
  match P.underlying t, op with
  | some .bool, .eql => boolI (m == n)
  | some .bool, .neq => boolI (m != n)
  | _, _ => none
def binNN (P : Program) (op : BinOp) (t : TypeId) (x y : Operand) : Option AV :=
  match op, P.underlying t, isConst x || isConst y with
  | .eql, some (.interface _), true => boolI true
  | .neq, some (.interface _), true => boolI false
  | _, _, _ => none
def binFlat (P : Program) (op : BinOp) (t : TypeId) (x y : Operand) (a b : AV) : Option AV :=
  oB (flat a) fun va => oB (flat b) fun vb => viaPure P (do eqGuard op t x y va vb; binOp op t va vb)
def binRest (P : Program) (op : BinOp) (t : TypeId) (x y : Operand) (a b : AV) : Option AV :=
  match op with
  | .eql => oB (P.underlying t) fun d => oM (eqNil P d a b) (binFlat P op t x y a b) boolI
  | .neq => oB (P.underlying t) fun d => oM (eqNil P d a b) (binFlat P op t x y a b) fun r => boolI (!r)
  | _ => binFlat P op t x y a b
def memL (x : List Nat) : List (List Nat) → Bool
  | [] => false
  | y :: r => match eqL x y with
    | true => true
    | false => memL x r
def binOther (op : BinOp) (cs : List (List Nat)) (n : List Nat) : Option AV :=
  match memL n cs with
  | true => match op with
    | .eql => some (.bool false)
    | .neq => some (.bool true)
    | _ => none
  | false => none
def bin (P : Program) (op : BinOp) (t : TypeId) (x y : Operand) (a b : AV) : Option AV :=
  match a with
  | .ostr cs => match b with
    | .str n => binOther op cs n
    | _ => none
  | .int k m => match b with
    | .int k' n => binII P op t k m k' n
    | _ => none
  | .str m => match b with
    | .str n => binStr op m n
    | _ => none
  | .bool m => match b with
    | .bool n => binBB P op t m n
    | _ => none
  | .nilIface => match b with
    | .nilIface => binNN P op t x y
    | b => binRest P op t x y .nilIface b
  | a => binRest P op t x y a b

/-! ### the pure operations -/
def partA (P : Program) (t : TypeId) (cs : List AV) (off : Nat) : Option AV :=
  match isAggT P t with
  | some true => match sizeOfT P t with
    | some n => match Nat.ble (off + n) cs.length with
      | true => some (.agg ((cs.drop off).take n))
      | false => none
    | none => none
  | some false => cs[off]?
  | none => none
def natI : AV → Option Nat
  | .int _ (.ofNat n) => fNat n some
  | _ => none
def splice (cs : List AV) (off : Nat) (vs : List AV) : List AV := cs.take off ++ vs ++ cs.drop (off + vs.length)
def fillA (place : Nat → Option (Nat × Nat)) : List AV → List (Nat × AV) → Option (List AV)
  | cs, [] => some cs
  | cs, (i, v) :: rest =>
    match place i with
    | none => none
    | some (off, size) => match Nat.beq v.cells.length size, Nat.ble (off + size) cs.length with
      | true, true => fillA place (splice cs off v.cells) rest
      | _, _ => none
def partsA (ρ : Operand → Option AV) : List (Nat × Operand) → Option (List (Nat × AV))
  | [] => some []
  | (i, x) :: r => match ρ x with
    | none => none
    | some v => match partsA ρ r with
      | none => none
      | some l => some ((i, v) :: l)
def argsA (ρ : Operand → Option AV) : List Operand → Option (List AV)
  | [] => some []
  | x :: r => match ρ x with
    | none => none
    | some v => match argsA ρ r with
      | none => none
      | some l => some (v :: l)
def placesA (P : Program) (fs : Array Field) (i : Nat) : Option (Nat × Nat) :=
  match fs[i]? with
  | some f => match sizeOfT P f.type with
    | some n => some (f.offset, n)
    | none => none
  | none => none
def buildA (P : Program) (t : TypeId) (parts : List (Nat × AV)) : Option AV :=
  match zeroOfT P t, P.underlying t with
  | some z, some (.struct fs) => match fs.all fun f => (sizeOfT P f.type).isSome with
    | true => match fillA (placesA P fs) z.cells parts with
      | some cs => some (.agg cs)
      | none => none
    | false => none
  | some z, some (.array _ e) => match sizeOfT P e with
    | some n => match fillA (fun i => some (i * n, n)) z.cells parts with
      | some cs => some (.agg cs)
      | none => none
    | none => none
  | _, _ => none

def boundA (x : Option AV) (dflt most : Nat) : Option Nat :=
  match x with
  | none => some dflt
  | some v => match natI v with
    | some n => match Nat.ble n most with
      | true => some n
      | false => none
    | none => none
def optA (ρ : Operand → Option AV) : Option Operand → Option (Option AV)
  | none => some none
  | some x => match ρ x with
    | some v => some (some v)
    | none => none
def elemSize (P : Program) (t : TypeId) : Option Nat :=
  match P.underlying t with
  | some (.slice e) => sizeOfT P e
  | some (.array _ e) => sizeOfT P e
  | some (.pointer a) => match P.underlying a with
    | some (.array _ e) => sizeOfT P e
    | _ => none
  | _ => none
def sliceA (P : Program) (t : TypeId) (x : AV) (lo hi : Option AV) : Option AV :=
  match x with
  | .str s => match P.underlying t with
    | some .string => oB (boundA hi s.length s.length) fun h => oB (boundA lo 0 h) fun l => strI ((s.take h).drop l)
    | _ => none
  | .nilslice => match P.underlying t with
    | some (.slice e) => oB (sizeOfT P e) fun _ => oB (boundA hi 0 0) fun h => gB (Nat.beq h 0) (oB (boundA lo 0 0) fun l => gB (Nat.beq l 0) (some .nilslice))
    | _ => none
  | .slice b o len cap esz ex => match P.underlying t with
    | some (.slice e) => oB (sizeOfT P e) fun n => gB (Nat.beq n esz) (oB (boundA hi len cap) fun h => gB (Nat.ble h cap) (oB (boundA lo 0 h) fun l => gB (Nat.ble l h)
        (bM (ex && Nat.beq cap l) (some (.slice b o 0 0 esz true))
          (fNat (o + l * esz) fun o => fNat (h - l) fun n => fNat (cap - l) fun c => some (.slice b o n c esz ex)))))
    | _ => none
  | _ => none
/-- An array behind an address, sliced. -/
def sliceArr (σ : AS) (n size b o : Nat) (lo hi : Option AV) : Option AV :=
  match σ.get b with
  | some (.cells _ bs _ _ _ _) => gB (Nat.ble (o + n * size) bs) (oB (boundA hi n n) fun h => gB (Nat.ble h n) (oB (boundA lo 0 h) fun l => gB (Nat.ble l h)
      (bM (Nat.beq n l) (some (.slice b o 0 0 size true))
        (fNat (o + l * size) fun o => fNat (h - l) fun k => fNat (n - l) fun c => some (.slice b o k c size true)))))
  | _ => none
def indexAddrA (P : Program) (t : TypeId) (x ix : AV) : Option AV :=
  match natI ix, P.underlying t, x with
  | some i, some (.slice e), .slice b o len _ esz _ => match sizeOfT P e with
    | some n => match Nat.beq n esz, Nat.blt i len with
      | true, true => fNat (o + i * n) fun o => some (.ptr b o)
      | _, _ => none
    | none => none
  | some i, some (.array len e), .ptr b o => match sizeOfT P e with
    | some n => match Nat.blt i len with
      | true => fNat (o + i * n) fun o => some (.ptr b o)
      | false => none
    | none => none
  | _, _, _ => none
def indexA (P : Program) (t : TypeId) (x ix : AV) : Option AV :=
  match natI ix, P.underlying t, x with
  | some i, some .string, .str s => match s[i]? with
    | some b => fNat b fun b => some (.int .u8 (.ofNat b))
    | none => none
  | some i, some (.array len e), .agg cs => match sizeOfT P e with
    | some n => match Nat.blt i len with
      | true => partA P e cs (i * n)
      | false => none
    | none => none
  | _, _, _ => none
def convA (P : Program) (s d : TypeId) (x : AV) : Option AV :=
  match P.underlying s, P.underlying d, x with
  | some _, some (.int k), .int _ n => intI k (wrapF k n)
  | some _, some .string, .str l => some (.str l)
  | some (.pointer _), some .unsafePointer, .nilptr => some .nilptr
  | some .unsafePointer, some (.pointer _), .nilptr => some .nilptr
  | _, _, _ => match flat x with
    | some v => viaPure P (convert s d v)
    | none => none
def lenA (P : Program) (t : TypeId) (x : AV) : Option AV :=
  match P.underlying t, x with
  | some .string, .str l => fNat l.length fun n => some (.int .i64 (.ofNat n))
  | some (.slice _), .slice _ _ n _ _ _ => some (.int .i64 (.ofNat n))
  | some (.slice _), .nilslice => some (.int .i64 0)
  | some (.map _ _), .nilmap => some (.int .i64 0)
  | some (.array n _), _ => some (.int .i64 (.ofNat n))
  | some (.pointer a), _ => match P.underlying a with
    | some (.array n _) => some (.int .i64 (.ofNat n))
    | _ => none
  | _, _ => none
def mm2 (mx : Bool) (x y : AV) : Option AV :=
  match x, y with
  | .int k a, .int _ b => match mx with
    | true => match ltF a b with
      | true => some (.int k b)
      | false => some (.int k a)
    | false => match ltF b a with
      | true => some (.int k b)
      | false => some (.int k a)
  | _, _ => none
def mmL (mx : Bool) : AV → List AV → Option AV
  | x, [] => some x
  | x, y :: r => match mm2 mx x y with
    | some z => mmL mx z r
    | none => none
def assertA (P : Program) (x : AV) (asserted : TypeId) (ok : Bool) : Option AV :=
  match x, P.underlying asserted with
  | .iface t v, some d =>
    match d with
    | .interface want => match P.info? t with
      | some i => match Instr.missingMethod want i.methods with
        | none => some (match ok with | true => .tuple [.iface t v, .bool true] | false => .iface t v)
        | some _ => match ok with
          | true => match zeroOfT P asserted with
            | some z => some (.tuple [z, .bool false])
            | none => none
          | false => none
      | none => none
    | _ => match Nat.beq t asserted with
      | true => some (match ok with | true => .tuple [v, .bool true] | false => v)
      | false => match ok with
        | true => match zeroOfT P asserted with
          | some z => some (.tuple [z, .bool false])
          | none => none
        | false => none
  | .nilIface, some _ => match ok with
    | true => match zeroOfT P asserted with
      | some z => some (.tuple [z, .bool false])
      | none => none
    | false => none
  | _, _ => none

/-! The operations that neither read nor write memory: one law each, the operands' reading last. -/
abbrev Rho := Operand → Option AV
def qMove (x : Operand) (_P : Program) (ρ : Rho) : Option AV := ρ x
def qPick (c a b : Operand) (_P : Program) (ρ : Rho) : Option AV :=
  match ρ c with
  | some (.bool true) => ρ a
  | some (.bool false) => ρ b
  | _ => none
def qBuild (t : TypeId) (parts : Array (Nat × Operand)) (P : Program) (ρ : Rho) : Option AV :=
  match partsA ρ parts.toList with
  | some l => buildA P t l
  | none => none
def qNilCheck (x : Operand) (_P : Program) (ρ : Rho) : Option AV :=
  match ρ x with
  | some (.ptr b o) => some (.ptr b o)
  | some (.func f p c) => some (.func f p c)
  | some (.iface t v) => some (.iface t v)
  | some (.int k n) => some (.int k n)
  | _ => none
def qBin (op : BinOp) (t : TypeId) (x y : Operand) (_ : TypeId) (P : Program) (ρ : Rho) : Option AV :=
  match ρ x with
  | some a => match ρ y with
    | some b => bin P op t x y a b
    | none => none
  | none => none
def qUn (op : UnOp) (_ : TypeId) (x : Operand) (P : Program) (ρ : Rho) : Option AV :=
  match op, ρ x with
  | .not, some (.bool b) => boolI (!b)
  | .neg, some (.int k n) => intI k (wrapF k (0 - n))
  | op, some a => match flat a with
    | some v => viaPure P (Op.unary op v)
    | none => none
  | _, none => none
def qConv (s d : TypeId) (x : Operand) (P : Program) (ρ : Rho) : Option AV :=
  match ρ x with
  | some a => convA P s d a
  | none => none
def qIface (t : TypeId) (x : Operand) (P : Program) (ρ : Rho) : Option AV :=
  match P.underlying t, ρ x with
  | some (.interface _), _ => none
  | some _, some a => some (.iface t a)
  | _, _ => none
def qFunc (fn : Fn) (first captured : Array Operand) (_P : Program) (ρ : Rho) : Option AV :=
  match fn, argsA ρ first.toList, argsA ρ captured.toList with
  | .func f, some p, some l => some (.func f p l)
  | _, _, _ => none
def qSlice (t : TypeId) (x : Operand) (lo hi mx : Option Operand) (P : Program) (ρ : Rho) : Option AV :=
  oM mx (oB (ρ x) fun a => oB (optA ρ lo) fun l => oB (optA ρ hi) fun h => sliceA P t a l h) fun _ => none
def qFieldAddr (s : TypeId) (x : Operand) (f : Nat) (P : Program) (ρ : Rho) : Option AV :=
  match ρ x, P.underlying s with
  | some (.ptr b o), some (.struct fs) => match fs[f]? with
    | some fd => match sizeOfT P fd.type with
      | some (_ + 1) => fNat (o + fd.offset) fun o => some (.ptr b o)
      | _ => none
    | none => none
  | _, _ => none
def qField (t : TypeId) (x : Operand) (f : Nat) (P : Program) (ρ : Rho) : Option AV :=
  match ρ x, P.underlying t with
  | some (.agg cs), some (.struct fs) => match fs[f]? with
    | some fd => partA P fd.type cs fd.offset
    | none => none
  | _, _ => none
def qIndexAddr (t : TypeId) (x ix : Operand) (P : Program) (ρ : Rho) : Option AV :=
  match ρ x, ρ ix with
  | some a, some i => indexAddrA P t a i
  | _, _ => none
def qIndex (t : TypeId) (x ix : Operand) (P : Program) (ρ : Rho) : Option AV :=
  match ρ x, ρ ix with
  | some a, some i => indexA P t a i
  | _, _ => none
def qAssert (x : Operand) (_ asserted : TypeId) (ok : Bool) (P : Program) (ρ : Rho) : Option AV :=
  match ρ x with
  | some a => assertA P a asserted ok
  | none => none
def qExtract (t : Operand) (i : Nat) (_P : Program) (ρ : Rho) : Option AV :=
  match ρ t with
  | some (.tuple vs) => vs[i]?
  | _ => none
def qLen (args : Array Operand) (ts : Array TypeId) (P : Program) (ρ : Rho) : Option AV :=
  match args.toList, ts.toList with
  | [x], t :: _ => match ρ x with
    | some a => lenA P t a
    | none => none
  | _, _ => none
def qMm (mx : Bool) (args : Array Operand) (_P : Program) (ρ : Rho) : Option AV :=
  match argsA ρ args.toList with
  | some (x :: r) => mmL mx x r
  | _ => none

/-! ### what reads memory, and turns nothing -/
def loadA (P : Program) (σ : AS) (t : TypeId) (b o : Nat) : Option AV :=
  match σ.get b, isAggT P t with
  | some (.cells c size _ _ _ _), some true => match sizeOfT P t with
    | some n => match Nat.ble (o + n) size with
      | true => match readN c n o with
        | some xs => some (.agg xs)
        | none => none
      | false => none
    | none => none
  | some (.cells c size _ _ _ _), some false => match Nat.blt o size with
    | true => c.get o
    | false => none
  | _, _ => none
def keyIs (k e : AV) : Option Bool :=
  match k with
  | .str a => match e with
    | .str b => some (eqL a b)
    | _ => none
  | .int j a => match e with
    | .int j' b => gB (kindEq j j') (some (eqF a b))
    | _ => none
  | _ => none
def findA (k : AV) : List (AV × AV × Nat) → Nat → Option (Option (Nat × AV))
  | [], _ => some none
  | (e, v, _) :: r, i => oB (keyIs k e) fun b => bM b (some (some (i, v))) (findA k r (Nat.succ i))
def keyOk (P : Program) (t : TypeId) (k : AV) : Bool :=
  match P.underlying t, k with
  | some .string, .str _ => true
  | some (.int j), .int j' _ => kindEq j j'
  | _, _ => false
def entriesA (σ : AS) (m : AV) : Option (List (AV × AV × Nat)) :=
  match m with
  | .nilmap => some []
  | .map r => match σ.get r with
    | some (.map es _) => some es
    | _ => none
  | _ => none
def lookupA (P : Program) (σ : AS) (t : TypeId) (m k : AV) (ok : Bool) : Option AV :=
  match P.underlying t with
  | some (.map kt et) => gB (keyOk P kt k) (oB (entriesA σ m) fun es => oB (findA k es 0) fun r =>
      oM r (oB (zeroOfT P et) fun z => some (bM ok (.tuple [z, .bool false]) z)) fun p => some (bM ok (.tuple [p.2, .bool true]) p.2))
  | _ => none
def rLoad (t : TypeId) (a : Operand) (P : Program) (ρ : Rho) (σ : AS) : Option AV :=
  match ρ a with
  | some (.ptr b o) => loadA P σ t b o
  | _ => none
def rSliceArr (t : TypeId) (x : Operand) (lo hi mx : Option Operand) (P : Program) (ρ : Rho) (σ : AS) : Option AV :=
  oM mx (oB (ρ x) fun a => oB (optA ρ lo) fun l => oB (optA ρ hi) fun h =>
    match a, P.underlying t with
    | .ptr b o, some (.array n e) => oB (sizeOfT P e) fun size => sliceArr σ n size b o l h
    | .ptr b o, some (.pointer arr) => match P.underlying arr with
      | some (.array n e) => oB (sizeOfT P e) fun size => sliceArr σ n size b o l h
      | _ => none
    | _, _ => none) fun _ => none
def rLenMap (args : Array Operand) (ts : Array TypeId) (P : Program) (ρ : Rho) (σ : AS) : Option AV :=
  match ts.toList, argsA ρ args.toList with
  | t :: _, some [.map r] => match P.underlying t, σ.get r with
    | some (.map _ _), some (.map es _) => fNat es.length fun n => some (.int .i64 (.ofNat n))
    | _, _ => none
  | t :: _, some [.nilmap] => match P.underlying t with
    | some (.map _ _) => some (.int .i64 0)
    | _ => none
  | _, _ => none
def rLookup (t : TypeId) (m k : Operand) (ok : Bool) (P : Program) (ρ : Rho) (σ : AS) : Option AV :=
  match ρ m, ρ k with
  | some m, some k => lookupA P σ t m k ok
  | _, _ => none
end
end Go.Proofs.YtjagjjdkgidkjaaGreatDoor.Ev
