/- Part Ev2 of a verified evaluator of closed calls: of no program; no condition. -/
import Derived.Test.YtjagjjdkgidkjaaGreatDoorEv1
set_option linter.all false
namespace Go.Proofs.YtjagjjdkgidkjaaGreatDoor.Ev
open Go
noncomputable section

structure ADef where
  f : FuncId
  args : List AV
structure APE where
  v : AV
  recovered : Bool
inductive AX where
  | normal
  | exit (id : Nat)
  | goto (l : Nat)
  | ret
  | panic (chain : List APE)
/-- The temporaries, how many, the deferred calls. -/
structure AA where
  tmps : T AV
  n : Nat
  defers : List ADef
def AA.look (α : AA) (t : Nat) : Option AV := oM (T.get α.tmps t) (some (.tuple [])) some
def AA.put (α : AA) (dst : Option Nat) (v : AV) : Option AA :=
  oM dst (some α) fun d => gB (Nat.blt d α.n) (T.seq (T.set α.tmps d v) fun t => some ⟨t, α.n, α.defers⟩)
/-- 'known': which package-level variables are known. -/
def opd (known : Nat → Bool) (look : Nat → Option AV) : Operand → Option AV
  | .tmp t => look t
  | .const v => ofValue v
  | .global g => gB (known g) (some (.ptr g 0))
  | .func f => some (.func f [] [])

/-- What a loud operation comes to. -/
inductive AR where
  | val (v : AV) (σ : AS)
  | defer (d : ADef) (σ : AS)
  | enter (f : FuncId) (args : List AV) (σ : AS)
  | panic (v : AV) (σ : AS)

def AS.grow (σ : AS) (e : TypeId) (size : Nat) (xs : List AV) (k : Nat) : Option AR :=
  σ.row e xs .loose fun b σ => fNat k fun k => some (.val (.slice b 0 k k size false) σ)
def AS.append (P : Program) (σ : AS) (e : TypeId) (s : AV) (xs : List AV) (n : Nat) : Option AR :=
  oB (sizeOfT P e) fun size => oB (bytesOfT P e) fun bytes => oB (zeroOfT P e) fun z => gB (Nat.beq z.cells.length size) (gB (Nat.beq xs.length (n * size)) (match s with
    | .nilslice => match n with
      | 0 => some (.val .nilslice σ)
      | _ + 1 => gB (Nat.ble (2 * n * bytes) 281474976710656) (gB (Nat.ble n 4611686018427387904) (σ.grow e size xs n))
    | .slice b o len cap esz ex => gB (Nat.beq esz size) (bM (Nat.ble (len + n) cap)
        (match xs with
          | [] => fNat (len + n) fun k => some (.val (.slice b o k cap esz ex) σ)
          | _ => oB (writeL σ b (o + len * size) xs) fun σ => fNat (len + n) fun k => some (.val (.slice b o k cap esz ex) σ))
        (match σ.get b with
          | some (.cells c bs e' frz own kd) => gB (Nat.ble (2 * (len + n) * bytes) 281474976710656) (gB (Nat.ble (len + n) 4611686018427387904) (gB (Nat.ble (o + len * size) bs) (oB (readN c (len * size) o) fun olds =>
            match ex with
              | true => σ.grow e size (olds ++ xs) (len + n)
              | false => gB (own && Nat.beq e e' && Nat.ble frz (o + len * size) && allOne xs)
                (T.seq (lay (olds ++ xs) 0 .nil) fun c => fNat ((len + n) * size) fun m => fNat (frz - o) fun frz =>
                  (σ.upd b .dead).new (.cells c m e frz true (kd.share o)) fun b' σ => fNat (len + n) fun k => some (.val (.slice b' 0 k k size false) σ)))))
          | _ => none))
    | _ => none))

/-- The cells of what is appended or copied: how many elements, and they. -/
def elems (σ : AS) (size : Nat) (x : AV) (n : Nat) : Option (List AV) :=
  match x with
  | .nilslice => some []
  | .slice b o _ _ _ _ => match σ.get b with
    | some (.cells c bs _ _ _ _) => match Nat.ble (o + n * size) bs with
      | true => readN c (n * size) o
      | false => none
    | _ => none
  | .str l => some ((l.take n).map fun b => .int .u8 (.ofNat b))
  | _ => none
def lenOfA : AV → Option Nat
  | .nilslice => some 0
  | .slice _ _ n _ _ _ => some n
  | .str l => fNat l.length some
  | _ => none

/-- The names of functions without a body whose law is plain. -/
def externPure (P : Program) (fn : Func) (args : List AV) : Option AV :=
  match flats (flatN 8) args, Extern.findNext fn, Extern.find fn with
  | some vs, none, some e => viaPure P (e ⟨vs⟩)
  | _, _, _ => none

/-- The words of sync/atomic and of internal/race. -/
inductive Atom where
  | load (k : IntKind)
  | store
  | cas (k : IntKind)
  | add (k : IntKind)
  | nop0
  | nop1
def atomNames : List (String × Atom) :=
  [("sync/atomic.LoadUint32", .load .u32), ("sync/atomic.StoreUint32", .store), ("sync/atomic.CompareAndSwapInt32", .cas .i32), ("sync/atomic.AddInt32", .add .i32),
   ("sync/atomic.LoadInt64", .load .i64), ("sync/atomic.StoreInt64", .store), ("sync/atomic.AddInt64", .add .i64), ("sync/atomic.LoadInt32", .load .i32), ("sync/atomic.StoreInt32", .store),
   ("internal/race.Acquire", .nop1), ("internal/race.Release", .nop1), ("internal/race.ReleaseMerge", .nop1), ("internal/race.Disable", .nop0), ("internal/race.Enable", .nop0)]
def atomOf (n : String) : List (String × Atom) → Option Atom
  | [] => none
  | x :: r => match n == x.1 with
    | true => some x.2
    | false => atomOf n r
def cellI (σ : AS) (k : IntKind) (b o : Nat) : Option Int :=
  match σ.get b with
  | some (.cells c size _ _ _ _) => match Nat.blt o size, c.get o with
    | true, some (.int k' n) => match kindEq k k' with
      | true => some n
      | false => none
    | _, _ => none
  | _ => none
def ownB (σ : AS) (b : Nat) : Bool :=
  match σ.get b with
  | some (.cells _ _ _ _ true _) => true
  | _ => false
def atomA (a : Atom) (σ : AS) (args : List AV) : Option AR :=
  match a with
  | .load k => match args with
    | [.ptr b o] => match cellI σ k b o with
      | some n => some (.val (.int k n) σ)
      | none => none
    | _ => none
  | .store => match args with
    | [.ptr b o, .int k n] => match writeL σ b o [.int k n] with
      | some σ' => some (.val (.tuple []) σ')
      | none => none
    | _ => none
  | .cas k => match args with
    | [.ptr b o, .int k1 x, .int k2 y] => match cellI σ k b o with
      | some z => match writeL σ b o [.int k2 y] with
        | some σ' => match eqF z x with
          | true => some (.val (.bool true) σ')
          | false => some (.val (.bool false) σ)
        | none => none
      | none => none
    | _ => none
  | .add k => match args with
    | [.ptr b o, .int _ y] => match cellI σ k b o with
      | some x => fInt (wrapF k (x + y)) fun z => match writeL σ b o [.int k z] with
        | some σ' => some (.val (.int k z) σ')
        | none => none
      | none => none
    | _ => none
  | .nop0 => some (.val (.tuple []) σ)
  | .nop1 => match args with
    | [.ptr _ _] => some (.val (.tuple []) σ)
    | _ => none
def callF (P : Program) (σ : AS) (f : FuncId) (args : List AV) : Option AR :=
  match P.funcs[f]? with
  | some fn => match fn.name == "runtime.NumGoroutine", fn.body with
    | false, some _ => some (.enter f args σ)
    | false, none => match fn.name == "internal/abi.NoEscape", (Extern.findNext fn).isNone, args with
      | true, true, [.ptr b o] => some (.val (.ptr b o) σ)
      | _, _, _ => match atomOf fn.name atomNames, (Extern.findNext fn).isNone with
        | some a, true => atomA a σ args
        | _, _ => match externPure P fn args with
          | some v => some (.val v σ)
          | none => none
    | true, _ => none
  | none => none

def byte1 : AV → Option Nat
  | .int .u8 (.ofNat b) => gB (Nat.ble b 255) (some b)
  | _ => none
def byteL : List AV → Option (List Nat)
  | [] => some []
  | x :: xs => oB (byte1 x) fun b => oB (byteL xs) fun l => some (b :: l)
def byteConv (P : Program) (σ : AS) (s d : TypeId) (x : AV) : Option AR :=
  match P.underlying s, P.underlying d, x with
  | some .string, some (.slice e), .str l => match P.underlying e with
    | some (.int .u8) => fNat l.length fun n =>
      σ.row e (l.map fun b => .int .u8 (.ofNat b)) .wild fun b σ => some (.val (.slice b 0 n n 1 false) σ)
    | _ => none
  | some (.slice e), some .string, .nilslice => match P.underlying e with
    | some (.int .u8) => some (.val (.str []) σ)
    | _ => none
  | some (.slice e), some .string, .slice b o n _ _ _ => match P.underlying e with
    | some (.int .u8) => match σ.get b with
      | some (.cells c bs _ _ _ _) => gB (Nat.ble (o + n) bs) (oB (readN c n o) fun xs => oB (byteL xs) fun l => fNats l fun l => some (.val (.str l) σ))
      | _ => none
    | _ => none
  | some (.pointer t), some .unsafePointer, .ptr b o => match σ.get b, sizeOfT P t with
    | some (.cells _ bs _ _ _ _), some (_ + 1) => match Nat.blt o bs with
      | true => some (.val (.ptr b o) σ)
      | false => none
    | _, _ => none
  | some .unsafePointer, some (.pointer u), .ptr b o => match σ.get b, sizeOfT P u with
    | some (.cells _ bs e _ true .whole), some (_ + 1) => match liesAt P P.depth e (bs / P.cellsOf e) o u 1 with
      | true => some (.val (.ptr b o) σ)
      | false => none
    | _, _ => none
  | _, _, _ => match convA P s d x with
    | some v => some (.val v σ)
    | none => none

/-- unsafe.String over bytes. -/
def unsafeStr (P : Program) (σ : AS) (pt : TypeId) (p : AV) (n : Nat) : Option AR :=
  match n with
  | 0 => match p with
    | .nilptr => some (.val (.str []) σ)
    | .ptr _ _ => some (.val (.str []) σ)
    | _ => none
  | _ + 1 => match p, P.underlying pt with
    | .ptr b o, some (.pointer u) => match σ.get b with
      | some (.cells c bs e frz true w) => gB (w.near && Nat.beq o 0) (gB (Nat.beq e u) (gB (Nat.ble (o + n) bs) (oB (sizeOfT P e) fun s => gB (Nat.beq s 1) (oB (readN c n o) fun xs => oB (byteL xs) fun l =>
          fNats l fun l => fNat (max frz (o + n)) fun frz => some (.val (.str l) (σ.upd b (.cells c bs e frz true w)))))))
      | _ => none
    | _, _ => none

def builtinA (P : Program) (σ : AS) (b : Builtin) (ts : List TypeId) (args : List AV) : Option AR :=
  match b with
  | .append => match ts, args with
    | [st, xt], [s, x] => match P.underlying st with
      | some (.slice e) => gB (match P.underlying xt with | some (.slice _) => true | some .string => true | _ => false)
        (oB (sizeOfT P e) fun size => oB (lenOfA x) fun n => oB (elems σ size x n) fun xs => σ.append P e s xs n)
      | _ => none
    | _, _ => none
  | .copy => match ts, args with
    | [dt, _], [d, s] => match P.underlying dt with
      | some (.slice e) => match sizeOfT P e, lenOfA s, d with
        | some _, some _, .nilslice => some (.val (.int .i64 0) σ)
        | some size, some m, .slice b o dn _ _ _ => fNat (min m dn) fun n =>
          match elems σ size s n with
          | some [] => some (.val (.int .i64 (.ofNat n)) σ)
          | some xs => match writeL σ b o xs with
            | some σ => some (.val (.int .i64 (.ofNat n)) σ)
            | none => none
          | none => none
        | _, _, _ => none
      | _ => none
    | _, _ => none
  | .panic => match args with
    | [.iface t v] => some (.panic (.iface t v) σ)
    | _ => none
  | .unsafeSliceData => match args with
    | [.nilslice] => some (.val .nilptr σ)
    | [.slice b o _ cap _ _] => match cap with
      | 0 => none
      | _ + 1 => some (.val (.ptr b o) σ)
    | _ => none
  | .unsafeString => match ts, args with
    | [pt, _], [p, .int .i64 (.ofNat n)] => match Nat.ble n 9223372036854775807 with
      | true => fNat n fun n => unsafeStr P σ pt p n
      | false => none
    | _, _ => none
  | .len => match ts, args with
    | t :: _, [.map r] => match P.underlying t, σ.get r with
      | some (.map _ _), some (.map es _) => fNat es.length fun n => some (.val (.int .i64 (.ofNat n)) σ)
      | _, _ => none
    | _, _ => none
  | _ => none

def setAt (es : List (AV × AV × Nat)) (i : Nat) (v : AV) : List (AV × AV × Nat) :=
  match es with
  | [] => []
  | (k, x, n) :: r => match i with
    | 0 => (k, v, n) :: r
    | j + 1 => (k, x, n) :: setAt r j v

def lAlloc (t : TypeId) (P : Program) (_ρ : Rho) (σ : AS) : Option AR :=
  match zeroOfT P t with
  | some z => σ.row t z.cells .whole fun b σ => some (.val (.ptr b 0) σ)
  | none => none
def lBox (t : TypeId) (x : Operand) (_P : Program) (ρ : Rho) (σ : AS) : Option AR :=
  match ρ x with
  | some v => σ.row t v.cells .whole fun b σ => some (.val (.ptr b 0) σ)
  | none => none
def lBuildSlice (t : TypeId) (len : Nat) (parts : Array (Nat × Operand)) (P : Program) (ρ : Rho) (σ : AS) : Option AR :=
  match P.underlying t, partsA ρ parts.toList with
  | some (.slice e), some l => match sizeOfT P e, zeroOfT P e with
    | some size, some z => match Nat.ble (len * size) 16777216, Nat.beq z.cells.length size with
      | true, true => match fillA (fun i => some (i * size, size)) (List.replicate len z.cells).flatten l with
        | some cs => σ.row e cs .whole fun b σ => fNat len fun n => some (.val (.slice b 0 n n size true) σ)
        | none => none
      | _, _ => none
    | _, _ => none
  | _, _ => none
def lStore (t : TypeId) (a x : Operand) (P : Program) (ρ : Rho) (σ : AS) : Option AR :=
  match ρ a, ρ x, sizeOfT P t with
  | some (.ptr b o), some v, some n => match Nat.beq v.cells.length n with
    | true => match writeL σ b o v.cells with
      | some σ => some (.val (.tuple []) σ)
      | none => none
    | false => none
  | _, _, _ => none
def lConv (s d : TypeId) (x : Operand) (P : Program) (ρ : Rho) (σ : AS) : Option AR :=
  match ρ x with
  | some a => byteConv P σ s d a
  | none => none
def lMakeSlice (t : TypeId) (l c : Operand) (P : Program) (ρ : Rho) (σ : AS) : Option AR :=
  match P.underlying t, ρ l, ρ c with
  | some (.slice e), some a, some b => match natI a, natI b, sizeOfT P e, bytesOfT P e, zeroOfT P e with
    | some n, some m, some size, some bytes, some z => match Nat.ble n m, Nat.ble (bytes * m) 281474976710656, Nat.beq z.cells.length size with
      | true, true, true => match Nat.ble m 1000000 with
        | true => σ.row e (List.replicate m z.cells).flatten .whole fun b σ => some (.val (.slice b 0 n m size true) σ)
        | false => none
      | _, _, _ => none
    | _, _, _, _, _ => none
  | _, _, _ => none
def lMakeMap (t : TypeId) (r : Option Operand) (P : Program) (ρ : Rho) (σ : AS) : Option AR :=
  match P.underlying t, r with
  | some (.map _ _), none => σ.new (.map [] 0) fun b σ => some (.val (.map b) σ)
  | some (.map _ _), some x => match ρ x with
    | some (.int _ _) => σ.new (.map [] 0) fun b σ => some (.val (.map b) σ)
    | _ => none
  | _, _ => none
def lMapUpdate (t : TypeId) (m k x : Operand) (P : Program) (ρ : Rho) (σ : AS) : Option AR :=
  match P.underlying t, ρ m, ρ k, ρ x with
  | some (.map kt _), some (.map r), some k, some v => match keyOk P kt k, σ.get r with
    | true, some (.map es clock) => match findA k es 0 with
      | some (some (i, _)) => some (.val (.tuple []) (σ.upd r (.map (setAt es i v) clock)))
      | some none => some (.val (.tuple []) (σ.upd r (.map (es ++ [(k, v, clock)]) (clock + 1))))
      | none => none
    | _, _ => none
  | _, _, _, _ => none
def lRange (t : TypeId) (x : Operand) (P : Program) (ρ : Rho) (σ : AS) : Option AR :=
  match P.underlying t, ρ x with
  | some .string, some (.str l) => σ.new (.siter l 0) fun b σ => some (.val (.ptr b 0) σ)
  | some (.map _ _), some (.map m) => match σ.get m with
    | some (.map _ clock) => σ.new (.miter m clock [] clock) fun b σ => some (.val (.ptr b 0) σ)
    | _ => none
  | some (.map _ _), some .nilmap => σ.new .niter fun b σ => some (.val (.ptr b 0) σ)
  | _, _ => none
def memN (x : Nat) : List Nat → Bool
  | [] => false
  | y :: r => match Nat.beq x y with
    | true => true
    | false => memN x r
/-- The entries that an iterator has not met. -/
def leftL (seen : List Nat) (es : List (AV × AV × Nat)) : List (AV × AV × Nat) :=
  match es with
  | [] => []
  | e :: r => match memN e.2.2 seen with
    | true => leftL seen r
    | false => e :: leftL seen r
def allNew (last : Nat) (es : List (AV × AV × Nat)) : Bool :=
  match es with
  | [] => true
  | e :: r => match Nat.ble last e.2.2 with
    | true => allNew last r
    | false => false
def isNilL {α : Type} (l : List α) : Bool :=
  match l with
  | [] => true
  | _ :: _ => false
/-- One more entry, where there is but one, or none. -/
def nextMap (σ : AS) (b m since : Nat) (seen : List Nat) (last : Nat) (es : List (AV × AV × Nat)) (clock : Nat) : Option AR :=
  match isNilL seen || isNilL es || !allNew last es with
  | true => match leftL seen es with
    | [] => some (.val (.tuple [.bool false]) σ)
    | [(k, v, n)] => match Nat.blt n since with
      | true => fNat n fun n => some (.val (.tuple [.bool true, k, v]) (σ.upd b (.miter m since (seen ++ [n]) clock)))
      | false => none
    | _ => none
  | false => none
def lNext (it : Operand) (isString : Bool) (_P : Program) (ρ : Rho) (σ : AS) : Option AR :=
  match isString, ρ it with
  | true, some (.ptr b 0) => match σ.get b with
    | some (.siter s pos) => match Nat.blt pos s.length with
      | false => some (.val (.tuple [.bool false]) σ)
      | true => match s[pos]? with
        | some c => match Nat.blt c 128 with
          | true => fNat pos fun p => fNat c fun c => some (.val (.tuple [.bool true, .int .i64 (.ofNat p), .int .i32 (.ofNat c)]) (σ.upd b (.siter s (Nat.succ p))))
          | false => match Utf8.decode (unbytes s) pos with
            | (c, w) => fNat pos fun p => fNat c fun c => fNat (p + w) fun q => some (.val (.tuple [.bool true, .int .i64 (.ofNat p), .int .i32 (.ofNat c)]) (σ.upd b (.siter s q)))
        | none => none
    | _ => none
  | false, some (.ptr b 0) => match σ.get b with
    | some .niter => some (.val (.tuple [.bool false]) σ)
    | some (.miter m since seen last) => match σ.get m with
      | some (.map es clock) => nextMap σ b m since seen last es clock
      | _ => none
    | _ => none
  | _, _ => none
def lCallB (b : Builtin) (args : Array Operand) (ts : Array TypeId) (P : Program) (ρ : Rho) (σ : AS) : Option AR :=
  match argsA ρ args.toList with
  | some l => builtinA P σ b ts.toList l
  | none => none
def lCall (f : Operand) (args : Array Operand) (P : Program) (ρ : Rho) (σ : AS) : Option AR :=
  match ρ f with
  | some (.func f fst caps) => match argsA ρ args.toList with
    | some l => callF P σ f (fst ++ l ++ caps)
    | none => none
  | _ => none
def lDefer (f : Operand) (args : Array Operand) (_P : Program) (ρ : Rho) (σ : AS) : Option AR :=
  match ρ f, argsA ρ args.toList with
  | some (.func f fst caps), some l => some (.defer ⟨f, fst ++ l ++ caps⟩ σ)
  | _, _ => none
def lPanic (x : Operand) (_P : Program) (ρ : Rho) (σ : AS) : Option AR :=
  match ρ x with
  | some (.iface t v) => some (.panic (.iface t v) σ)
  | _ => none

/-- The law of an operation, and its kind. -/
inductive Hd where
  | quiet (f : Program → Rho → Option AV)
  | reads (f : Program → Rho → AS → Option AV)
  | loud (f : Program → Rho → AS → Option AR)
  | off
def quietConv (P : Program) (s d : TypeId) : Bool :=
  match P.underlying s, P.underlying d with
  | _, some (.int _) | _, some (.float _) => true
  | some .string, some .string | some (.int _), some .string => true
  | _, _ => false
def hdConv (s d : TypeId) (x : Operand) (P : Program) : Hd :=
  match quietConv P s d with
  | true => .quiet (qConv s d x)
  | false => .loud (lConv s d x)
def hdSlice (t : TypeId) (x : Operand) (lo hi mx : Option Operand) (P : Program) : Hd :=
  match P.underlying t with
  | some (.slice _) | some .string => .quiet (qSlice t x lo hi mx)
  | _ => .reads (rSliceArr t x lo hi mx)
def lenOfMap (P : Program) (c : Call) : Bool :=
  match c.argTypes.toList with
  | t :: _ => match P.underlying t with
    | some (.map _ _) => true
    | _ => false
  | _ => false
def hdCall (c : Call) (P : Program) : Hd :=
  match c.callee with
  | .value f => .loud (lCall f c.args)
  | .builtin .len => bM (lenOfMap P c) (.reads (rLenMap c.args c.argTypes)) (.quiet (qLen c.args c.argTypes))
  | .builtin .max => .quiet (qMm true c.args)
  | .builtin .min => .quiet (qMm false c.args)
  | .builtin .cap => .off
  | .builtin .recover => .off
  | .builtin b => .loud (lCallB b c.args c.argTypes)
  | .invoke .. => .off
def hdDefer (c : Call) (_P : Program) : Hd :=
  match c.callee with
  | .value f => .loud (lDefer f c.args)
  | _ => .off
def headOf (op : Op) : Program → Hd :=
  Op.rec (motive := fun _ => Program → Hd)
    (fun x _ => .quiet (qMove x)) (fun x _ => .quiet (qMove x)) (fun c a b _ => .quiet (qPick c a b))
    (fun t _ => .loud (lAlloc t)) (fun t x _ => .loud (lBox t x)) (fun t ps _ => .quiet (qBuild t ps)) (fun t n ps _ => .loud (lBuildSlice t n ps))
    (fun t m k x _ => .loud (lMapUpdate t m k x)) (fun t a _ => .reads (rLoad t a)) (fun t a x _ => .loud (lStore t a x))
    (fun _ _ => .off) (fun _ _ => .off) (fun x _ => .quiet (qNilCheck x)) (fun op t x y u _ => .quiet (qBin op t x y u)) (fun op t x _ => .quiet (qUn op t x))
    (fun s d x => hdConv s d x) (fun _ _ _ => .off) (fun t x _ => .quiet (qIface t x)) (fun fn f c _ => .quiet (qFunc fn f c))
    (fun t r _ => .loud (lMakeMap t r)) (fun _ _ _ => .off) (fun t l c _ => .loud (lMakeSlice t l c)) (fun t x lo hi mx => hdSlice t x lo hi mx)
    (fun s x f _ => .quiet (qFieldAddr s x f)) (fun t x f _ => .quiet (qField t x f)) (fun t x i _ => .quiet (qIndexAddr t x i)) (fun t x i _ => .quiet (qIndex t x i))
    (fun t m k ok _ => .reads (rLookup t m k ok)) (fun t m k x _ => .loud (lMapUpdate t m k x)) (fun _ _ _ _ => .off) (fun _ _ _ _ _ => .off)
    (fun t x _ => .loud (lRange t x)) (fun it s _ => .loud (lNext it s)) (fun _ _ => .off) (fun x t a ok _ => .quiet (qAssert x t a ok)) (fun t i _ => .quiet (qExtract t i))
    (fun c => hdCall c) (fun _ _ => .off) (fun c => hdDefer c) (fun x _ => .loud (lPanic x)) (fun _ _ _ => .off) (fun _ _ _ _ => .off) (fun _ _ _ => .off) op

/-- What a call comes to. -/
inductive AE where
  | returned (v : AV)
  | panicked (chain : List APE)
abbrev Rec := FuncId → List AV → AS → Option (AE × AS)

def isTrue (look : Nat → Option AV) (ops : Array Oper) (j : Nat) (want : Bool) : Bool :=
  oM (ops[j]?) false fun o => oM o.dst false fun d => oM (look d) false fun v => match v with
    | .bool b => bM want b (!b)
    | _ => false
def wantedA (look : Nat → Option AV) (ops : Array Oper) (o : Oper) : Bool :=
  oM o.guard true fun g => isTrue look ops g.1 g.2

/-- One operation: a value for its temporary, or a panic. -/
inductive AO where
  | val (v : AV) (σ : AS)
  | defer (d : ADef) (σ : AS)
  | panic (chain : List APE) (σ : AS)
def valO (v : Option AV) (σ : AS) : Option AO := oB v fun v => some (.val v σ)
def retO (r : Option (AE × AS)) : Option AO :=
  oB r fun r => match r.1 with
    | .returned v => some (.val v r.2)
    | .panicked ch => some (.panic ch r.2)
def loudO (call : Rec) (r : Option AR) : Option AO :=
  oB r fun r => match r with
    | .val v σ => some (.val v σ)
    | .defer d σ => some (.defer d σ)
    | .panic v σ => some (.panic [⟨v, false⟩] σ)
    | .enter f args σ => retO (call f args σ)
def doOp (P : Program) (known : Nat → Bool) (call : Rec) (look : Nat → Option AV) (σ : AS) (o : Oper) : Option AO :=
  Hd.rec (motive := fun _ => Option AO) (fun f => valO (f P (opd known look)) σ) (fun f => valO (f P (opd known look) σ) σ)
    (fun f => loudO call (f P (opd known look) σ)) none (headOf o.op P)

abbrev Out := Option (AX × AA × AS)
def onward (o : Oper) (α : AA) (ih : AA → AS → Out) (r : AO) : Out :=
  AO.rec (motive := fun _ => Out)
    (fun v σ => oB (α.put o.dst v) fun α => ih α σ)
    (fun d σ => oB ((AA.mk α.tmps α.n (d :: α.defers)).put o.dst (.tuple [])) fun α => ih α σ)
    (fun ch σ => some (.panic ch, α, σ)) r
def runOps (P : Program) (known : Nat → Bool) (call : Rec) (ops : Array Oper) (l : List Oper) : AA → AS → Out :=
  lR (fun α σ => some (.normal, α, σ))
    (fun o ih α σ => bM (wantedA α.look ops o)
      (oB (doOp P known call α.look σ o) fun r => onward o α ih r)
      (oB (α.put o.dst (.tuple [])) fun α => ih α σ)) l

/-! ### regions whose order is open -/
/-- The binding edges of an operation. -/
def bindsOf (o : Oper) : List Nat := (o.after.toList.filter (Region.binds .any)).map (·.on)
/-- Of each operation: the numbers of those that must stand ahead of it, as a number's bits. -/
def maskOf (acc : List Nat) (j : Nat) : List Nat → Nat → Nat
  | [], m => m
  | e :: r, m => maskOf acc j r (Nat.lor (Nat.lor m (Nat.pow 2 e)) (match Nat.blt e j with | true => acc.getD (j - 1 - e) 0 | false => 0))
def masksL : List Oper → Nat → List Nat → List Nat
  | [], _, acc => acc.reverse
  | o :: r, j, acc => fNat (maskOf acc j (bindsOf o) 0) fun m => masksL r (Nat.succ j) (m :: acc)
def masks (ops : Array Oper) : List Nat := masksL ops.toList 0 []
def bitOf (m i : Nat) : Bool := Nat.beq (Nat.mod (Nat.shiftRight m i) 2) 1
/-- The temporaries that an operation looks at. -/
def looksAt (ops : Array Oper) (o : Oper) : List Nat :=
  (o.op.operands.toList.filterMap fun | .tmp t => some t | _ => none) ++
  (match o.guard with
   | some (g, _) => ((ops[g]?).bind (·.dst)).toList
   | none => [])
def touches (d : Option Nat) (l : List Nat) : Bool :=
  match d with
  | none => false
  | some d => memN d l
def sameDst (a b : Option Nat) : Bool :=
  match a, b with
  | some a, some b => Nat.beq a b
  | _, _ => false
def isLoud (P : Program) (o : Oper) : Bool :=
  match headOf o.op P with
  | .loud _ => true
  | .off => true
  | _ => false
/-- May two operations with no order between them be done in either order, as far as the text tells? -/
def pairOk (P : Program) (ops : Array Oper) (x y : Oper) : Bool :=
  !touches x.dst (looksAt ops y) && !touches y.dst (looksAt ops x) && !sameDst x.dst y.dst && !(isLoud P x && isLoud P y)
def pairsOk (P : Program) (ops : Array Oper) (y : Oper) (m : Nat) : List Oper → Nat → Bool
  | [], _ => true
  | x :: r, i => match bitOf m i || pairOk P ops x y with
    | true => pairsOk P ops y m r (Nat.succ i)
    | false => false
def edgesOk : List Oper → Nat → Bool
  | [], _ => true
  | o :: r, j => match (bindsOf o).all (fun e => Nat.blt e j) with
    | true => edgesOk r (Nat.succ j)
    | false => false
def regionOkL (P : Program) (ops : Array Oper) (all : List Oper) : List Oper → List Nat → Nat → Bool
  | [], _, _ => true
  | o :: r, ms, j => match ms with
    | [] => false
    | m :: ms => match pairsOk P ops o m (all.take j) 0 with
      | true => regionOkL P ops all r ms (Nat.succ j)
      | false => false
def regionOk (P : Program) (ops : Array Oper) : Bool :=
  edgesOk ops.toList 0 && regionOkL P ops ops.toList ops.toList (masks ops) 0

/-- What was done: of each operation its number, the temporaries ahead of it, the heap ahead of it and behind it, what it gave (none: passed by). -/
structure Done where
  i : Nat
  α : AA
  σ : AS
  σ' : AS
  v : Option AV
/-- Only the temporaries of a list. -/
def lookIn (l : List Nat) (look : Nat → Option AV) (t : Nat) : Option AV :=
  match memN t l with
  | true => look t
  | false => none
def runDraw (P : Program) (known : Nat → Bool) (call : Rec) (ops : Array Oper) : List Oper → Nat → AA → AS → List Done → Option (AA × AS × List Done)
  | [], _, α, σ, acc => some (α, σ, acc)
  | o :: rest, i, α, σ, acc => bM (wantedA (lookIn (looksAt ops o) α.look) ops o)
    (oB (doOp P known call (lookIn (looksAt ops o) α.look) σ o) fun r => match r with
      | .val v σ' => oB (α.put o.dst v) fun α' => runDraw P known call ops rest (Nat.succ i) α' σ' (⟨i, α, σ, σ', some v⟩ :: acc)
      | _ => none)
    (oB (α.put o.dst (.tuple [])) fun α' => runDraw P known call ops rest (Nat.succ i) α' σ (⟨i, α, σ, σ, none⟩ :: acc))

mutual
def eqAV : AV → AV → Bool
  | .bool a, .bool b => a == b
  | .int k a, .int j b => match kindEq k j with
    | true => eqF a b
    | false => false
  | .float k a, .float j b => decide (k = j) && Nat.beq a b
  | .str a, .str b => eqL a b
  | .nilptr, .nilptr | .nilslice, .nilslice | .nilmap, .nilmap | .nilFunc, .nilFunc | .nilIface, .nilIface => true
  | .ptr a b, .ptr c d => Nat.beq a c && Nat.beq b d
  | .slice a b c d e f, .slice a' b' c' d' e' f' => Nat.beq a a' && Nat.beq b b' && Nat.beq c c' && Nat.beq d d' && Nat.beq e e' && f == f'
  | .map a, .map b => Nat.beq a b
  | .func a p x, .func b q y => Nat.beq a b && eqAVs p q && eqAVs x y
  | .iface t x, .iface u y => Nat.beq t u && eqAV x y
  | .agg x, .agg y => eqAVs x y
  | .tuple x, .tuple y => eqAVs x y
  | _, _ => false
def eqAVs : List AV → List AV → Bool
  | [], [] => true
  | a :: x, b :: y => match eqAV a b with
    | true => eqAVs x y
    | false => false
  | _, _ => false
end

/-- Does a reading give the same in another heap? -/
def stays (P : Program) (known : Nat → Bool) (ops : Array Oper) (o : Oper) (d : Done) (σ : AS) : Bool :=
  match d.v with
  | none => true
  | some v => match headOf o.op P with
    | .reads f => match f P (opd known (lookIn (looksAt ops o) d.α.look)) σ with
      | some u => eqAV v u
      | none => false
    | _ => false
/-- d: a reading; e: a loud operation. If no order stands between them, the reading must be the same on the other side. -/
def windowOk (P : Program) (known : Nat → Bool) (ops : Array Oper) (ms : List Nat) (o : Oper) (d e : Done) : Bool :=
  match Nat.blt d.i e.i with
  | true => bitOf (ms.getD e.i 0) d.i || stays P known ops o d e.σ'
  | false => bitOf (ms.getD d.i 0) e.i || stays P known ops o d e.σ
def windowsOk (P : Program) (known : Nat → Bool) (ops : Array Oper) (ms : List Nat) (all : List Done) : List Done → Bool
  | [] => true
  | d :: r => match ops[d.i]? with
    | none => false
    | some o => match headOf o.op P with
      | .reads _ => match all.all (fun e => match ops[e.i]? with
          | none => false
          | some x => !isLoud P x || windowOk P known ops ms o d e) with
        | true => windowsOk P known ops ms all r
        | false => false
      | _ => windowsOk P known ops ms all r

def drawRegion (P : Program) (known : Nat → Bool) (call : Rec) (ops : Array Oper) (α : AA) (σ : AS) : Option (AX × AA × AS) :=
  match regionOk P ops with
  | true => match runDraw P known call ops ops.toList 0 α σ [] with
    | some (α', σ', ds) => match windowsOk P known ops (masks ops) ds ds with
      | true => some (.normal, α', σ')
      | false => none
    | none => none
  | false => none

/-! ### code -/
def evCode (P : Program) (known : Nat → Bool) (call : Rec) : Nat → Code → AA → AS → Option (AX × AA × AS)
  | 0, _, _, _ => none
  | n + 1, c, α, σ =>
    match c with
    | .skip | .label _ => some (.normal, α, σ)
    | .exit id => some (.exit id, α, σ)
    | .ret => some (.ret, α, σ)
    | .seq a b => match evCode P known call n a α σ with
      | some (.normal, α, σ) => evCode P known call n b α σ
      | r => r
    | .cond c a b => match opd known α.look c with
      | some (.bool true) => evCode P known call n a α σ
      | some (.bool false) => evCode P known call n b α σ
      | _ => none
    | .block id b => match evCode P known call n b α σ with
      | some (.exit id', α, σ) => match Nat.beq id' id with
        | true => some (.normal, α, σ)
        | false => some (.exit id', α, σ)
      | r => r
    | .loop b => match evCode P known call n b α σ with
      | some (.normal, α, σ) => evCode P known call n (.loop b) α σ
      | r => r
    | .region _ ops false => runOps P known call ops ops.toList α σ
    | .region _ ops true => drawRegion P known call ops α σ
    | .scope b => match evCode P known call n b α σ with
      | some (.goto _, _, _) => none
      | r => r
    | _ => none

/-- The body of a deferred function that may call recover: x := recover() in a region of its own; 'mode': the chain of the frame below, none where it returns. -/
def resultsA (P : Program) (σ : AS) (α : AA) : List ResultVar → Option (List AV)
  | [] => some []
  | .tmp t :: r => oB (α.look t) fun v => oB (resultsA P σ α r) fun l => some (v :: l)
  | .cell a t :: r => match α.look a with
    | some (.ptr b o) => match loadA P σ t b o, resultsA P σ α r with
      | some v, some l => some (v :: l)
      | _, _ => none
    | _ => none
def resultA (P : Program) (σ : AS) (α : AA) (fn : Func) : Option AV :=
  match resultsA P σ α fn.results.toList with
  | some [v] => some v
  | some l => some (.tuple l)
  | none => none

/-- recover(): its place is a region of its own, in a body that is run as a deferred call. -/
def isRecover (o : Oper) : Bool :=
  match o.op with
  | .call c => match c.callee with
    | .builtin .recover => true
    | _ => false
  | _ => false
/-- The mode of the frame below: none: it returns; some chain: it panics. -/
abbrev AM := Option (List APE)
def runOpsD (P : Program) (known : Nat → Bool) (call : Rec) (ops : Array Oper) : List Oper → AA → AM → AS → Option (AX × AA × AM × AS)
  | [], α, u, σ => some (.normal, α, u, σ)
  | o :: rest, α, u, σ => bM (wantedA α.look ops o)
    (match isRecover o with
      | true => match u with
        | some (⟨v, false⟩ :: older) => oB (α.put o.dst v) fun α => runOpsD P known call ops rest α (some (⟨v, true⟩ :: older)) σ
        | _ => oB (α.put o.dst .nilIface) fun α => runOpsD P known call ops rest α u σ
      | false => oB (doOp P known call α.look σ o) fun r => match r with
        | .val v σ => oB (α.put o.dst v) fun α => runOpsD P known call ops rest α u σ
        | .panic ch σ => some (.panic ch, α, u, σ)
        | _ => none)
    (oB (α.put o.dst (.tuple [])) fun α => runOpsD P known call ops rest α u σ)
/-- A body with recover: sequences, tests, regions in order; whatever else holds no recover and goes the plain way. -/
def evCodeD (P : Program) (known : Nat → Bool) (call : Rec) : Nat → Code → AA → AM → AS → Option (AX × AA × AM × AS)
  | 0, _, _, _, _ => none
  | n + 1, c, α, u, σ =>
    match c with
    | .seq a b => match evCodeD P known call n a α u σ with
      | some (.normal, α, u, σ) => evCodeD P known call n b α u σ
      | r => r
    | .cond c a b => match opd known α.look c with
      | some (.bool true) => evCodeD P known call n a α u σ
      | some (.bool false) => evCodeD P known call n b α u σ
      | _ => none
    | .region _ ops false => runOpsD P known call ops ops.toList α u σ
    | c => match evCode P known call n c α σ with
      | some (x, α, σ) => some (x, α, u, σ)
      | none => none

def AA.start (fn : Func) (args : List AV) : AA :=
  fNat (max fn.ntmps args.length) fun n => (lay args 0 .nil).seq fun t => ⟨t, n, []⟩

/-- A deferred call: what becomes of the mode of the frame below. -/
def callD (P : Program) (known : Nat → Bool) (call : Rec) (n : Nat) (f : FuncId) (args : List AV) (u : AM) (σ : AS) : Option (AE × AM × AS) :=
  match P.funcs[f]? with
  | none => none
  | some fn => match fn.body, fn.name == "runtime.NumGoroutine" with
    | some c, false =>
      match evCodeD P known call n c (AA.start fn args) u σ with
      | some (.normal, α, u, σ) | some (.ret, α, u, σ) => match α.defers, resultA P σ α fn with
        | [], some v => some (.returned v, u, σ)
        | _, _ => none
      | some (.panic ch, α, u, σ) => match α.defers with
        | [] => some (.panicked ch, u, σ)
        | _ => none
      | _ => none
    | _, _ => none
def settleA : AM → AM
  | some (⟨_, true⟩ :: _) => none
  | u => u
def raisedA (u : AM) (ch : List APE) : AM :=
  match u with
  | some old => some (ch ++ old)
  | none => some ch
def leaves (P : Program) (known : Nat → Bool) (call : Rec) (n : Nat) (fn : Func) (α : AA) : List ADef → AM → AS → Option (AE × AS)
  | [], none, σ => match resultA P σ α fn with
    | some v => some (.returned v, σ)
    | none => none
  | [], some ch, σ => some (.panicked ch, σ)
  | d :: ds, u, σ => match callD P known call n d.f d.args u σ with
    | some (.returned _, u, σ) => leaves P known call n fn α ds (settleA u) σ
    | some (.panicked ch, u, σ) => leaves P known call n fn α ds (raisedA u ch) σ
    | none => none

def evCall (P : Program) (known : Nat → Bool) : Nat → Rec
  | 0, _, _, _ => none
  | n + 1, f, args, σ => match P.funcs[f]? with
    | none => none
    | some fn => match fn.body with
      | none => none
      | some c => match evCode P known (evCall P known n) 1000000 c (AA.start fn args) σ with
        | some (.normal, α, σ) | some (.ret, α, σ) => leaves P known (evCall P known n) 1000000 fn α α.defers none σ
        | some (.panic ch, α, σ) => leaves P known (evCall P known n) 1000000 fn α α.defers (some ch) σ
        | _ => none
end
end Go.Proofs.YtjagjjdkgidkjaaGreatDoor.Ev
