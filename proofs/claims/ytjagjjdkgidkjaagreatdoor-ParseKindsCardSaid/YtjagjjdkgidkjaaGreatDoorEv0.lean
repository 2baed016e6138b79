/- Part Ev0 of a verified evaluator of closed calls: of no program; no condition. -/
import Derived.Recover
import Derived.Orders
import Derived.Scope
/-
  The evaluator's smallest words: a trie over numbers, strictness, case distinctions by the recursors (the kernel reduces these fastest). Plain functions, no proof.
-/
namespace Go.Proofs.YtjagjjdkgidkjaaGreatDoor.Ev
noncomputable section
/-- A trie over numbers. -/
inductive T (α : Type) where
  | nil
  | node (v : Option α) (l r : T α)
/-- The way to a number. -/
inductive Way where
  | here
  | lo (p : Way)
  | hi (p : Way)
def wayN (f : Nat) : Nat → Way :=
  Nat.rec (motive := fun _ => Nat → Way) (fun _ => .here)
    (fun _ ih n => Nat.rec (motive := fun _ => Way) .here
      (fun m _ => Nat.rec (motive := fun _ => Way) (.lo (ih (Nat.div m 2))) (fun _ _ => .hi (ih (Nat.div m 2))) (Nat.mod m 2)) n) f
def way (n : Nat) : Way := wayN (Nat.succ n) n
/-- Strict in the tree. -/
def T.seq {α β : Type} (t : T α) (k : T α → β) : β := T.rec (motive := fun _ => β) (k .nil) (fun v l r _ _ => k (.node v l r)) t
def T.at {α : Type} (p : Way) : T α → Option α :=
  Way.rec (motive := fun _ => T α → Option α)
    (fun t => T.rec (motive := fun _ => Option α) none (fun v _ _ _ _ => v) t)
    (fun _ ih t => T.rec (motive := fun _ => Option α) none (fun _ l _ _ _ => ih l) t)
    (fun _ ih t => T.rec (motive := fun _ => Option α) none (fun _ _ r _ _ => ih r) t) p
def T.put {α : Type} (p : Way) : T α → α → T α :=
  Way.rec (motive := fun _ => T α → α → T α)
    (fun t x => T.rec (motive := fun _ => T α) (.node (some x) .nil .nil) (fun _ l r _ _ => .node (some x) l r) t)
    (fun _ ih t x => T.rec (motive := fun _ => T α) (T.seq (ih .nil x) fun l => .node none l .nil) (fun v l r _ _ => T.seq (ih l x) fun l => .node v l r) t)
    (fun _ ih t x => T.rec (motive := fun _ => T α) (T.seq (ih .nil x) fun r => .node none .nil r) (fun v l r _ _ => T.seq (ih r x) fun r => .node v l r) t) p
def T.get {α : Type} (t : T α) (n : Nat) : Option α := T.at (way n) t
def T.set {α : Type} (t : T α) (n : Nat) (x : α) : T α := T.put (way n) t x

/-- Strictness for numbers and lists. -/
def fNat {β : Type} (n : Nat) (k : Nat → β) : β := Nat.rec (motive := fun _ => β) (k 0) (fun m _ => k (Nat.succ m)) n
def fInt {β : Type} (n : Int) (k : Int → β) : β :=
  Int.rec (motive := fun _ => β) (fun m => fNat m fun m => k (.ofNat m)) (fun m => fNat m fun m => k (.negSucc m)) n
def fNats {β : Type} (l : List Nat) : (List Nat → β) → β :=
  List.rec (motive := fun _ => (List Nat → β) → β) (fun k => k []) (fun x _ ih k => fNat x fun x => ih fun xs => k (x :: xs)) l
def fBool {β : Type} (b : Bool) (k : Bool → β) : β := Bool.rec (motive := fun _ => β) (k false) (k true) b
/-- Option's and Bool's cases. -/
def oM {α β : Type} (x : Option α) (n : β) (s : α → β) : β := Option.rec (motive := fun _ => β) n s x
def oB {α β : Type} (x : Option α) (s : α → Option β) : Option β := Option.rec (motive := fun _ => Option β) none s x
def bM {β : Type} (b : Bool) (y n : β) : β := Bool.rec (motive := fun _ => β) n y b
def gB {β : Type} (b : Bool) (y : Option β) : Option β := Bool.rec (motive := fun _ => Option β) none y b
def lR {α β : Type} (z : β) (f : α → β → β) (l : List α) : β := List.rec (motive := fun _ => β) z (fun x _ ih => f x ih) l
end
end Go.Proofs.YtjagjjdkgidkjaaGreatDoor.Ev
