/- An evaluator of programs, in continuation style, by recursors: definitions alone. Condition: none. -/
import GoSem.Dispatch
set_option linter.unusedSectionVars false
set_option linter.unusedVariables false
set_option linter.unusedSimpArgs false
namespace Go.Kx
noncomputable section

/- trees by paths -/
inductive Dg where
  | a
  | b
  | c
  | d
inductive Tr (α : Type) where
  | nil : Tr α
  | node (v : Option α) (a b c d : Tr α) : Tr α

def pathF (f : Nat) : Nat → List Dg :=
  Nat.rec (motive := fun _ => Nat → List Dg) (fun _ => [])
    (fun _ ih k => @Bool.rec (fun _ => List Dg)
      (@Nat.rec (fun _ => List Dg) (.a :: ih (Nat.div (Nat.sub k 1) 4)) (fun r _ => @Nat.rec (fun _ => List Dg) (.b :: ih (Nat.div (Nat.sub k 1) 4)) (fun r _ => @Nat.rec (fun _ => List Dg) (.c :: ih (Nat.div (Nat.sub k 1) 4)) (fun _ _ => .d :: ih (Nat.div (Nat.sub k 1) 4)) r) r) (Nat.mod (Nat.sub k 1) 4))
      [] (Nat.beq k 0)) f
def path (k : Nat) : List Dg := pathF k k
def Tr.get {α : Type} (p : List Dg) : Tr α → Option α :=
  List.rec (motive := fun _ => Tr α → Option α)
    (fun t => Tr.rec none (fun v _ _ _ _ _ _ _ _ => v) t)
    (fun g _ ih t => Tr.rec none (fun _ a b c d _ _ _ _ => @Dg.rec (fun _ => Option α) (ih a) (ih b) (ih c) (ih d) g) t) p
def Tr.nodeNil {α : Type} (g : Dg) (t : Tr α) : Tr α :=
  @Dg.rec (fun _ => Tr α) (.node none t .nil .nil .nil) (.node none .nil t .nil .nil) (.node none .nil .nil t .nil) (.node none .nil .nil .nil t) g
def Tr.nodeAt {α : Type} (g : Dg) (ih : Tr α → Tr α) (v : Option α) (a b c d : Tr α) : Tr α :=
  @Dg.rec (fun _ => Tr α) (.node v (ih a) b c d) (.node v a (ih b) c d) (.node v a b (ih c) d) (.node v a b c (ih d)) g
def Tr.here {α : Type} (v : Option α) (t : Tr α) : Tr α := Tr.rec (.node v .nil .nil .nil .nil) (fun _ a b c d _ _ _ _ => .node v a b c d) t
def Tr.set {α : Type} (p : List Dg) (x : α) : Tr α → Tr α :=
  List.rec (motive := fun _ => Tr α → Tr α) (Tr.here (some x))
    (fun g _ ih t => Tr.rec (Tr.nodeNil g (ih .nil)) (fun v a b c d _ _ _ _ => Tr.nodeAt g ih v a b c d) t) p
def Tr.del {α : Type} (p : List Dg) : Tr α → Tr α :=
  List.rec (motive := fun _ => Tr α → Tr α) (Tr.here none)
    (fun g _ ih t => Tr.rec .nil (fun v a b c d _ _ _ _ => Tr.nodeAt g ih v a b c d) t) p

inductive Cap where
  | known (c : Nat)
  /-- open, of elements of so many cells -/
  | free (es : Nat)
  /-- none are left before the end that is known -/
  | fuzzy (es : Nat)

/-- a cell -/
inductive V where
  | n (m : Nat)
  | tt
  | ff
  | ptr (i o : Nat)
  | slice (i o len : Nat) (cap : Cap)
  | int (k : IntKind) (z : Int)
  | str (n : Nat) (s : List Nat)
  | nilp
  | nils
  | map (i : Nat)
  | nilm
  | func (f : FuncId) (caps : List (Nat × Nat))
  /-- a method of a pointer -/
  | mfunc (f : FuncId) (i o : Nat)
  | nilf
  | iface (t : TypeId) (i o : Nat)
  | nili
  | un
  | sym (i : Nat)
  | junk
  | agg (cs : List V)

inductive Blk where
  | small (n : Nat) (cs : List V) (mk : Bool)
  | big (n zl : Nat) (z : List V) (m : Tr V)
  | map (es : List (V × V))

structure H where
  hp : Tr Blk
  nx : Nat

inductive X where
  | normal
  | exit (id : Nat)
  | goto (l : Nat)
  | ret

abbrev Ev := List V
abbrev Fr := List V
inductive Out where
  | stuck (why : String)
  | out (e : X) (f : Fr) (h : H)
  /-- a function's results -/
  | res (l : List V) (h : H)
abbrev CallT := FuncId → List V → H → (List V → H → Out) → Out
abbrev Gt := Ev → Fr → V
abbrev OpC := CallT → Ev → Fr → H → (Ev → H → Out) → Out

/- elimination, at one type each -/
def onN (v : V) (k_n : Nat → Out) (els : Out) : Out := @V.rec (fun _ => Out) (fun _ => Unit) k_n els els (fun _ _ => els) (fun _ _ _ _ => els) (fun _ _ => els) (fun _ _ => els) els els (fun _ => els) els (fun _ _ => els) (fun _ _ _ => els) els (fun _ _ _ => els) els els (fun _ => els) els (fun _ _ => els) () (fun _ _ _ _ => ()) v
def onB (v : V) (k_tt : Out) (k_ff : Out) (els : Out) : Out := @V.rec (fun _ => Out) (fun _ => Unit) (fun _ => els) k_tt k_ff (fun _ _ => els) (fun _ _ _ _ => els) (fun _ _ => els) (fun _ _ => els) els els (fun _ => els) els (fun _ _ => els) (fun _ _ _ => els) els (fun _ _ _ => els) els els (fun _ => els) els (fun _ _ => els) () (fun _ _ _ _ => ()) v
def onG (v : V) (k_tt : Out) (k_ff : Out) (k_un : Out) (els : Out) : Out := @V.rec (fun _ => Out) (fun _ => Unit) (fun _ => els) k_tt k_ff (fun _ _ => els) (fun _ _ _ _ => els) (fun _ _ => els) (fun _ _ => els) els els (fun _ => els) els (fun _ _ => els) (fun _ _ _ => els) els (fun _ _ _ => els) els k_un (fun _ => els) els (fun _ _ => els) () (fun _ _ _ _ => ()) v
def onPtr (v : V) (k_ptr : Nat → Nat → Out) (els : Out) : Out := @V.rec (fun _ => Out) (fun _ => Unit) (fun _ => els) els els k_ptr (fun _ _ _ _ => els) (fun _ _ => els) (fun _ _ => els) els els (fun _ => els) els (fun _ _ => els) (fun _ _ _ => els) els (fun _ _ _ => els) els els (fun _ => els) els (fun _ _ => els) () (fun _ _ _ _ => ()) v
def onSl (v : V) (k_slice : Nat → Nat → Nat → Cap → Out) (els : Out) : Out := @V.rec (fun _ => Out) (fun _ => Unit) (fun _ => els) els els (fun _ _ => els) k_slice (fun _ _ => els) (fun _ _ => els) els els (fun _ => els) els (fun _ _ => els) (fun _ _ _ => els) els (fun _ _ _ => els) els els (fun _ => els) els (fun _ _ => els) () (fun _ _ _ _ => ()) v
def onSlN (v : V) (k_slice : Nat → Nat → Nat → Cap → Out) (k_nils : Out) (els : Out) : Out := @V.rec (fun _ => Out) (fun _ => Unit) (fun _ => els) els els (fun _ _ => els) k_slice (fun _ _ => els) (fun _ _ => els) els k_nils (fun _ => els) els (fun _ _ => els) (fun _ _ _ => els) els (fun _ _ _ => els) els els (fun _ => els) els (fun _ _ => els) () (fun _ _ _ _ => ()) v
def onI (v : V) (k_n : Nat → Out) (k_int : IntKind → Int → Out) (els : Out) : Out := @V.rec (fun _ => Out) (fun _ => Unit) k_n els els (fun _ _ => els) (fun _ _ _ _ => els) k_int (fun _ _ => els) els els (fun _ => els) els (fun _ _ => els) (fun _ _ _ => els) els (fun _ _ _ => els) els els (fun _ => els) els (fun _ _ => els) () (fun _ _ _ _ => ()) v
def onStr (v : V) (k_str : Nat → List Nat → Out) (els : Out) : Out := @V.rec (fun _ => Out) (fun _ => Unit) (fun _ => els) els els (fun _ _ => els) (fun _ _ _ _ => els) (fun _ _ => els) k_str els els (fun _ => els) els (fun _ _ => els) (fun _ _ _ => els) els (fun _ _ _ => els) els els (fun _ => els) els (fun _ _ => els) () (fun _ _ _ _ => ()) v
def onSeq (v : V) (k_slice : Nat → Nat → Nat → Cap → Out) (k_nils : Out) (k_str : Nat → List Nat → Out) (els : Out) : Out := @V.rec (fun _ => Out) (fun _ => Unit) (fun _ => els) els els (fun _ _ => els) k_slice (fun _ _ => els) k_str els k_nils (fun _ => els) els (fun _ _ => els) (fun _ _ _ => els) els (fun _ _ _ => els) els els (fun _ => els) els (fun _ _ => els) () (fun _ _ _ _ => ()) v
def onMap (v : V) (k_map : Nat → Out) (k_nilm : Out) (els : Out) : Out := @V.rec (fun _ => Out) (fun _ => Unit) (fun _ => els) els els (fun _ _ => els) (fun _ _ _ _ => els) (fun _ _ => els) (fun _ _ => els) els els k_map k_nilm (fun _ _ => els) (fun _ _ _ => els) els (fun _ _ _ => els) els els (fun _ => els) els (fun _ _ => els) () (fun _ _ _ _ => ()) v
def onFunc (v : V) (k_func : FuncId → List (Nat × Nat) → Out) (k_mfunc : FuncId → Nat → Nat → Out) (els : Out) : Out := @V.rec (fun _ => Out) (fun _ => Unit) (fun _ => els) els els (fun _ _ => els) (fun _ _ _ _ => els) (fun _ _ => els) (fun _ _ => els) els els (fun _ => els) els k_func k_mfunc els (fun _ _ _ => els) els els (fun _ => els) els (fun _ _ => els) () (fun _ _ _ _ => ()) v
def onIface (v : V) (k_iface : TypeId → Nat → Nat → Out) (els : Out) : Out := @V.rec (fun _ => Out) (fun _ => Unit) (fun _ => els) els els (fun _ _ => els) (fun _ _ _ _ => els) (fun _ _ => els) (fun _ _ => els) els els (fun _ => els) els (fun _ _ => els) (fun _ _ _ => els) els k_iface els els (fun _ => els) els (fun _ _ => els) () (fun _ _ _ _ => ()) v
def onRef (v : V) (k_ptr : Nat → Nat → Out) (k_func : FuncId → List (Nat × Nat) → Out) (k_iface : TypeId → Nat → Nat → Out) (els : Out) : Out := @V.rec (fun _ => Out) (fun _ => Unit) (fun _ => els) els els k_ptr (fun _ _ _ _ => els) (fun _ _ => els) (fun _ _ => els) els els (fun _ => els) els k_func (fun _ _ _ => els) els k_iface els els (fun _ => els) els (fun _ _ => els) () (fun _ _ _ _ => ()) v
def onAgg (v : V) (k_agg : List V → Out) (els : Out) : Out := @V.rec (fun _ => Out) (fun _ => Unit) (fun _ => els) els els (fun _ _ => els) (fun _ _ _ _ => els) (fun _ _ => els) (fun _ _ => els) els els (fun _ => els) els (fun _ _ => els) (fun _ _ _ => els) els (fun _ _ _ => els) els els (fun _ => els) els (fun cs _ => k_agg cs) () (fun _ _ _ _ => ()) v
def isCell (v : V)  : Bool := @V.rec (fun _ => Bool) (fun _ => Unit) (fun _ => true) true true (fun _ _ => true) (fun _ _ _ _ => true) (fun _ _ => true) (fun _ _ => true) true true (fun _ => true) true (fun _ _ => true) (fun _ _ _ => true) true (fun _ _ _ => true) true false (fun _ => true) false (fun _ _ => false) () (fun _ _ _ _ => ()) v
def isRef (v : V)  : Bool := @V.rec (fun _ => Bool) (fun _ => Unit) (fun _ => false) false false (fun _ _ => true) (fun _ _ _ _ => false) (fun _ _ => false) (fun _ _ => false) false false (fun _ => false) false (fun _ _ => true) (fun _ _ _ => true) false (fun _ _ _ => true) false false (fun _ => false) false (fun _ _ => false) () (fun _ _ _ _ => ()) v
def isStr (v : V)  : Bool := @V.rec (fun _ => Bool) (fun _ => Unit) (fun _ => false) false false (fun _ _ => false) (fun _ _ _ _ => false) (fun _ _ => false) (fun _ _ => true) false false (fun _ => false) false (fun _ _ => false) (fun _ _ _ => false) false (fun _ _ _ => false) false false (fun _ => false) false (fun _ _ => false) () (fun _ _ _ _ => ()) v

def ifB (b : Bool) (t e : Out) : Out := @Bool.rec (fun _ => Out) e t b
def forceN (n : Nat) (f : Nat → Out) : Out := @Nat.rec (fun _ => Out) (f 0) (fun j _ => f (Nat.succ j)) n
def forceI (n : Int) (f : Int → Out) : Out :=
  @Int.rec (fun _ => Out) (fun m => forceN m fun m => f (Int.ofNat m)) (fun m => forceN m fun m => f (Int.negSucc m)) n
/-- a whole number that is not negative -/
def onNat (z : Int) (f : Nat → Out) (els : Out) : Out := @Int.rec (fun _ => Out) f (fun _ => els) z
def optB (o : Option Blk) (f : Blk → Out) (els : Out) : Out := @Option.rec Blk (fun _ => Out) els f o
def optV (o : Option V) (f : V → Out) (els : Out) : Out := @Option.rec V (fun _ => Out) els f o
def onBlk (b : Blk) (s : Nat → List V → Bool → Out) (g : Nat → Nat → List V → Tr V → Out) (m : List (V × V) → Out) : Out := @Blk.rec (fun _ => Out) s g m b
def onCap (c : Cap) (k fr fz : Nat → Out) : Out := @Cap.rec (fun _ => Out) k fr fz c

/- lists -/
def nthV (l : List V) : Nat → V :=
  List.rec (motive := fun _ => Nat → V) (fun _ => .junk) (fun a _ ih k => @Nat.rec (fun _ => V) a (fun k _ => ih k) k) l
def setV (l : List V) : Nat → V → List V :=
  List.rec (motive := fun _ => Nat → V → List V) (fun _ _ => []) (fun a l ih k x => @Nat.rec (fun _ => List V) (x :: l) (fun k _ => a :: ih k x) k) l
def drp {α : Type} (l : List α) : Nat → List α :=
  List.rec (motive := fun _ => Nat → List α) (fun _ => []) (fun a l ih k => @Nat.rec (fun _ => List α) (a :: l) (fun k _ => ih k) k) l
def tak {α : Type} (l : List α) : Nat → List α :=
  List.rec (motive := fun _ => Nat → List α) (fun _ => []) (fun a _ ih k => @Nat.rec (fun _ => List α) [] (fun k _ => a :: ih k) k) l
def lenA {α : Type} (l : List α) : Nat → Nat :=
  List.rec (motive := fun _ => Nat → Nat) (fun n => n) (fun _ _ ih n => @Nat.rec (fun _ => Nat) (ih 1) (fun j _ => ih (Nat.succ (Nat.succ j))) n) l
def len {α : Type} (l : List α) : Nat := lenA l 0
def app {α : Type} (a b : List α) : List α := List.rec (motive := fun _ => List α) b (fun x _ ih => x :: ih) a
def mapL {α β : Type} (g : α → β) (a : List α) : List β := List.rec (motive := fun _ => List β) [] (fun x _ ih => g x :: ih) a
def repV (n : Nat) (z : List V) : List V := Nat.rec (motive := fun _ => List V) [] (fun _ ih => app z ih) n
def pushL (l : List V) : Ev → Ev := List.rec (motive := fun _ => Ev → Ev) (fun e => e) (fun a _ ih e => ih (a :: e)) l
def uns (n : Nat) (e : Ev) : Ev := Nat.rec (motive := fun _ => Ev) e (fun _ ih => .un :: ih) n
def strEq (a : List Nat) : List Nat → Bool :=
  List.rec (motive := fun _ => List Nat → Bool) (fun b => List.rec true (fun _ _ _ => false) b)
    (fun x _ ih b => List.rec false (fun y b _ => @Bool.rec (fun _ => Bool) false (ih b) (Nat.beq x y)) b) a
def strLt (a : List Nat) : List Nat → Bool :=
  List.rec (motive := fun _ => List Nat → Bool) (fun b => List.rec false (fun _ _ _ => true) b)
    (fun x _ ih b => List.rec false (fun y b _ => @Bool.rec (fun _ => Bool) (@Bool.rec (fun _ => Bool) false (ih b) (Nat.beq x y)) true (Nat.blt x y)) b) a
def nthK (l : List Nat) : Nat → (Nat → Out) → Out → Out :=
  List.rec (motive := fun _ => Nat → (Nat → Out) → Out → Out) (fun _ _ els => els) (fun a _ ih k f els => @Nat.rec (fun _ => Out) (f a) (fun k _ => ih k f els) k) l
def allCells (l : List V) : Bool := List.rec (motive := fun _ => Bool) true (fun v _ ih => @Bool.rec (fun _ => Bool) false ih (isCell v)) l

/- operands' closures -/
def envG (k : Nat) : Gt := fun e _ => nthV e k
def slotG (k : Nat) : Gt := fun _ f => nthV f k
def constG (v : V) : Gt := fun _ _ => v
def gets (gs : List Gt) (e : Ev) (f : Fr) : List V := List.rec (motive := fun _ => List V) [] (fun g _ ih => g e f :: ih) gs

/- numbers -/
def ile (a b : Int) : Bool :=
  @Int.rec (fun _ => Bool) (fun m => @Int.rec (fun _ => Bool) (fun n => Nat.ble m n) (fun _ => false) b) (fun m => @Int.rec (fun _ => Bool) (fun _ => true) (fun n => Nat.ble n m) b) a
def ieq (a b : Int) : Bool :=
  @Int.rec (fun _ => Bool) (fun m => @Int.rec (fun _ => Bool) (fun n => Nat.beq m n) (fun _ => false) b) (fun m => @Int.rec (fun _ => Bool) (fun _ => false) (fun n => Nat.beq m n) b) a
def wrapF (k : IntKind) (n : Int) : Int :=
  @IntKind.rec (fun _ => Int) (IntKind.wrap .i8 n) (IntKind.wrap .i16 n) (IntKind.wrap .i32 n)
    (@Int.rec (fun _ => Int) (fun m => @Bool.rec (fun _ => Int) (IntKind.wrap .i64 (Int.ofNat m)) (Int.ofNat m) (Nat.ble m 9223372036854775807))
      (fun m => @Bool.rec (fun _ => Int) (IntKind.wrap .i64 (Int.negSucc m)) (Int.negSucc m) (Nat.ble m 9223372036854775807)) n)
    (@Int.rec (fun _ => Int) (fun m => Int.ofNat (Nat.mod m 256)) (fun m => IntKind.wrap .u8 (Int.negSucc m)) n)
    (IntKind.wrap .u16 n)
    (@Int.rec (fun _ => Int) (fun m => Int.ofNat (Nat.mod m 4294967296)) (fun m => IntKind.wrap .u32 (Int.negSucc m)) n)
    (@Int.rec (fun _ => Int) (fun m => Int.ofNat (Nat.mod m 18446744073709551616)) (fun m => IntKind.wrap .u64 (Int.negSucc m)) n) k
def kN (k : IntKind) : Nat := @IntKind.rec (fun _ => Nat) 0 1 2 3 4 5 6 7 k
def sameK (a b : IntKind) : Bool := Nat.beq (kN a) (kN b)
abbrev KV := V → Out
/-- an integer cell -/
def mkI64 (z : Int) (kk : KV) : Out := @Int.rec (fun _ => Out) (fun m => forceN m fun m => kk (.n m)) (fun m => forceN m fun m => kk (.int .i64 (Int.negSucc m))) z
def mkIk (k : IntKind) (z : Int) (kk : KV) : Out := forceI z fun z => kk (.int k z)
def mkI (k : IntKind) (z : Int) (kk : KV) : Out := ifB (Nat.beq (kN k) 3) (mkI64 z kk) (mkIk k z kk)
/-- as an integer -/
def toI (v : V) (f : IntKind → Int → Out) (els : Out) : Out := onI v (fun m => f .i64 (Int.ofNat m)) f els
abbrev I2 := IntKind → Int → Int → KV → Out → Out
def slow2 (g : I2) (x y : V) (kk : KV) (st : Out) : Out :=
  toI x (fun k a => toI y (fun k' b => ifB (sameK k k') (g k a b kk st) st) st) st
def boolK (b : Bool) (kk : KV) : Out := @Bool.rec (fun _ => Out) (kk .ff) (kk .tt) b
def addI : I2 := fun k a b kk _ => mkI k (wrapF k (Int.add a b)) kk
def subI : I2 := fun k a b kk _ => mkI k (wrapF k (Int.sub a b)) kk
def mulI : I2 := fun k a b kk _ => mkI k (wrapF k (Int.mul a b)) kk
def quoI : I2 := fun k a b kk st => ifB (ieq b 0) st (mkI k (wrapF k (Int.tdiv a b)) kk)
def remI : I2 := fun k a b kk st => ifB (ieq b 0) st (mkI k (Int.tmod a b) kk)
def bitsI (op : Nat → Nat → Nat → Nat) : I2 := fun k a b kk st =>
  onNat a (fun m => onNat b (fun n => forceN (Nat.pow 2 k.bits) fun t => ifB (Nat.blt m t) (ifB (Nat.blt n t) (mkI k (wrapF k (Int.ofNat (op t m n))) kk) st) st) st) st
def andI : I2 := bitsI fun _ a b => Nat.land a b
def orI : I2 := bitsI fun _ a b => Nat.lor a b
def xorI : I2 := bitsI fun _ a b => Nat.xor a b
def andNotI : I2 := bitsI fun t a b => Nat.land a (Nat.xor b (Nat.sub t 1))
def eqI : I2 := fun _ a b kk _ => boolK (ieq a b) kk
def neI : I2 := fun _ a b kk _ => boolK (Bool.not (ieq a b)) kk
def ltI : I2 := fun _ a b kk _ => boolK (Bool.not (ile b a)) kk
def leI : I2 := fun _ a b kk _ => boolK (ile a b) kk
def gtI : I2 := fun _ a b kk _ => boolK (Bool.not (ile a b)) kk
def geI : I2 := fun _ a b kk _ => boolK (ile b a) kk
abbrev Q2 := Nat → Nat → KV → Out → Out
/-- a quick way where both are whole, not negative numbers of kind int -/
def bin2y (q : Q2) (y : V) (a : Nat) (kk : KV) (sl : Out) : Out := onN y (fun b => q a b kk sl) sl
def bin2x (q : Q2) (x y : V) (kk : KV) (sl : Out) : Out := onN x (fun a => bin2y q y a kk sl) sl
def bin2 (q : Q2) (g : I2) (x y : V) (kk : KV) (st : Out) : Out := bin2x q x y kk (slow2 g x y kk st)
def capN (s : Nat) (kk : KV) (els : Out) : Out := forceN s fun s => ifB (Nat.ble s 9223372036854775807) (kk (.n s)) els
def addQ : Q2 := fun a b kk els => capN (Nat.add a b) kk els
def subQ : Q2 := fun a b kk els => ifB (Nat.ble b a) (capN (Nat.sub a b) kk els) els
def mulQ : Q2 := fun a b kk els => capN (Nat.mul a b) kk els
def quoQ : Q2 := fun a b kk els => ifB (Nat.beq b 0) els (capN (Nat.div a b) kk els)
def remQ : Q2 := fun a b kk els => ifB (Nat.beq b 0) els (forceN (Nat.mod a b) fun s => kk (.n s))
def eqQ : Q2 := fun a b kk _ => boolK (Nat.beq a b) kk
def neQ : Q2 := fun a b kk _ => @Bool.rec (fun _ => Out) (kk .tt) (kk .ff) (Nat.beq a b)
def ltQ : Q2 := fun a b kk _ => boolK (Nat.blt a b) kk
def leQ : Q2 := fun a b kk _ => boolK (Nat.ble a b) kk
def gtQ : Q2 := fun a b kk _ => boolK (Nat.blt b a) kk
def geQ : Q2 := fun a b kk _ => boolK (Nat.ble b a) kk
def noQ : Q2 := fun _ _ _ els => els
abbrev P2 := V → V → KV → Out → Out
abbrev P1 := V → KV → Out → Out
def shlP : P2 := fun x y kk st => toI x (fun k a => toI y (fun _ b => onNat b (fun n => mkI k (wrapF k (Int.mul a (Int.ofNat (Nat.pow 2 (Nat.min n k.bits))))) kk) st) st) st
def shrP : P2 := fun x y kk st => toI x (fun k a => toI y (fun _ b => onNat b (fun n => @Int.rec (fun _ => Out) (fun m => mkI k (Int.ofNat (Nat.div m (Nat.pow 2 (Nat.min n k.bits)))) kk) (fun m => mkI k (Int.fdiv (Int.negSucc m) (2 ^ Nat.min n k.bits)) kk) a) st) st) st
def convP (k : IntKind) : P1 := fun x kk st => toI x (fun _ a => mkI k (wrapF k a) kk) st
def negP : P1 := fun x kk st => toI x (fun k a => subI k 0 a kk st) st
def notP : P1 := fun x kk st => onB x (kk .ff) (kk .tt) st
abbrev S2 := List Nat → List Nat → KV → Out
def strP (g : S2) : P2 := fun x y kk st => onStr x (fun _ a => onStr y (fun _ b => g a b kk) st) st
def catP : P2 := fun x y kk st => onStr x (fun n a => onStr y (fun m b => forceN (Nat.add n m) fun t => ifB (Nat.ble t 9223372036854775807) (kk (.str t (app a b))) st) st) st
def eqS : S2 := fun a b kk => boolK (strEq a b) kk
def neS : S2 := fun a b kk => boolK (Bool.not (strEq a b)) kk
def ltS : S2 := fun a b kk => boolK (strLt a b) kk
def gtS : S2 := fun a b kk => boolK (Bool.not (Bool.or (strLt a b) (strEq a b))) kk
def leS : S2 := fun a b kk => boolK (Bool.or (strLt a b) (strEq a b)) kk
def geS : S2 := fun a b kk => boolK (Bool.not (strLt a b)) kk

/- '==' of cells: yes, no, not known -/
inductive B3 where
  | no
  | t
  | f
def onB3 (b : B3) (t f els : Out) : Out := @B3.rec (fun _ => Out) els t f b
def b3 (b : Bool) : B3 := @Bool.rec (fun _ => B3) .f .t b
def b3I (v : V) (k_n : Nat → B3) (k_int : IntKind → Int → B3) (els : B3) : B3 := @V.rec (fun _ => B3) (fun _ => Unit) k_n els els (fun _ _ => els) (fun _ _ _ _ => els) k_int (fun _ _ => els) els els (fun _ => els) els (fun _ _ => els) (fun _ _ _ => els) els (fun _ _ _ => els) els els (fun _ => els) els (fun _ _ => els) () (fun _ _ _ _ => ()) v
def b3B (v : V) (k_tt : B3) (k_ff : B3) (els : B3) : B3 := @V.rec (fun _ => B3) (fun _ => Unit) (fun _ => els) k_tt k_ff (fun _ _ => els) (fun _ _ _ _ => els) (fun _ _ => els) (fun _ _ => els) els els (fun _ => els) els (fun _ _ => els) (fun _ _ _ => els) els (fun _ _ _ => els) els els (fun _ => els) els (fun _ _ => els) () (fun _ _ _ _ => ()) v
def b3Str (v : V) (k_str : Nat → List Nat → B3) (els : B3) : B3 := @V.rec (fun _ => B3) (fun _ => Unit) (fun _ => els) els els (fun _ _ => els) (fun _ _ _ _ => els) (fun _ _ => els) k_str els els (fun _ => els) els (fun _ _ => els) (fun _ _ _ => els) els (fun _ _ _ => els) els els (fun _ => els) els (fun _ _ => els) () (fun _ _ _ _ => ()) v
def b3Ptr (v : V) (k_ptr : Nat → Nat → B3) (k_nilp : B3) (els : B3) : B3 := @V.rec (fun _ => B3) (fun _ => Unit) (fun _ => els) els els k_ptr (fun _ _ _ _ => els) (fun _ _ => els) (fun _ _ => els) k_nilp els (fun _ => els) els (fun _ _ => els) (fun _ _ _ => els) els (fun _ _ _ => els) els els (fun _ => els) els (fun _ _ => els) () (fun _ _ _ _ => ()) v
def b3Sl (v : V) (k_slice : Nat → Nat → Nat → Cap → B3) (k_nils : B3) (els : B3) : B3 := @V.rec (fun _ => B3) (fun _ => Unit) (fun _ => els) els els (fun _ _ => els) k_slice (fun _ _ => els) (fun _ _ => els) els k_nils (fun _ => els) els (fun _ _ => els) (fun _ _ _ => els) els (fun _ _ _ => els) els els (fun _ => els) els (fun _ _ => els) () (fun _ _ _ _ => ()) v
def b3Map (v : V) (k_map : Nat → B3) (k_nilm : B3) (els : B3) : B3 := @V.rec (fun _ => B3) (fun _ => Unit) (fun _ => els) els els (fun _ _ => els) (fun _ _ _ _ => els) (fun _ _ => els) (fun _ _ => els) els els k_map k_nilm (fun _ _ => els) (fun _ _ _ => els) els (fun _ _ _ => els) els els (fun _ => els) els (fun _ _ => els) () (fun _ _ _ _ => ()) v
def b3Fn (v : V) (k_func : FuncId → List (Nat × Nat) → B3) (k_nilf : B3) (els : B3) : B3 := @V.rec (fun _ => B3) (fun _ => Unit) (fun _ => els) els els (fun _ _ => els) (fun _ _ _ _ => els) (fun _ _ => els) (fun _ _ => els) els els (fun _ => els) els k_func (fun _ _ _ => els) k_nilf (fun _ _ _ => els) els els (fun _ => els) els (fun _ _ => els) () (fun _ _ _ _ => ()) v
def b3If (v : V) (k_iface : TypeId → Nat → Nat → B3) (k_nili : B3) (els : B3) : B3 := @V.rec (fun _ => B3) (fun _ => Unit) (fun _ => els) els els (fun _ _ => els) (fun _ _ _ _ => els) (fun _ _ => els) (fun _ _ => els) els els (fun _ => els) els (fun _ _ => els) (fun _ _ _ => els) els k_iface k_nili els (fun _ => els) els (fun _ _ => els) () (fun _ _ _ _ => ()) v
def b3Agg (v : V) (k_agg : List V → B3) (els : B3) : B3 := @V.rec (fun _ => B3) (fun _ => Unit) (fun _ => els) els els (fun _ _ => els) (fun _ _ _ _ => els) (fun _ _ => els) (fun _ _ => els) els els (fun _ => els) els (fun _ _ => els) (fun _ _ _ => els) els (fun _ _ _ => els) els els (fun _ => els) els (fun cs _ => k_agg cs) () (fun _ _ _ _ => ()) v
abbrev E2 := V → V → B3
def eqIntB (b : V) (k : IntKind) (x : Int) : B3 := b3I b (fun m => @Bool.rec (fun _ => B3) .no (b3 (ieq x (Int.ofNat m))) (sameK k .i64)) (fun k' y => @Bool.rec (fun _ => B3) .no (b3 (ieq x y)) (sameK k k')) .no
def eqInt : E2 := fun a b => b3I a (fun m => eqIntB b .i64 (Int.ofNat m)) (fun k z => eqIntB b k z) .no
def eqBool : E2 := fun a b => b3B a (b3B b .t .f .no) (b3B b .f .t .no) .no
def eqStr : E2 := fun a b => b3Str a (fun _ s => b3Str b (fun _ s' => b3 (strEq s s')) .no) .no
def eqPtr : E2 := fun a b => b3Ptr a (fun i o => b3Ptr b (fun j p => @Bool.rec (fun _ => B3) .no (b3 (Nat.beq o p)) (Nat.beq i j)) .f .no) (b3Ptr b (fun _ _ => .f) .t .no) .no
def eqSl : E2 := fun a b => b3Sl a (fun _ _ _ _ => b3Sl b (fun _ _ _ _ => .no) .f .no) (b3Sl b (fun _ _ _ _ => .f) .t .no) .no
def eqMap : E2 := fun a b => b3Map a (fun _ => b3Map b (fun _ => .no) .f .no) (b3Map b (fun _ => .f) .t .no) .no
def eqFn : E2 := fun a b => b3Fn a (fun _ _ => b3Fn b (fun _ _ => .no) .f .no) (b3Fn b (fun _ _ => .f) .t .no) .no
/-- (one of the two is written nil) -/
def eqIf : E2 := fun a b => b3If a (fun _ _ _ => b3If b (fun _ _ _ => .no) .f .no) (b3If b (fun _ _ _ => .f) .t .no) .no
/-- cell by cell -/
def eqCells (gs : List E2) : List V → List V → B3 :=
  List.rec (motive := fun _ => List V → List V → B3) (fun a b => List.rec (List.rec .t (fun _ _ _ => .no) b) (fun _ _ _ => .no) a)
    (fun g _ ih a b => List.rec .no (fun x a _ => List.rec .no (fun y b _ => @B3.rec (fun _ => B3) .no (ih a b) .f (g x y)) b) a) gs
def eqP (g : E2) (neg : Bool) : P2 := fun x y kk st => onB3 (g x y) (boolK (Bool.not neg) kk) (boolK neg kk) st
def eqAgg (gs : List E2) : E2 := fun x y => b3Agg x (fun xs => b3Agg y (fun ys => eqCells gs xs ys) .no) .no

/- the same value? -/
def bI (v : V) (k_n : Nat → Bool) (k_int : IntKind → Int → Bool) (els : Bool) : Bool := @V.rec (fun _ => Bool) (fun _ => Unit) k_n els els (fun _ _ => els) (fun _ _ _ _ => els) k_int (fun _ _ => els) els els (fun _ => els) els (fun _ _ => els) (fun _ _ _ => els) els (fun _ _ _ => els) els els (fun _ => els) els (fun _ _ => els) () (fun _ _ _ _ => ()) v
def bB (v : V) (k_tt : Bool) (k_ff : Bool) (els : Bool) : Bool := @V.rec (fun _ => Bool) (fun _ => Unit) (fun _ => els) k_tt k_ff (fun _ _ => els) (fun _ _ _ _ => els) (fun _ _ => els) (fun _ _ => els) els els (fun _ => els) els (fun _ _ => els) (fun _ _ _ => els) els (fun _ _ _ => els) els els (fun _ => els) els (fun _ _ => els) () (fun _ _ _ _ => ()) v
def bPtr (v : V) (k_ptr : Nat → Nat → Bool) (els : Bool) : Bool := @V.rec (fun _ => Bool) (fun _ => Unit) (fun _ => els) els els k_ptr (fun _ _ _ _ => els) (fun _ _ => els) (fun _ _ => els) els els (fun _ => els) els (fun _ _ => els) (fun _ _ _ => els) els (fun _ _ _ => els) els els (fun _ => els) els (fun _ _ => els) () (fun _ _ _ _ => ()) v
def bSl (v : V) (k_slice : Nat → Nat → Nat → Cap → Bool) (els : Bool) : Bool := @V.rec (fun _ => Bool) (fun _ => Unit) (fun _ => els) els els (fun _ _ => els) k_slice (fun _ _ => els) (fun _ _ => els) els els (fun _ => els) els (fun _ _ => els) (fun _ _ _ => els) els (fun _ _ _ => els) els els (fun _ => els) els (fun _ _ => els) () (fun _ _ _ _ => ()) v
def bStr (v : V) (k_str : Nat → List Nat → Bool) (els : Bool) : Bool := @V.rec (fun _ => Bool) (fun _ => Unit) (fun _ => els) els els (fun _ _ => els) (fun _ _ _ _ => els) (fun _ _ => els) k_str els els (fun _ => els) els (fun _ _ => els) (fun _ _ _ => els) els (fun _ _ _ => els) els els (fun _ => els) els (fun _ _ => els) () (fun _ _ _ _ => ()) v
def bNil (v : V) (k_nilp : Bool) (k_nils : Bool) (k_nilm : Bool) (k_nilf : Bool) (k_nili : Bool) (els : Bool) : Bool := @V.rec (fun _ => Bool) (fun _ => Unit) (fun _ => els) els els (fun _ _ => els) (fun _ _ _ _ => els) (fun _ _ => els) (fun _ _ => els) k_nilp k_nils (fun _ => els) k_nilm (fun _ _ => els) (fun _ _ _ => els) k_nilf (fun _ _ _ => els) k_nili els (fun _ => els) els (fun _ _ => els) () (fun _ _ _ _ => ()) v
def bMap (v : V) (k_map : Nat → Bool) (els : Bool) : Bool := @V.rec (fun _ => Bool) (fun _ => Unit) (fun _ => els) els els (fun _ _ => els) (fun _ _ _ _ => els) (fun _ _ => els) (fun _ _ => els) els els k_map els (fun _ _ => els) (fun _ _ _ => els) els (fun _ _ _ => els) els els (fun _ => els) els (fun _ _ => els) () (fun _ _ _ _ => ()) v
def bIf (v : V) (k_iface : TypeId → Nat → Nat → Bool) (els : Bool) : Bool := @V.rec (fun _ => Bool) (fun _ => Unit) (fun _ => els) els els (fun _ _ => els) (fun _ _ _ _ => els) (fun _ _ => els) (fun _ _ => els) els els (fun _ => els) els (fun _ _ => els) (fun _ _ _ => els) els k_iface els els (fun _ => els) els (fun _ _ => els) () (fun _ _ _ _ => ()) v
def bUn (v : V) (k_un : Bool) (els : Bool) : Bool := @V.rec (fun _ => Bool) (fun _ => Unit) (fun _ => els) els els (fun _ _ => els) (fun _ _ _ _ => els) (fun _ _ => els) (fun _ _ => els) els els (fun _ => els) els (fun _ _ => els) (fun _ _ _ => els) els (fun _ _ _ => els) els k_un (fun _ => els) els (fun _ _ => els) () (fun _ _ _ _ => ()) v
def bSym (v : V) (k_sym : Nat → Bool) (els : Bool) : Bool := @V.rec (fun _ => Bool) (fun _ => Unit) (fun _ => els) els els (fun _ _ => els) (fun _ _ _ _ => els) (fun _ _ => els) (fun _ _ => els) els els (fun _ => els) els (fun _ _ => els) (fun _ _ _ => els) els (fun _ _ _ => els) els els k_sym els (fun _ _ => els) () (fun _ _ _ _ => ()) v
def bAgg (v : V) (k_agg : List V → Bool) (els : Bool) : Bool := @V.rec (fun _ => Bool) (fun _ => Unit) (fun _ => els) els els (fun _ _ => els) (fun _ _ _ _ => els) (fun _ _ => els) (fun _ _ => els) els els (fun _ => els) els (fun _ _ => els) (fun _ _ _ => els) els (fun _ _ _ => els) els els (fun _ => els) els (fun cs _ => k_agg cs) () (fun _ _ _ _ => ()) v
def andB (a b : Bool) : Bool := @Bool.rec (fun _ => Bool) false b a
def sameC (a b : Cap) : Bool :=
  @Cap.rec (fun _ => Bool) (fun x => @Cap.rec (fun _ => Bool) (fun y => Nat.beq x y) (fun _ => false) (fun _ => false) b) (fun x => @Cap.rec (fun _ => Bool) (fun _ => false) (fun y => Nat.beq x y) (fun _ => false) b) (fun x => @Cap.rec (fun _ => Bool) (fun _ => false) (fun _ => false) (fun y => Nat.beq x y) b) a
/-- (functions and structs are never said to be the same) -/
def sameV (a b : V) : Bool :=
  @V.rec (fun _ => Bool) (fun _ => Unit) (fun m => bI b (fun n => Nat.beq m n) (fun _ _ => false) false) (bB b true false false) (bB b false true false)
    (fun i o => bPtr b (fun j p => andB (Nat.beq i j) (Nat.beq o p)) false)
    (fun i o l c => bSl b (fun j p m d => andB (Nat.beq i j) (andB (Nat.beq o p) (andB (Nat.beq l m) (sameC c d)))) false)
    (fun k z => bI b (fun _ => false) (fun k' z' => andB (sameK k k') (ieq z z')) false)
    (fun n s => bStr b (fun m t => andB (Nat.beq n m) (strEq s t)) false)
    (bNil b true false false false false false) (bNil b false true false false false false)
    (fun i => bMap b (fun j => Nat.beq i j) false) (bNil b false false true false false false) (fun _ _ => false) (fun _ _ _ => false) (bNil b false false false true false false)
    (fun t i o => bIf b (fun u j p => andB (Nat.beq t u) (andB (Nat.beq i j) (Nat.beq o p))) false) (bNil b false false false false true false)
    (bUn b true false) (fun i => bSym b (fun j => Nat.beq i j) false) false (fun _ _ => false) () (fun _ _ _ _ => ()) a
def sameL (a : List V) : List V → Bool :=
  List.rec (motive := fun _ => List V → Bool) (fun b => List.rec true (fun _ _ _ => false) b)
    (fun x _ ih b => List.rec false (fun y b _ => andB (sameV x y) (ih b)) b) a
/-- structs too -/
def sameA (a b : V) : Bool := bAgg a (fun xs => bAgg b (fun ys => sameL xs ys) false) (sameV a b)

/- memory -/
def cellR (v : V) (kk : KV) (st : Out) : Out := ifB (isCell v) (kk v) st
def cellS (n : Nat) (cs : List V) (off : Nat) (kk : KV) (st : Out) : Out := ifB (Nat.blt off n) (kk (nthV cs off)) st
def cellT (n zl : Nat) (z : List V) (m : Tr V) (off : Nat) (kk : KV) (st : Out) : Out := ifB (Nat.blt off n) (optV (m.get (path off)) kk (kk (nthV z (Nat.mod off zl)))) st
def cellK (b : Blk) (off : Nat) (kk : KV) (st : Out) : Out :=
  onBlk b (fun n cs _ => cellS n cs off kk st) (fun n zl z m => cellT n zl z m off kk st) (fun _ => st)
/-- the cells of a tree, or its zero values -/
def treeL (zl : Nat) (z : List V) (m : Tr V) (n : Nat) : Nat → List V :=
  Nat.rec (motive := fun _ => Nat → List V) (fun _ => []) (fun _ ih off => @Option.rec V (fun _ => V) (nthV z (Nat.mod off zl)) (fun v => v) (m.get (path off)) :: ih (Nat.succ off)) n
def cellsS (t : Nat) (cs : List V) (n off : Nat) (kk : List V → Out) (st : Out) : Out := ifB (Nat.ble (Nat.add off n) t) (kk (tak (drp cs off) n)) st
def cellsT (t zl : Nat) (z : List V) (m : Tr V) (n off : Nat) (kk : List V → Out) (st : Out) : Out := ifB (Nat.ble (Nat.add off n) t) (kk (treeL zl z m n off)) st
def cellsK (b : Blk) (n off : Nat) (kk : List V → Out) (st : Out) : Out :=
  onBlk b (fun t cs _ => cellsS t cs n off kk st) (fun t zl z m => cellsT t zl z m n off kk st) (fun _ => st)
def sizeB (b : Blk) : Nat := @Blk.rec (fun _ => Nat) (fun n _ _ => n) (fun n _ _ _ => n) (fun _ => 0) b
def spl (cs vs : List V) (off n : Nat) : List V := app (tak cs off) (app vs (drp cs (Nat.add off n)))
def setsT (vs : List V) : Nat → Tr V → Tr V :=
  List.rec (motive := fun _ => Nat → Tr V → Tr V) (fun _ m => m) (fun v _ ih off m => ih (Nat.succ off) (m.set (path off) v)) vs
/-- a store of cells (all are) -/
def putsS (t : Nat) (cs : List V) (mk : Bool) (n : Nat) (vs : List V) (off : Nat) (kk : Blk → Out) (st : Out) : Out := ifB (Nat.ble (Nat.add off n) t) (kk (.small t (spl cs vs off n) mk)) st
def putsT (t zl : Nat) (z : List V) (m : Tr V) (n : Nat) (vs : List V) (off : Nat) (kk : Blk → Out) (st : Out) : Out := ifB (Nat.ble (Nat.add off n) t) (kk (.big t zl z (setsT vs off m))) st
def putsB (n : Nat) (vs : List V) (b : Blk) (off : Nat) (kk : Blk → Out) (st : Out) : Out :=
  onBlk b (fun t cs mk => putsS t cs mk n vs off kk st) (fun t zl z m => putsT t zl z m n vs off kk st) (fun _ => st)
def putsK (n : Nat) (vs : List V) (b : Blk) (off : Nat) (kk : Blk → Out) (st : Out) : Out := ifB (allCells vs) (putsB n vs b off kk st) st
def put1S (t : Nat) (cs : List V) (mk : Bool) (v : V) (off : Nat) (kk : Blk → Out) (st : Out) : Out := ifB (Nat.blt off t) (kk (.small t (setV cs off v) mk)) st
def put1T (t zl : Nat) (z : List V) (m : Tr V) (v : V) (off : Nat) (kk : Blk → Out) (st : Out) : Out := ifB (Nat.blt off t) (kk (.big t zl z (m.set (path off) v))) st
def put1B (v : V) (b : Blk) (off : Nat) (kk : Blk → Out) (st : Out) : Out :=
  onBlk b (fun t cs mk => put1S t cs mk v off kk st) (fun t zl z m => put1T t zl z m v off kk st) (fun _ => st)
def put1K (v : V) (b : Blk) (off : Nat) (kk : Blk → Out) (st : Out) : Out := ifB (isCell v) (put1B v b off kk st) st
/-- a block of so many zero values -/
def zeroB (n zl : Nat) (z : List V) (k : Nat) : Blk := @Bool.rec (fun _ => Blk) (.big n zl z .nil) (.small n (repV k z) false) (Nat.ble n 24)
/-- a block of these cells -/
def ofCells (n : Nat) (l : List V) : Blk := @Bool.rec (fun _ => Blk) (.big n n l .nil) (.small n l false) (Nat.ble n 24)
def H.at (h : H) (i : Nat) : Option Blk := @H.rec (fun _ => Option Blk) (fun hp _ => hp.get (path i)) h
def H.put (h : H) (i : Nat) (b : Blk) : H := @H.rec (fun _ => H) (fun hp nx => ⟨hp.set (path i) b, nx⟩) h
def H.kill (h : H) (i : Nat) : H := @H.rec (fun _ => H) (fun hp nx => ⟨hp.del (path i), nx⟩) h
/-- a new block; its number -/
def newK (h : H) (b : Blk) (k : Nat → H → Out) : Out := @H.rec (fun _ => Out) (fun hp nx => forceN nx fun i => k i ⟨hp.set (path i) b, Nat.succ i⟩) h

/- values -/
def mkPtr (i o : Nat) (kk : KV) : Out := forceN o fun o => kk (.ptr i o)
def idxSP (n : Nat) : P2 := fun x y kk st => onSl x (fun i off ln _ => toI y (fun _ z => onNat z (fun k => ifB (Nat.blt k ln) (mkPtr i (Nat.add off (Nat.mul k n)) kk) st) st) st) st
def idxAP (ln n : Nat) : P2 := fun x y kk st => onPtr x (fun i off => toI y (fun _ z => onNat z (fun k => ifB (Nat.blt k ln) (mkPtr i (Nat.add off (Nat.mul k n)) kk) st) st) st) st
def idxStrP : P2 := fun x y kk st => onStr x (fun _ s => toI y (fun _ z => onNat z (fun k => nthK s k (fun b => kk (.int .u8 (Int.ofNat b))) st) st) st) st
def idxVP (ln : Nat) : P2 := fun x y kk st => onAgg x (fun cs => toI y (fun _ z => onNat z (fun k => ifB (Nat.blt k ln) (ifB (Nat.ble ln (len cs)) (kk (nthV cs k)) st) st) st) st) st
def fieldVP (agg : Bool) (off n : Nat) : P1 := fun x kk st => onAgg x (fun cs => ifB (Nat.ble (Nat.add off n) (len cs)) (ifB agg (kk (.agg (tak (drp cs off) n))) (kk (nthV cs off))) st) st
def fieldP (off : Nat) : P1 := fun x kk st => onPtr x (fun i o => mkPtr i (Nat.add o off) kk) st
def lenP : P1 := fun x kk st => onSlN x (fun _ _ n _ => kk (.n n)) (kk (.n 0)) st
def lenStrP : P1 := fun x kk st => onStr x (fun n _ => kk (.n n)) st
def capP : P1 := fun x kk st => onSlN x (fun _ _ _ c => onCap c (fun c => kk (.n c)) (fun _ => st) (fun _ => st)) (kk (.n 0)) st
def pickK (c a b : V) (kk : KV) (st : Out) : Out := onB c (kk a) (kk b) st
def minP : P2 := fun a b kk st => toI a (fun k x => toI b (fun k' y => ifB (sameK k k') (ifB (ile x y) (kk a) (kk b)) st) st) st
def maxP : P2 := fun a b kk st => toI a (fun k x => toI b (fun k' y => ifB (sameK k k') (ifB (ile y x) (kk a) (kk b)) st) st) st
def foldK (g : P2) (l : List V) : V → KV → Out → Out :=
  List.rec (motive := fun _ => V → KV → Out → Out) (fun a kk _ => kk a) (fun b _ ih a kk st => g a b (fun c => ih c kk st) st) l
def ifaceP (t : TypeId) : P1 := fun x kk st => onPtr x (fun i o => kk (.iface t i o)) st
def ptrsK (l : List V) : (List (Nat × Nat) → Out) → Out → Out :=
  List.rec (motive := fun _ => (List (Nat × Nat) → Out) → Out → Out) (fun kk _ => kk []) (fun v _ ih kk st => onPtr v (fun i o => ih (fun l => kk ((i, o) :: l)) st) st) l

/- reading memory -/
abbrev KL := List V → Out
def load1H (x : V) (h : H) (kk : KV) (st : Out) : Out := onPtr x (fun i off => optB (h.at i) (fun b => cellK b off kk st) st) st
def loadH (n : Nat) (x : V) (h : H) (kk : KV) (st : Out) : Out := onPtr x (fun i off => optB (h.at i) (fun b => cellsK b n off (fun l => kk (.agg l)) st) st) st
def bytesK (l : List V) : (List Nat → Out) → Out → Out :=
  List.rec (motive := fun _ => (List Nat → Out) → Out → Out) (fun kk _ => kk [])
    (fun v _ ih kk st => onI v (fun _ => st) (fun k z => ifB (sameK k .u8) (onNat z (fun b => ifB (Nat.blt b 256) (ih (fun l => kk (b :: l)) st) st) st) st) st) l
def strH (x : V) (h : H) (kk : KV) (st : Out) : Out :=
  onSlN x (fun i off n _ => optB (h.at i) (fun b => cellsK b n off (fun l => bytesK l (fun s => kk (.str n s)) st) st) st) (kk (.str 0 [])) st
def lenMH (x : V) (h : H) (kk : KV) (st : Out) : Out :=
  onMap x (fun i => optB (h.at i) (fun b => onBlk b (fun _ _ _ => st) (fun _ _ _ _ => st) (fun es => forceN (len es) fun n => kk (.n n))) st) (kk (.n 0)) st
/-- a bound: none: what it is then -/
def optG (o : Option V) (d : Nat) (kk : Nat → Out) (st : Out) : Out := @Option.rec V (fun _ => Out) (kk d) (fun v => toI v (fun _ z => onNat z kk st) st) o
def mkSl (i o l : Nat) (c : Cap) (kk : KV) : Out := forceN o fun o => forceN l fun l => kk (.slice i o l c)
def mkSlK (i o l c : Nat) (kk : KV) : Out := forceN o fun o => forceN l fun l => forceN c fun c => kk (.slice i o l (.known c))
/-- behind a slice's lower bound: of known capacity; open; its very end -/
def slK (n i off l k c : Nat) (kk : KV) (st : Out) : Out :=
  ifB (Nat.ble k c) (ifB (Nat.beq l c) (mkSlK i off (Nat.sub k l) (Nat.sub c l) kk) (mkSlK i (Nat.add off (Nat.mul l n)) (Nat.sub k l) (Nat.sub c l) kk)) st
def slF2 (n i off l k low total : Nat) (kk : KV) : Out :=
  ifB (Nat.beq l 0) (mkSl i off k (.free n) kk) (ifB (Nat.blt low total) (mkSl i low (Nat.sub k l) (.free n) kk) (mkSl i low 0 (.fuzzy n) kk))
def slF (n i off l k : Nat) (total : Nat) (kk : KV) (st : Out) : Out :=
  ifB (Nat.ble (Nat.add off (Nat.mul k n)) total) (slF2 n i off l k (Nat.add off (Nat.mul l n)) total kk) st
def slZ (es i off k : Nat) (kk : KV) (st : Out) : Out := ifB (Nat.beq k 0) (kk (.slice i off 0 (.fuzzy es))) st
def slB (n i off : Nat) (c : Cap) (l k : Nat) (h : H) (kk : KV) (st : Out) : Out :=
  ifB (Nat.ble l k) (onCap c (fun c => slK n i off l k c kk st) (fun es => ifB (Nat.beq es n) (optB (h.at i) (fun b => forceN (sizeB b) fun total => slF n i off l k total kk st) st) st) (fun es => slZ es i off k kk st)) st
def slNil (l k : Nat) (kk : KV) (st : Out) : Out := ifB (Nat.beq l 0) (ifB (Nat.beq k 0) (kk .nils) st) st
def slStr (ln : Nat) (s : List Nat) (l k : Nat) (kk : KV) (st : Out) : Out :=
  ifB (Nat.ble l k) (ifB (Nat.ble k ln) (forceN (Nat.sub k l) fun t => kk (.str t (tak (drp s l) t))) st) st
def sliceL (n : Nat) (x : V) (l : Nat) (hi : Option V) (h : H) (kk : KV) (st : Out) : Out :=
  onSlN x (fun i off ln c => optG hi ln (fun k => slB n i off c l k h kk st) st) (optG hi 0 (fun k => slNil l k kk st) st) st
def sliceH (n : Nat) (x : V) (lo hi : Option V) (h : H) (kk : KV) (st : Out) : Out := optG lo 0 (fun l => sliceL n x l hi h kk st) st
def sliceStr (x : V) (lo hi : Option V) (kk : KV) (st : Out) : Out := optG lo 0 (fun l => onStr x (fun ln s => optG hi ln (fun k => slStr ln s l k kk st) st) st) st
def sl3Y (n i off l k m : Nat) (kk : KV) : Out :=
  ifB (Nat.beq l m) (mkSlK i off (Nat.sub k l) (Nat.sub m l) kk) (mkSlK i (Nat.add off (Nat.mul l n)) (Nat.sub k l) (Nat.sub m l) kk)
def sl3B (n i off : Nat) (c : Cap) (l k m : Nat) (h : H) (kk : KV) (st : Out) : Out :=
  ifB (Nat.ble l k) (ifB (Nat.ble k m) (onCap c (fun c => ifB (Nat.ble m c) (sl3Y n i off l k m kk) st)
    (fun es => ifB (Nat.beq es n) (optB (h.at i) (fun b => ifB (Nat.ble (Nat.add off (Nat.mul m n)) (sizeB b)) (sl3Y n i off l k m kk) st) st) st) (fun _ => st)) st) st
def sl3Nil (l k m : Nat) (kk : KV) (st : Out) : Out := ifB (Nat.beq m 0) (slNil l k kk st) st
def slice3L (n : Nat) (x : V) (l m : Nat) (hi : Option V) (h : H) (kk : KV) (st : Out) : Out :=
  onSlN x (fun i off ln c => optG hi ln (fun k => sl3B n i off c l k m h kk st) st) (optG hi 0 (fun k => sl3Nil l k m kk st) st) st
def slice3H (n : Nat) (x : V) (lo hi : Option V) (mx : V) (h : H) (kk : KV) (st : Out) : Out :=
  optG lo 0 (fun l => toI mx (fun _ z => onNat z (fun m => slice3L n x l m hi h kk st) st) st) st

/- maps -/
def keyEq (a b : V) : B3 := b3I a (fun m => eqIntB b .i64 (Int.ofNat m)) (fun k z => eqIntB b k z) .no
def findK (k : V) (es : List (V × V)) : KV → Out → Out → Out :=
  List.rec (motive := fun _ => KV → Out → Out → Out) (fun _ miss _ => miss) (fun e _ ih kk miss st => onB3 (keyEq k e.1) (kk e.2) (ih kk miss st) st) es
def updK (k v : V) (es : List (V × V)) : (List (V × V) → Out) → Out → Out :=
  List.rec (motive := fun _ => (List (V × V) → Out) → Out → Out) (fun kk _ => kk [(k, v)])
    (fun e es ih kk st => onB3 (keyEq k e.1) (kk ((k, v) :: es)) (ih (fun l => kk (e :: l)) st) st) es
def delK (k : V) (es : List (V × V)) : (List (V × V) → Out) → Out → Out :=
  List.rec (motive := fun _ => (List (V × V) → Out) → Out → Out) (fun kk _ => kk [])
    (fun e es ih kk st => onB3 (keyEq k e.1) (kk es) (ih (fun l => kk (e :: l)) st) st) es
/-- may it be a key? -/
def isKey (k : V) (yes st : Out) : Out := onB3 (keyEq k k) yes st st
def onMapB (o : Option Blk) (f : List (V × V) → Out) (st : Out) : Out := optB o (fun b => onBlk b (fun _ _ _ => st) (fun _ _ _ _ => st) f) st
def lookH (ok : Bool) (zero : V) (m k : V) (h : H) (kk : KL) (st : Out) : Out :=
  isKey k (onMap m (fun i => onMapB (h.at i) (fun es => findK k es (fun v => ifB ok (kk [v, .tt]) (kk [v])) (ifB ok (kk [zero, .ff]) (kk [zero])) st) st)
    (ifB ok (kk [zero, .ff]) (kk [zero])) st) st

/- writing memory -/
abbrev KH := List V → H → Out
def updH (m k v : V) (h : H) (kk : KH) (st : Out) : Out :=
  isKey k (ifB (isCell v) (onMap m (fun i => onMapB (h.at i) (fun es => updK k v es (fun es => kk [] (h.put i (.map es))) st) st) st st) st) st
def delH (m k : V) (h : H) (kk : KH) (st : Out) : Out :=
  isKey k (onMap m (fun i => onMapB (h.at i) (fun es => delK k es (fun es => kk [] (h.put i (.map es))) st) st) st st) st
def store1H (x v : V) (h : H) (kk : KH) (st : Out) : Out :=
  onPtr x (fun i off => optB (h.at i) (fun b => put1K v b off (fun b => kk [] (h.put i b)) st) st) st
def storeH (n : Nat) (x v : V) (h : H) (kk : KH) (st : Out) : Out :=
  onAgg v (fun vs => ifB (Nat.beq (len vs) n) (onPtr x (fun i off => optB (h.at i) (fun b => putsK n vs b off (fun b => kk [] (h.put i b)) st) st) st) st) st
def markH (x : V) (h : H) (kk : KH) (st : Out) : Out :=
  onSl x (fun i _ _ _ => optB (h.at i) (fun b => onBlk b (fun n cs _ => kk [x] (h.put i (.small n cs true))) (fun _ _ _ _ => st) (fun _ => st)) st) st
def firstK (sz n : Nat) (v : V) (h : H) (kk : KL) (st : Out) : Out :=
  onSeq v (fun i off _ _ => optB (h.at i) (fun b => cellsK b (Nat.mul n sz) off kk st) st) (kk []) (fun _ s => ifB (Nat.beq sz 1) (kk (mapL (fun b => V.int .u8 (Int.ofNat b)) (tak s n))) st) st
def lenK (v : V) (kk : Nat → Out) (st : Out) : Out := onSeq v (fun _ _ n _ => kk n) (kk 0) (fun n _ => kk n) st
/-- a block made longer: its first cells, and these -/
def growS (cs : List V) (n k : Nat) (new : List V) (kk : Blk → Out) : Out := forceN (Nat.add n k) fun t => kk (ofCells t (app (tak cs n) new))
def growT (m zl : Nat) (z : List V) (tr : Tr V) (n k : Nat) (new : List V) (kk : Blk → Out) (st : Out) : Out :=
  ifB (Nat.beq m n) (forceN (Nat.add n k) fun t => kk (.big t zl z (setsT new n tr))) st
def growK (b : Blk) (n k : Nat) (new : List V) (kk : Blk → Out) (st : Out) : Out :=
  onBlk b (fun t cs _ => ifB (Nat.ble n t) (growS cs n k new kk) st) (fun m zl z tr => growT m zl z tr n k new kk st) (fun _ => st)
def freshK (sz n : Nat) (b : Blk) (h : H) (kk : KH) : Out := newK h b fun j h => kk [.slice j 0 n (.free sz)] h
/-- append: a new row of these cells -/
def freshC (sz n t : Nat) (l : List V) (h : H) (kk : KH) : Out := forceN t fun t => freshK sz n (ofCells t l) h kk
def appK (sz n : Nat) (new : List V) (i off ln c : Nat) (b : Blk) (need : Nat) (h : H) (kk : KH) (st : Out) : Out :=
  ifB (Nat.ble need c) (putsK (Nat.mul n sz) new b (Nat.add off (Nat.mul ln sz)) (fun b => kk [.slice i off need (.known c)] (h.put i b)) st)
    (cellsK b (Nat.mul ln sz) off (fun old => freshC sz need (Nat.mul need sz) (app old new) h kk) st)
def appF (sz n : Nat) (new : List V) (i off ln : Nat) (b : Blk) (need : Nat) (h : H) (kk : KH) (st : Out) : Out :=
  ifB (Nat.ble (Nat.add off (Nat.mul need sz)) (sizeB b))
    (putsK (Nat.mul n sz) new b (Nat.add off (Nat.mul ln sz)) (fun b => kk [.slice i off need (.free sz)] (h.put i b)) st)
    (ifB (Nat.beq off 0) (growK b (Nat.mul ln sz) (Nat.mul n sz) new (fun b => freshK sz need b (h.kill i) kk) st)
      (cellsK b (Nat.mul ln sz) off (fun old => freshC sz need (Nat.mul need sz) (app old new) (h.kill i) kk) st))
def appZ (sz n : Nat) (new : List V) (i : Nat) (s : V) (h : H) (kk : KH) : Out := ifB (Nat.beq n 0) (kk [s] h) (freshC sz n (Nat.mul n sz) new (h.kill i) kk)
def roomK (need bb : Nat) (o st : Out) : Out := ifB (Nat.ble (Nat.mul need bb) 140737488355328) o st
def appS (sz bb n : Nat) (new : List V) (s : V) (i off ln : Nat) (c : Cap) (b : Blk) (h : H) (kk : KH) (st : Out) : Out :=
  forceN (Nat.add ln n) fun need => roomK need bb (onCap c (fun c => appK sz n new i off ln c b need h kk st) (fun es => ifB (Nat.beq es sz) (appF sz n new i off ln b need h kk st) st) (fun es => ifB (Nat.beq es sz) (onBlk b (fun _ _ _ => appZ sz n new i s h kk) (fun _ _ _ _ => appZ sz n new i s h kk) (fun _ => st)) st)) st
def appV (sz bb n : Nat) (new : List V) (s : V) (h : H) (kk : KH) (st : Out) : Out :=
  onSlN s (fun i off ln c => optB (h.at i) (fun b => appS sz bb n new s i off ln c b h kk st) st)
    (ifB (Nat.beq n 0) (kk [.nils] h) (roomK n bb (freshC sz n (Nat.mul n sz) new h kk) st)) st
def appH (sz bb : Nat) (s x : V) (h : H) (kk : KH) (st : Out) : Out :=
  lenK x (fun n => firstK sz n x h (fun new => ifB (allCells new) (appV sz bb n new s h kk st) st) st) st
def appZH (sz bb : Nat) (z : List V) (s x : V) (h : H) (kk : KH) (st : Out) : Out :=
  toI x (fun _ m => onNat m (fun n => ifB (allCells z) (appV sz bb n (repV n z) s h kk st) st) st) st
def copyX (sz : Nat) (s : V) (i off n : Nat) (h : H) (kk : KH) (st : Out) : Out :=
  ifB (Nat.beq n 0) (kk [.n 0] h) (firstK sz n s h (fun cs => optB (h.at i) (fun b => putsK (Nat.mul n sz) cs b off (fun b => kk [.n n] (h.put i b)) st) st) st)
def copyH (sz : Nat) (d s : V) (h : H) (kk : KH) (st : Out) : Out :=
  lenK s (fun sn => onSlN d (fun i off dn _ => forceN (@Bool.rec (fun _ => Nat) dn sn (Nat.ble sn dn)) fun n => copyX sz s i off n h kk st) (kk [.n 0] h) st) st
def clearH (sz : Nat) (z : List V) (x : V) (h : H) (kk : KH) (st : Out) : Out :=
  onSlN x (fun i off n _ => ifB (Nat.beq n 0) (kk [] h) (optB (h.at i) (fun b => putsK (Nat.mul n sz) (repV n z) b off (fun b => kk [] (h.put i b)) st) st)) (kk [] h) st

/- making -/
abbrev KM := Blk → (Nat → V) → Out
def boxM (n : Nat) (l : List V) (kk : KM) (st : Out) : Out := ifB (allCells l) (kk (ofCells n l) (fun i => .ptr i 0)) st
def litM (n ln : Nat) (l : List V) (kk : KM) (st : Out) : Out := ifB (allCells l) (kk (ofCells n l) (fun i => .slice i 0 ln (.known ln))) st
def sliceM (n bytes : Nat) (z : List V) (l c : V) (kk : KM) (st : Out) : Out :=
  toI l (fun _ l => onNat l (fun l => toI c (fun _ c => onNat c (fun c => ifB (Nat.ble l c) (ifB (Nat.ble (Nat.mul c bytes) 281474976710656)
    (forceN (Nat.mul c n) fun t => kk (zeroB t n z c) (fun i => .slice i 0 l (.known c))) st) st) st) st) st) st
def bytesM (x : V) (kk : KM) (st : Out) : Out :=
  onStr x (fun n s => kk (.small n (mapL (fun b => V.int .u8 (Int.ofNat b)) s) true) (fun i => .slice i 0 n (.free 1))) st

/- operations as closures -/
def un1C (pos : String) (p : P1) (gx : Gt) : OpC := fun _ e f h k => p (gx e f) (fun v => k (v :: e) h) (.stuck pos)
def bin1C (pos : String) (p : P2) (gx gy : Gt) : OpC := fun _ e f h k => p (gx e f) (gy e f) (fun v => k (v :: e) h) (.stuck pos)
def intC (pos : String) (q : Q2) (g : I2) (gx gy : Gt) : OpC := fun _ e f h k => bin2 q g (gx e f) (gy e f) (fun v => k (v :: e) h) (.stuck pos)
def pickC (pos : String) (gc ga gb : Gt) : OpC := fun _ e f h k => pickK (gc e f) (ga e f) (gb e f) (fun v => k (v :: e) h) (.stuck pos)
def foldC (pos : String) (p : P2) (gx : Gt) (gs : List Gt) : OpC := fun _ e f h k => foldK p (gets gs e f) (gx e f) (fun v => k (v :: e) h) (.stuck pos)
def mfuncC (pos : String) (g : FuncId) (gx : Gt) : OpC := fun _ e f h k => onPtr (gx e f) (fun i o => k (.mfunc g i o :: e) h) (.stuck pos)
def funcC (pos : String) (g : FuncId) (gs : List Gt) : OpC := fun _ e f h k => ptrsK (gets gs e f) (fun l => k (.func g l :: e) h) (.stuck pos)
def rd1C (pos : String) (p : V → H → KV → Out → Out) (gx : Gt) : OpC := fun _ e f h k => p (gx e f) h (fun v => k (v :: e) h) (.stuck pos)
def lookC (pos : String) (ok : Bool) (zero : V) (gm gk : Gt) : OpC := fun _ e f h k => lookH ok zero (gm e f) (gk e f) h (fun l => k (pushL l e) h) (.stuck pos)
def optE (g : Option Gt) (e : Ev) (f : Fr) : Option V := @Option.rec Gt (fun _ => Option V) none (fun g => some (g e f)) g
def sliceC (pos : String) (n : Nat) (gx : Gt) (lo hi : Option Gt) : OpC := fun _ e f h k => sliceH n (gx e f) (optE lo e f) (optE hi e f) h (fun v => k (v :: e) h) (.stuck pos)
def sliceStrC (pos : String) (gx : Gt) (lo hi : Option Gt) : OpC := fun _ e f h k => sliceStr (gx e f) (optE lo e f) (optE hi e f) (fun v => k (v :: e) h) (.stuck pos)
def slice3C (pos : String) (n : Nat) (gx : Gt) (lo hi : Option Gt) (gm : Gt) : OpC := fun _ e f h k => slice3H n (gx e f) (optE lo e f) (optE hi e f) (gm e f) h (fun v => k (v :: e) h) (.stuck pos)
def mkK (h : H) (e : Ev) (k : Ev → H → Out) : KM := fun b m => newK h b fun i h => k (m i :: e) h
def allocC (b : Blk) : OpC := fun _ e _ h k => mkK h e k b (fun i => .ptr i 0)
def mapC : OpC := fun _ e _ h k => mkK h e k (.map []) (fun i => .map i)
def box1C (pos : String) (gx : Gt) : OpC := fun _ e f h k => ifB (isCell (gx e f)) (mkK h e k (.small 1 [gx e f] false) (fun i => .ptr i 0)) (.stuck pos)
def boxC (pos : String) (n : Nat) (gx : Gt) : OpC := fun _ e f h k => onAgg (gx e f) (fun cs => ifB (Nat.beq (len cs) n) (boxM n cs (mkK h e k) (.stuck pos)) (.stuck pos)) (.stuck pos)
/-- parts laid over cells: (its place, its size; none: one cell that is no struct) -/
def fillK (l : List ((Nat × Option Nat) × V)) : List V → KL → Out → Out :=
  List.rec (motive := fun _ => List V → KL → Out → Out) (fun cs kk _ => kk cs)
    (fun p _ ih cs kk st => @Option.rec Nat (fun _ => Out) (ifB (isCell p.2) (ih (setV cs p.1.1 p.2) kk st) st)
      (fun n => onAgg p.2 (fun vs => ifB (Nat.beq (len vs) n) (ih (spl cs vs p.1.1 n) kk st) st) st) p.1.2) l
def partsE (ps : List ((Nat × Option Nat) × Gt)) (e : Ev) (f : Fr) : List ((Nat × Option Nat) × V) := mapL (fun p => (p.1, p.2 e f)) ps
def buildC (pos : String) (z : List V) (ps : List ((Nat × Option Nat) × Gt)) : OpC := fun _ e f h k => fillK (partsE ps e f) z (fun cs => k (.agg cs :: e) h) (.stuck pos)
def litC (pos : String) (n ln : Nat) (z : List V) (ps : List ((Nat × Option Nat) × Gt)) : OpC := fun _ e f h k => fillK (partsE ps e f) z (fun cs => litM n ln cs (mkK h e k) (.stuck pos)) (.stuck pos)
def makeC (pos : String) (n bytes : Nat) (z : List V) (gl gc : Gt) : OpC := fun _ e f h k => sliceM n bytes z (gl e f) (gc e f) (mkK h e k) (.stuck pos)
def bytesC (pos : String) (gx : Gt) : OpC := fun _ e f h k => bytesM (gx e f) (mkK h e k) (.stuck pos)
def ch1C (pos : String) (p : V → H → KH → Out → Out) (gx : Gt) : OpC := fun _ e f h k => p (gx e f) h (fun l h => k (pushL l e) h) (.stuck pos)
def ch2C (pos : String) (p : V → V → H → KH → Out → Out) (gx gy : Gt) : OpC := fun _ e f h k => p (gx e f) (gy e f) h (fun l h => k (pushL l e) h) (.stuck pos)
def ch3C (pos : String) (p : V → V → V → H → KH → Out → Out) (gx gy gz : Gt) : OpC := fun _ e f h k => p (gx e f) (gy e f) (gz e f) h (fun l h => k (pushL l e) h) (.stuck pos)
def callC (g : FuncId) (gs : List Gt) : OpC := fun c e f h k => c g (gets gs e f) h fun l h => k (pushL l e) h
def mvC (gs : List Gt) : OpC := fun _ e f h k => k (pushL (gets gs e f) e) h
def chkC (pos : String) (p : V → Bool) (g : Gt) (o : OpC) : OpC := fun c e f h k => ifB (p (g e f)) (o c e f h k) (.stuck pos)
def idC : OpC := fun _ e _ h k => k e h
def stuckC (pos : String) : OpC := fun _ _ _ _ _ => .stuck pos
def grdC (pos : String) (g : Gt) (want : Bool) (n : Nat) (o : OpC) : OpC := fun c e f h k =>
  onG (g e f) (@Bool.rec (fun _ => Out) (k (uns n e) h) (o c e f h k) want) (@Bool.rec (fun _ => Out) (o c e f h k) (k (uns n e) h) want) (k (uns n e) h) (.stuck pos)
def seqC (a b : OpC) : OpC := fun c e f h k => a c e f h fun e h => b c e f h k
def runL (l : List OpC) : OpC := List.rec (motive := fun _ => OpC) idC (fun o _ ih c e f h k => o c e f h fun e h => ih c e f h k) l
def nxle (h h' : H) : Bool := @H.rec (fun _ => Bool) (fun _ n => @H.rec (fun _ => Bool) (fun _ m => Nat.ble n m) h') h
/-- numbers are not taken back -/
def ckC (o : OpC) : OpC := fun c e f h k => o c e f h fun e' h' => ifB (nxle h h') (k e' h') (.stuck "nx")
/- a region that draws its order: the heaps ahead of each operation that writes or calls are kept -/
def runD (l : List (Bool × OpC)) : CallT → Ev → Fr → H → List H → (Ev → H → List H → Out) → Out :=
  List.rec (motive := fun _ => CallT → Ev → Fr → H → List H → (Ev → H → List H → Out) → Out) (fun _ e _ h hs k => k e h hs)
    (fun o _ ih c e f h hs k => o.2 c e f h fun e' h' => ih c e' f h' (@Bool.rec (fun _ => List H) hs (h :: hs) o.1) k) l
def nthH (l : List H) : Nat → (H → Out) → Out → Out :=
  List.rec (motive := fun _ => Nat → (H → Out) → Out → Out) (fun _ _ els => els) (fun a _ ih k f els => @Nat.rec (fun _ => Out) (f a) (fun k _ => ih k f els) k) l
/-- an operation that reads: at these heaps it must read the same -/
structure Chk where
  drop : Nat
  idx : Nat
  ats : List Nat
  op : OpC
def chkAt (op : OpC) (c : CallT) (e' : Ev) (f : Fr) (v : V) (hs : List H) (ats : List Nat) : Out → Out :=
  List.rec (motive := fun _ => Out → Out) (fun o => o)
    (fun j _ ih o => nthH hs j (fun h => op c e' f h fun e'' _ => ifB (sameA (nthV e'' 0) v) (ih o) (.stuck "draw")) (.stuck "draw")) ats
def chk1 (k : Chk) (c : CallT) (e : Ev) (f : Fr) (hs : List H) (o : Out) : Out :=
  @Chk.rec (fun _ => Out) (fun drop idx ats op => chkAt op c (drp e drop) f (nthV e idx) hs ats o) k
def chksK (l : List Chk) (c : CallT) (e : Ev) (f : Fr) (hs : List H) (o : Out) : Out :=
  List.rec (motive := fun _ => Out) o (fun k _ ih => chk1 k c e f hs ih) l
end
end Go.Kx
namespace Go.Kx
noncomputable section

inductive AO where
  | env (l : Nat)
  | slot (k : Nat)
  | const (v : V)
inductive Nm where
  | val (a : AO)
  | tup (l : List AO)
abbrev Names := List (Nat × Nm)
structure Lay where
  /-- which temporaries lie in the frame, and where -/
  ents : List (Nat × Nat)
  total : Nat

def lk {α : Type} (l : List (Nat × α)) (t : Nat) : Option α :=
  List.rec (motive := fun _ => Option α) none (fun a _ ih => @Bool.rec (fun _ => Option α) ih (some a.2) (Nat.beq a.1 t)) l

/- constants -/
/-- an integer cell -/
def mkV (k : IntKind) (z : Int) : V := match k with | .i64 => (match z with | .ofNat m => .n m | z => .int .i64 z) | k => .int k z
def ofCell (v : Value) : V :=
  match v with
  | .bool b => Bool.rec .ff .tt b
  | .int k n => mkV k n
  | .string s => .str s.size (mapL UInt8.toNat s.data.toList)
  | .pointer none => .nilp
  | .slice none 0 0 => .nils
  | .map none => .nilm
  | .nilFunc => .nilf
  | .nilIface => .nili
  | _ => .junk
def ofValue (v : Value) : V :=
  match v with
  | .agg cs => .agg (mapL ofCell cs.toList)
  | v => ofCell v

def resolve (nm : Names) (lay : Lay) (x : Operand) : Option Nm :=
  match x with
  | .const v => some (.val (.const (ofValue v)))
  | .func f => some (.val (.const (.func f [])))
  | .global _ => none
  | .tmp t => match lk nm t with
    | some m => some m
    | none => match lk lay.ents t with
      | some p => some (.val (.slot p))
      | none => none

section emit
variable {β : Type}
def forceS {β : Type} (n : Nat) (f : Nat → β) : β := Nat.rec (f 0) (fun j _ => f (Nat.succ j)) n
def withG (d : Nat) (a : AO) (K : Gt → β) : β :=
  match a with
  | .env l => forceS (Nat.sub (Nat.sub d 1) l) fun k => K (envG k)
  | .slot k => forceS k fun k => K (slotG k)
  | .const v => K (constG v)
end emit

section
variable (P : Program)
def sz (t : TypeId) : Nat := P.cellsOf t
def aggT (t : TypeId) : Bool := match P.underlying t with | some (.struct _) => true | some (.array _ _) => true | _ => false
def zeroOf (t : TypeId) : Option (List V) := match P.info? t with | some i => (match i.zero with | some v => some (mapL ofCell v.cells.toList) | none => none) | none => none
def fieldOf (t : TypeId) (f : Nat) : Option Field := match P.underlying t with | some (.struct fs) => fs[f]? | _ => none
/-- a type that is known, of one cell at least -/
def okT (t : TypeId) : Bool := (P.underlying t).isSome && !Nat.beq (sz P t) 0
def intT (t : TypeId) : Bool := match P.underlying t with | some (.int _) => true | _ => false
def withT {β : Type} (t : TypeId) (els : β) (F : Nat → β) : β := bif okT P t then forceS (sz P t) F else els
/-- the zero value of a type that is no struct -/
def zero1 (t : TypeId) : Option V := match P.info? t with | some i => (match i.zero with | some (.agg _) => none | some (.tuple _) => none | some v => some (ofCell v) | none => none) | none => none
/-- how many values a function is given (with what it captures); how many it gives -/
def arity (g : FuncId) (n : Nat) (rs : Nat) (caps : Nat) : Bool :=
  match P.funcs[g]? with
  | some fn => @Bool.rec (fun _ => Bool) false (@Bool.rec (fun _ => Bool) false (Nat.beq fn.results.size rs) (Nat.beq fn.params.size n)) (Nat.beq fn.nfree caps)
  | none => false
def methodOf (t : TypeId) (name : String) : Option FuncId :=
  match P.info? t with
  | some i => (match i.methods.find? (·.name == name) with
    | some m => (match m.func with
      | some (g, true) => bif m.path.isEmpty then (match P.underlying t with | some (.pointer _) => some g | _ => none) else none
      | _ => none)
    | none => none)
  | none => none
def methodSig (t : TypeId) (name : String) (n rs : Nat) : Option FuncId :=
  match methodOf P t name with
  | some g => bif arity P g (Nat.succ n) rs 0 then some g else none
  | none => none
def ptrVs (l : List (Nat × Nat)) : List V := mapL (fun p => V.ptr p.1 p.2) l
def dynC (pos : String) (n rs : Nat) (gx : Gt) (gs : List Gt) : OpC := fun c e f h k =>
  onFunc (gx e f) (fun g caps => ifB (arity P g n rs (len caps)) (c g (app (gets gs e f) (ptrVs caps)) h fun l h => k (pushL l e) h) (.stuck pos))
    (fun g i o => ifB (arity P g (Nat.succ n) rs 0) (c g (.ptr i o :: gets gs e f) h fun l h => k (pushL l e) h) (.stuck pos)) (.stuck pos)
def optF (o : Option FuncId) (f : FuncId → Out) (els : Out) : Out := @Option.rec FuncId (fun _ => Out) els f o
def invC (pos : String) (name : String) (n rs : Nat) (gx : Gt) (gs : List Gt) : OpC := fun c e f h k =>
  onIface (gx e f) (fun t i o => optF (methodSig P t name n rs) (fun g => c g (.ptr i o :: gets gs e f) h fun l h => k (pushL l e) h) (.stuck pos)) (.stuck pos)
def envsFrom (n : Nat) : Nat → List AO := Nat.rec (motive := fun _ => Nat → List AO) (fun _ => []) (fun _ ih p => .env p :: ih (Nat.succ p)) n
/-- so many results, from a level on -/
def resNm (rs : Nat) (d : Nat) : Nm := match rs with | 1 => .val (.env d) | n => .tup (envsFrom n d)
/-- where a part of a literal lies; its size (none: one cell that is no struct) -/
def place1 (off : Nat) (u : TypeId) : Option (Nat × Option Nat) :=
  bif okT P u then (bif aggT P u then some (off, some (sz P u)) else bif Nat.beq (sz P u) 1 then some (off, none) else none) else none
def placesOf (t : TypeId) : Option (Nat → Option (Nat × Option Nat)) :=
  match P.underlying t with
  | some (.struct fs) => bif fs.toList.all (fun f => (P.info? f.type).isSome) then some fun i => (match fs[i]? with | some fl => place1 P fl.offset fl.type | none => none) else none
  | some (.array _ e) => bif (P.info? e).isSome then some fun i => place1 P (Nat.mul i (sz P e)) e else none
  | _ => none

section em
variable {β : Type} (o : Oper) (nm : Names) (lay : Lay) (d : Nat)
abbrev Kt (β : Type) := Option OpC → Nat → Nm → β
def oneN : Nm := .val (.env d)
def unN : Nm := .val (.const .un)
def bad (K : Kt β) : β := K (some (stuckC o.pos)) 1 (oneN d)
def sc (x : Operand) (els : β) (F : Gt → β) : β :=
  match resolve nm lay x with
  | some (.val a) => withG d a F
  | _ => els
def scs (l : List Operand) : β → (List Gt → β) → β :=
  List.rec (motive := fun _ => β → (List Gt → β) → β) (fun _ F => F []) (fun x _ ih els F => sc nm lay d x els fun g => ih els fun gs => F (g :: gs)) l
/-- the parts of a literal -/
def partsOf (pl : Nat → Option (Nat × Option Nat)) (total : Nat) (parts : List (Nat × Operand)) : β → (List ((Nat × Option Nat) × Gt) → β) → β :=
  List.rec (motive := fun _ => β → (List ((Nat × Option Nat) × Gt) → β) → β) (fun _ F => F [])
    (fun p _ ih els F => match pl p.1 with
      | some (off, s) => bif Nat.ble (Nat.add off (match s with | some n => n | none => 1)) total then sc nm lay d p.2 els fun g => forceS off fun off => ih els fun l => F (((off, s), g) :: l) else els
      | none => els) parts
def repVs (n : Nat) (z : List V) : List V := repV n z
def int2 (q : Q2) (g : I2) (x y : Operand) (K : Kt β) : β :=
  sc nm lay d x (bad o d K) fun gx => sc nm lay d y (bad o d K) fun gy => K (some (intC o.pos q g gx gy)) 1 (oneN d)
def sc2 (g : P2) (x y : Operand) (K : Kt β) : β :=
  sc nm lay d x (bad o d K) fun gx => sc nm lay d y (bad o d K) fun gy => K (some (bin1C o.pos g gx gy)) 1 (oneN d)
def sc1 (g : P1) (x : Operand) (K : Kt β) : β :=
  sc nm lay d x (bad o d K) fun gx => K (some (un1C o.pos g gx)) 1 (oneN d)
def rd1 (g : V → H → KV → Out → Out) (x : Operand) (K : Kt β) : β :=
  sc nm lay d x (bad o d K) fun gx => K (some (rd1C o.pos g gx)) 1 (oneN d)
def isConst (x : Operand) : Bool := match x with | .const _ => true | _ => false
/-- how a cell of a type is compared -/
def eqCellKind (t : TypeId) : Option E2 :=
  match P.underlying t with
  | some .bool => some eqBool
  | some (.int _) => some eqInt
  | some .string => some eqStr
  | _ => none
def fieldKinds (l : List Field) : Nat → Option (List E2) :=
  List.rec (motive := fun _ => Nat → Option (List E2)) (fun _ => some [])
    (fun f _ ih n => bif Nat.beq f.offset n && (f.name != "_") then (match eqCellKind P f.type with | some g => (match ih (Nat.succ n) with | some l => some (g :: l) | none => none) | none => none) else none) l
def eqKind (t : TypeId) (td : TypeDesc) (cst : Bool) : Option E2 :=
  match td with
  | .bool => some eqBool
  | .pointer e => bif Nat.beq (sz P e) 0 then none else some eqPtr
  | .slice _ => some eqSl
  | .map _ _ => some eqMap
  | .func _ _ _ => some eqFn
  | .interface _ => bif cst then some eqIf else none
  | .struct fs => bif P.stoodInHeld t then none else (match fieldKinds P fs.toList 0 with | some gs => some (eqAgg gs) | none => none)
  | _ => none
def emBin (op : BinOp) (t : TypeId) (x y : Operand) (K : Kt β) : β :=
  match P.underlying t with
  | some (.int _) =>
    (match op with
    | .add => int2 o nm lay d addQ addI x y K | .sub => int2 o nm lay d subQ subI x y K | .mul => int2 o nm lay d mulQ mulI x y K
    | .quo => int2 o nm lay d quoQ quoI x y K | .rem => int2 o nm lay d remQ remI x y K
    | .and => int2 o nm lay d noQ andI x y K | .or => int2 o nm lay d noQ orI x y K | .xor => int2 o nm lay d noQ xorI x y K | .andNot => int2 o nm lay d noQ andNotI x y K
    | .shl => sc2 o nm lay d shlP x y K | .shr => sc2 o nm lay d shrP x y K
    | .eql => int2 o nm lay d eqQ eqI x y K | .neq => int2 o nm lay d neQ neI x y K | .lss => int2 o nm lay d ltQ ltI x y K
    | .leq => int2 o nm lay d leQ leI x y K | .gtr => int2 o nm lay d gtQ gtI x y K | .geq => int2 o nm lay d geQ geI x y K)
  | some .string =>
    (match op with
    | .add => sc2 o nm lay d catP x y K | .eql => sc2 o nm lay d (strP eqS) x y K | .neq => sc2 o nm lay d (strP neS) x y K
    | .lss => sc2 o nm lay d (strP ltS) x y K | .leq => sc2 o nm lay d (strP leS) x y K | .gtr => sc2 o nm lay d (strP gtS) x y K | .geq => sc2 o nm lay d (strP geS) x y K
    | _ => bad o d K)
  | some (.float _) => bad o d K
  | some (.complex _) => bad o d K
  | some td => (match eqKind P t td (isConst x || isConst y) with
    | some g => (match op with | .eql => sc2 o nm lay d (eqP g false) x y K | .neq => sc2 o nm lay d (eqP g true) x y K | _ => bad o d K)
    | none => bad o d K)
  | none => bad o d K
def bndO (x : Option Operand) (els : β) (F : Option Gt → β) : β :=
  match x with | none => F none | some x => sc nm lay d x els fun g => F (some g)
def ut (t : Option TypeId) : Option TypeDesc := t.bind P.underlying
def emBuiltin (b : Builtin) (c : Call) (K : Kt β) : β :=
    (match b with
    | .len => (match c.args.toList with
      | x :: _ => (match ut P c.argTypes[0]? with
        | some .string => sc1 o nm lay d lenStrP x K
        | some (.slice _) => sc1 o nm lay d lenP x K
        | some (.map _ _) => rd1 o nm lay d lenMH x K
        | some (.array n _) => K none 0 (.val (.const (.n n)))
        | _ => bad o d K)
      | [] => bad o d K)
    | .cap => (match c.args.toList with
      | x :: _ => (match ut P c.argTypes[0]? with | some (.slice _) => sc1 o nm lay d capP x K | _ => bad o d K)
      | [] => bad o d K)
    | .min => (match c.args.toList with | x :: l => sc nm lay d x (bad o d K) fun gx => scs nm lay d l (bad o d K) fun gs => K (some (foldC o.pos minP gx gs)) 1 (oneN d) | [] => bad o d K)
    | .max => (match c.args.toList with | x :: l => sc nm lay d x (bad o d K) fun gx => scs nm lay d l (bad o d K) fun gs => K (some (foldC o.pos maxP gx gs)) 1 (oneN d) | [] => bad o d K)
    | .append => (match c.args.toList with
      | s :: x :: _ => (match ut P c.argTypes[0]? with
        | some (.slice e) => sc nm lay d s (bad o d K) fun gs => sc nm lay d x (bad o d K) fun gx => (match ut P c.argTypes[1]? with
          | some u => (match zeroOf P e with
            | some z => withT P e (bad o d K) fun n => bif Nat.beq (len z) n then (forceS (Nat.succ (Nat.mul 2 (P.bytesOf e))) fun bb =>
                (match u with
                | .int _ => K (some (ch2C o.pos (appZH n bb z) gs gx)) 1 (oneN d)
                | .slice _ => K (some (ch2C o.pos (appH n bb) gs gx)) 1 (oneN d)
                | .string => K (some (ch2C o.pos (appH n bb) gs gx)) 1 (oneN d)
                | _ => bad o d K)) else bad o d K
            | none => bad o d K)
          | none => bad o d K)
        | _ => bad o d K)
      | _ => bad o d K)
    | .copy => (match c.args.toList with
      | t :: s :: _ => (match ut P c.argTypes[0]? with
        | some (.slice e) => sc nm lay d t (bad o d K) fun gd => sc nm lay d s (bad o d K) fun gs => withT P e (bad o d K) fun n => K (some (ch2C o.pos (copyH n) gd gs)) 1 (oneN d)
        | _ => bad o d K)
      | _ => bad o d K)
    | .clear => (match c.args.toList with
      | x :: _ => (match ut P c.argTypes[0]? with
        | some (.slice e) => (match zeroOf P e with | some z => sc nm lay d x (bad o d K) fun gx => withT P e (bad o d K) fun n => bif Nat.beq (len z) n then K (some (ch1C o.pos (clearH n z) gx)) 0 unN else bad o d K | none => bad o d K)
        | _ => bad o d K)
      | [] => bad o d K)
    | .delete => (match c.args.toList with
      | m :: k :: _ => (match ut P c.argTypes[0]? with
        | some (.map kt _) => bif intT P kt then sc nm lay d m (bad o d K) fun gm => sc nm lay d k (bad o d K) fun gk => K (some (ch2C o.pos delH gm gk)) 0 unN else bad o d K
        | _ => bad o d K)
      | _ => bad o d K)
    | _ => bad o d K)
def emCall (c : Call) (K : Kt β) : β :=
  let rs : Nat := match P.underlying o.type with | some (.tuple ts) => ts.size | _ => 1
  match c.callee with
  | .value (.func g) => scs nm lay d c.args.toList (bad o d K) fun gs =>
      bif arity P g c.args.size rs 0 then forceS rs fun rs => K (some (callC g gs)) rs (resNm rs d) else bad o d K
  | .value x => sc nm lay d x (bad o d K) fun gx => scs nm lay d c.args.toList (bad o d K) fun gs =>
      forceS rs fun rs => forceS c.args.size fun n => K (some (dynC P o.pos n rs gx gs)) rs (resNm rs d)
  | .invoke x name => sc nm lay d x (bad o d K) fun gx => scs nm lay d c.args.toList (bad o d K) fun gs =>
      forceS rs fun rs => forceS c.args.size fun n => K (some (invC P o.pos name n rs gx gs)) rs (resNm rs d)
  | .builtin b => emBuiltin P o nm lay d b c K
def emConv (s t : TypeId) (x : Operand) (K : Kt β) : β :=
  match P.underlying s with
  | some (.int _) => (match P.underlying t with | some (.int k) => sc1 o nm lay d (convP k) x K | _ => bad o d K)
  | some .string => (match P.underlying t with
    | some .string => (match resolve nm lay x with | some (.val a) => withG d a fun g => K (some (chkC o.pos isStr g idC)) 0 (.val a) | _ => bad o d K)
    | some (.slice e) => (match P.underlying e with | some (.int .u8) => sc nm lay d x (bad o d K) fun gx => K (some (bytesC o.pos gx)) 1 (oneN d) | _ => bad o d K)
    | _ => bad o d K)
  | some (.slice e) => (match P.underlying e with
    | some (.int .u8) => (match P.underlying t with
      | some .string => rd1 o nm lay d strH x K
      | some (.slice _) => bif Nat.beq s t then sc nm lay d x (bad o d K) fun gx => K (some (ch1C o.pos markH gx)) 1 (oneN d) else bad o d K
      | _ => bad o d K)
    | _ => bad o d K)
  | _ => bad o d K
def emit (K : Kt β) : β :=
  match o.op with
  | .move x => (match resolve nm lay x with | some m => K none 0 m | none => bad o d K)
  | .assign x => (match resolve nm lay x with | some m => K none 0 m | none => bad o d K)
  | .pick c a b => sc nm lay d c (bad o d K) fun gc => sc nm lay d a (bad o d K) fun ga => sc nm lay d b (bad o d K) fun gb => K (some (pickC o.pos gc ga gb)) 1 (oneN d)
  | .alloc t => (match zeroOf P t with | some z => K (some (allocC (ofCells (len z) z))) 1 (oneN d) | none => bad o d K)
  | .box t x => sc nm lay d x (bad o d K) fun gx => (bif aggT P t then K (some (boxC o.pos (sz P t) gx)) 1 (oneN d) else K (some (box1C o.pos gx)) 1 (oneN d))
  | .build t parts => (match zeroOf P t with
    | some z => (match placesOf P t with
      | some pl => partsOf nm lay d pl (len z) parts.toList (bad o d K) fun ps => K (some (buildC o.pos z ps)) 1 (oneN d)
      | none => bad o d K)
    | none => bad o d K)
  | .buildSlice t ln parts => (match P.underlying t with
    | some (.slice e) => (match zeroOf P e with
      | some z => withT P e (bad o d K) fun s => bif Nat.ble (Nat.mul ln s) 16777216 && Nat.beq (len z) s then (forceS (Nat.mul ln s) fun n => partsOf nm lay d (fun i => place1 P (Nat.mul i s) e) n parts.toList (bad o d K) fun ps => K (some (litC o.pos n ln (repV ln z) ps)) 1 (oneN d)) else bad o d K
      | none => bad o d K)
    | _ => bad o d K)
  | .load t a => withT P t (bad o d K) fun n => (bif aggT P t then rd1 o nm lay d (loadH n) a K else rd1 o nm lay d load1H a K)
  | .store t a x => withT P t (bad o d K) fun n => sc nm lay d a (bad o d K) fun ga => sc nm lay d x (bad o d K) fun gx => (bif aggT P t then K (some (ch2C o.pos (storeH n) ga gx)) 0 unN else bif Nat.beq n 1 then K (some (ch2C o.pos store1H ga gx)) 0 unN else bad o d K)
  | .nilCheck x => (match resolve nm lay x with
    | some (.val a) => withG d a fun gx => K (some (chkC o.pos isRef gx idC)) 0 (.val a)
    | _ => bad o d K)
  | .binOp op t x y _ => emBin P o nm lay d op t x y K
  | .unOp .not _ x => sc1 o nm lay d notP x K
  | .unOp .neg _ x => sc1 o nm lay d negP x K
  | .convert s t x => emConv P o nm lay d s t x K
  | .makeInterface t x => (match P.underlying t with | some (.pointer _) => sc1 o nm lay d (ifaceP t) x K | _ => bad o d K)
  | .makeFunc (.func g) ⟨[]⟩ caps => scs nm lay d caps.toList (bad o d K) fun gs => K (some (funcC o.pos g gs)) 1 (oneN d)
  | .makeFunc (.func g) ⟨[x]⟩ ⟨[]⟩ => sc nm lay d x (bad o d K) fun gx => K (some (mfuncC o.pos g gx)) 1 (oneN d)
  | .makeMap _ none => K (some mapC) 1 (oneN d)
  | .makeMap t (some (.const (.int _ _))) => (match P.underlying t with | some (.map _ _) => K (some mapC) 1 (oneN d) | _ => bad o d K)
  | .makeSlice t l c => (match P.underlying t with
    | some (.slice e) => (match zeroOf P e with | some z => withT P e (bad o d K) fun n => bif Nat.beq (len z) n then (sc nm lay d l (bad o d K) fun gl => sc nm lay d c (bad o d K) fun gc => forceS (Nat.succ (P.bytesOf e)) fun bb => K (some (makeC o.pos n bb z gl gc)) 1 (oneN d)) else bad o d K | none => bad o d K)
    | _ => bad o d K)
  | .slice t x lo hi mx => sc nm lay d x (bad o d K) fun gx => bndO nm lay d lo (bad o d K) fun gl => bndO nm lay d hi (bad o d K) fun gh => bndO nm lay d mx (bad o d K) fun gm =>
    (match P.underlying t with
    | some (.slice e) => withT P e (bad o d K) fun n => (match gm with | none => K (some (sliceC o.pos n gx gl gh)) 1 (oneN d) | some m => (match gh with | some gk => K (some (slice3C o.pos n gx gl (some gk) m)) 1 (oneN d) | none => bad o d K))
    | some .string => (match gm with | none => K (some (sliceStrC o.pos gx gl gh)) 1 (oneN d) | some _ => bad o d K)
    | _ => bad o d K)
  | .fieldAddr t x i => (match fieldOf P t i with
    | some fl => bif Nat.beq (sz P fl.type) 0 then bad o d K else forceS fl.offset fun off => sc1 o nm lay d (fieldP off) x K
    | none => bad o d K)
  | .field t x i => (match fieldOf P t i with
    | some fl => forceS fl.offset fun off => withT P fl.type (bad o d K) fun n => bif aggT P fl.type || Nat.beq n 1 then sc1 o nm lay d (fieldVP (aggT P fl.type) off n) x K else bad o d K
    | none => bad o d K)
  | .indexAddr t x ix => (match P.underlying t with
    | some (.slice e) => withT P e (bad o d K) fun n => sc2 o nm lay d (idxSP n) x ix K
    | some (.array ln e) => withT P e (bad o d K) fun n => sc2 o nm lay d (idxAP ln n) x ix K
    | _ => bad o d K)
  | .index t x ix => (match P.underlying t with
    | some (.array ln e) => withT P e (bad o d K) fun n => bif aggT P e || !Nat.beq n 1 then bad o d K else sc2 o nm lay d (idxVP ln) x ix K
    | some .string => sc2 o nm lay d idxStrP x ix K
    | _ => bad o d K)
  | .lookup t m k ok => (match P.underlying t with
    | some (.map kt e) => (match zero1 P e with
      | some z => bif intT P kt then sc nm lay d m (bad o d K) fun gm => sc nm lay d k (bad o d K) fun gk =>
          K (some (lookC o.pos ok z gm gk)) (bif ok then 2 else 1) (bif ok then .tup [.env d, .env (Nat.succ d)] else oneN d) else bad o d K
      | none => bad o d K)
    | _ => bad o d K)
  | .mapUpdate t m k v => (match P.underlying t with
    | some (.map kt _) => bif intT P kt then sc nm lay d m (bad o d K) fun gm => sc nm lay d k (bad o d K) fun gk => sc nm lay d v (bad o d K) fun gv => K (some (ch3C o.pos updH gm gk gv)) 0 unN else bad o d K
    | _ => bad o d K)
  | .extract x i => (match resolve nm lay x with
    | some (.tup l) => (match l[i]? with | some a => K none 0 (.val a) | none => bad o d K)
    | _ => bad o d K)
  | .call c => emCall P o nm lay d c K
  | _ => bad o d K
end em

/-- what an operation does: 0 it reckons, 1 it reads, 2 it makes memory, 3 it writes or calls -/
def clsOf (o : Op) : Nat :=
  match o with
  | .load _ _ => 1
  | .slice _ _ _ _ _ => 1
  | .lookup _ _ _ _ => 1
  | .alloc _ => 2
  | .box _ _ => 2
  | .buildSlice _ _ _ => 2
  | .makeSlice _ _ _ => 2
  | .makeMap _ _ => 2
  | .convert s t _ => (match P.underlying s with
    | some .string => (match P.underlying t with | some .string => 0 | _ => 2)
    | some (.slice _) => (match P.underlying t with | some .string => 1 | _ => 3)
    | _ => 0)
  | .store _ _ _ => 3
  | .mapUpdate _ _ _ _ => 3
  | .call c => (match c.callee with
    | .builtin b => (match b with
      | .len => (match ut P c.argTypes[0]? with | some (.map _ _) => 1 | _ => 0)
      | .cap => 0
      | .min => 0
      | .max => 0
      | _ => 3)
    | _ => 3)
  | _ => 0
/-- one operation of a region, compiled: its number in the region, its kind, the level of its value -/
structure RE where
  i : Nat
  cls : Nat
  lvl : Nat
  /-- it gives one value -/
  one : Bool
  op : OpC
/-- a region, compiled -/
structure RP where
  ops : List RE
  names : Names
  d : Nat
def RP.cons (o : RE) (r : RP) : RP := RP.rec (fun ops names d => ⟨o :: ops, names, d⟩) r
def bindN (dst : Option Nat) (m : Nm) (nm : Names) : Names := match dst with | some t => (t, m) :: nm | none => nm
def mkRE (i cls d : Nat) (one : Bool) (c : OpC) : RE := ⟨i, cls, d, one, @Bool.rec (fun _ => OpC) c (ckC c) (Nat.ble 3 cls)⟩
/-- an operation that is not compiled -/
def badRE (i d : Nat) (o : Oper) : RE := ⟨i, 3, d, false, stuckC o.pos⟩
def topC (oc : Option OpC) (g : Gt) : OpC := match oc with | none => mvC [g] | some c => seqC c (mvC [g])
/-- an operation with a guard that gives a value -/
def compG (i : Nat) (o : Oper) (nm : Names) (d : Nat) (next : Names → Nat → RP) (gg : Gt) (want : Bool) (t : Nat) (oc : Option OpC) (n : Nat) (a : AO) : RP :=
  bif Nat.beq n 0 then
    withG d a fun g => forceS (Nat.succ d) fun d' => .cons (mkRE i (clsOf P o.op) d (true) (grdC o.pos gg want 1 (topC oc g))) (next ((t, .val (.env d)) :: nm) d')
  else (match oc with
    | some c => (match a with
      | .env l => bif Nat.beq l d && Nat.beq n 1 then forceS (Nat.succ d) fun d' => .cons (mkRE i (clsOf P o.op) d (true) (grdC o.pos gg want 1 c)) (next ((t, .val (.env d)) :: nm) d') else .cons (badRE i d o) (next nm d)
      | _ => .cons (badRE i d o) (next nm d))
    | none => .cons (badRE i d o) (next nm d))
/-- an operation with a guard -/
def compW (i : Nat) (o : Oper) (nm : Names) (d : Nat) (next : Names → Nat → RP) (want : Bool) (oc : Option OpC) (n : Nat) (m : Nm) (gg : Gt) : RP :=
  match o.dst with
  | none => (match oc with
    | none => next nm d
    | some c => forceS n fun n => forceS (Nat.add d n) fun d' => .cons (mkRE i (clsOf P o.op) d (Nat.beq n 1) (grdC o.pos gg want n c)) (next nm d'))
  | some t => (match m with
    | .tup _ => .cons (badRE i d o) (next nm d)
    | .val a => compG P i o nm d next gg want t oc n a)
def compK (all : Array Oper) (lay : Lay) (i : Nat) (o : Oper) (nm : Names) (d : Nat) (next : Names → Nat → RP) (oc : Option OpC) (n : Nat) (m : Nm) : RP :=
  match o.guard with
  | none => (match oc with
    | none => next (bindN o.dst m nm) d
    | some c => forceS (Nat.add d n) fun d' => .cons (mkRE i (clsOf P o.op) d (Nat.beq n 1) (c)) (next (bindN o.dst m nm) d'))
  | some (j, want) => (match (all[j]?).bind (·.dst) with
    | none => .cons (badRE i d o) (next nm d)
    | some t => sc nm lay d (.tmp t) (.cons (badRE i d o) (next nm d)) (compW P i o nm d next want oc n m))
/-- one operation, then the others -/
def comp1 (all : Array Oper) (lay : Lay) (i : Nat) (o : Oper) (nm : Names) (d : Nat) (next : Names → Nat → RP) : RP := emit P o nm lay d (compK P all lay i o nm d next)
def compL (all : Array Oper) (lay : Lay) (l : List Oper) : Nat → Names → Nat → RP :=
  List.rec (motive := fun _ => Nat → Names → Nat → RP) (fun _ nm d => ⟨[], nm, d⟩) (fun o _ ih i nm d => comp1 P all lay i o nm d (ih (Nat.succ i))) l
/-- what the frame is given at the region's end -/
def commits (nm : Names) (d : Nat) (ents : List (Nat × Nat)) : Option (List (Nat × Gt)) :=
  List.rec (motive := fun _ => Option (List (Nat × Gt))) (some [])
    (fun e _ ih => match lk nm e.1 with
      | none => ih
      | some (.val a) => (match ih with | some l => withG d a fun g => some ((e.2, g) :: l) | none => none)
      | some (.tup _) => none) ents
def commitF (l : List (Nat × Gt)) (e : Ev) (f : Fr) : Fr → Fr :=
  List.rec (motive := fun _ => Fr → Fr) (fun a => a) (fun p _ ih a => ih (setV a p.1 (p.2 e f))) l
structure RC2 where
  ops : List RE
  com : List (Nat × Gt)
  names : Names
  d : Nat
def regOf (lay : Lay) (ops : Array Oper) : Option RC2 :=
  RP.rec (motive := fun _ => Option RC2) (fun l nm d => match commits nm d lay.ents with | some com => some ⟨l, com, nm, d⟩ | none => none) (compL P ops lay ops.toList 0 [] 0)
def opsOf (l : List RE) : List OpC := mapL (fun r => r.op) l
/- a region that draws: which operations come ahead of which ('b': a bit each) -/
def bitOf (b : Array Nat) (i j : Nat) : Bool := Nat.testBit (b.getD i 0) j
/-- the numbers of the operations that write or call -/
def chainOf (ops : List Oper) : Nat → List Nat :=
  List.rec (motive := fun _ => Nat → List Nat) (fun _ => []) (fun o _ ih i => @Bool.rec (fun _ => List Nat) (ih (Nat.succ i)) (i :: ih (Nat.succ i)) (Nat.beq (clsOf P o.op) 3)) ops
def inRow (b : Array Nat) : List Nat → Bool
  | i :: j :: l => bitOf b j i && inRow b (j :: l)
  | _ => true
def countB (p : Nat → Bool) (l : List Nat) : Nat := List.rec (motive := fun _ => Nat) 0 (fun i _ ih => @Bool.rec (fun _ => Nat) ih (Nat.succ ih) (p i)) l
def leadB (p : Nat → Bool) (l : List Nat) : Nat := List.rec (motive := fun _ => Nat) 0 (fun i _ ih => @Bool.rec (fun _ => Nat) 0 (Nat.succ ih) (p i)) l
/-- m - lo, .., m - hi -/
def atsOf (m lo hi : Nat) : List Nat := Nat.rec (motive := fun _ => List Nat) [Nat.sub m lo] (fun k ih => Nat.sub m (Nat.add lo (Nat.succ k)) :: ih) (Nat.sub hi lo)
def chkOf (b : Array Nat) (ch : List Nat) (d : Nat) (r : RE) : Chk :=
  ⟨Nat.sub d r.lvl, Nat.sub (Nat.sub d 1) r.lvl, atsOf (len ch) (countB (fun c => bitOf b r.i c) ch) (leadB (fun c => Bool.not (bitOf b c r.i)) ch), @Bool.rec (fun _ => OpC) (stuckC "draw") r.op r.one⟩
def chksOf (b : Array Nat) (ch : List Nat) (d : Nat) (l : List RE) : List Chk :=
  List.rec (motive := fun _ => List Chk) [] (fun r _ ih => @Bool.rec (fun _ => List Chk) ih (chkOf b ch d r :: ih) (Nat.beq r.cls 1)) l
/-- may its operations be taken in the order of the text, if the checks hold? -/
def drawOk (ops : Array Oper) : Bool := inRow (Region.before ops) (chainOf P ops.toList 0)
def marked (l : List RE) : List (Bool × OpC) := mapL (fun r => (Nat.beq r.cls 3, r.op)) l

abbrev Runner := CallT → Fr → H → Out
/-- what follows an ordinary end -/
def thenK (o : Out) (k : Fr → H → Out) : Out :=
  @Out.rec (fun _ => Out) (fun w => .stuck w) (fun e f h => @X.rec (fun _ => Out) (k f h) (fun i => .out (.exit i) f h) (fun l => .out (.goto l) f h) (.out .ret f h) e) (fun l h => .res l h) o
def blockK (id : Nat) (o : Out) : Out :=
  @Out.rec (fun _ => Out) (fun w => .stuck w) (fun e f h => @X.rec (fun _ => Out) (.out .normal f h) (fun i => ifB (Nat.beq i id) (.out .normal f h) (.out (.exit i) f h)) (fun l => .out (.goto l) f h) (.out .ret f h) e) (fun l h => .res l h) o
def gotoK (o : Out) (k : Nat → Fr → H → Out) : Out :=
  @Out.rec (fun _ => Out) (fun w => .stuck w) (fun e f h => @X.rec (fun _ => Out) (.out .normal f h) (fun i => .out (.exit i) f h) (fun l => k l f h) (.out .ret f h) e) (fun l h => .res l h) o
/-- at a function's end -/
def endK (o : Out) (k : Fr → H → Out) : Out :=
  @Out.rec (fun _ => Out) (fun w => .stuck w) (fun e f h => @X.rec (fun _ => Out) (k f h) (fun _ => .stuck "exit") (fun _ => .stuck "goto") (k f h) e) (fun _ _ => .stuck "res") o
def loopN (fuel : Nat) (body : Fr → H → Out) : Fr → H → Out :=
  Nat.rec (motive := fun _ => Fr → H → Out) (fun _ _ => .stuck "loop fuel") (fun _ ih f h => thenK (body f h) ih) fuel
def hasLabel : Code → Nat → Bool
  | .seq a b, l => hasLabel a l || hasLabel b l
  | .label l', l => l' == l
  | _, _ => false
def scopeN (fuel : Nat) (has : Nat → Bool) (frm : Nat → Fr → H → Out) : Out → Out :=
  Nat.rec (motive := fun _ => Out → Out) (fun _ => .stuck "scope fuel")
    (fun _ ih o => gotoK o fun l f h => ifB (has l) (ih (frm l f h)) (.out (.goto l) f h)) fuel
def bigFuel : Nat := 1000000000

def stuckR (w : String) : Runner := fun _ _ _ => .stuck w
structure Both where
  run : Runner
  frm : Nat → Runner
  /-- where the code begins with a test: its operand, and what follows on either side -/
  cnd : Option (Operand × Runner × Runner)
def noFrm : Nat → Runner := fun _ _ _ _ => .stuck "frm"
def andThen (a b : Runner) : Runner := fun c f h => thenK (a c f h) (b c)
def normR : Runner := fun _ f h => .out .normal f h
abbrev Fin := CallT → Ev → Fr → H → Out
def regC (ops : List OpC) (fin : Fin) : Runner := fun c f h => runL ops c [] f h fun e h => fin c e f h
def drawC (ops : List (Bool × OpC)) (chks : List Chk) (fin : Fin) : Runner := fun c f h => runD ops c [] f h [] fun e h hs => chksK chks c e f (h :: hs) (fin c e f h)
def finC (com : List (Nat × Gt)) (next : Runner) : Fin := fun c e f h => next c (commitF com e f f) h
def testK (com : List (Nat × Gt)) (g : Gt) (A B : Runner) : Fin := fun c e f h => onB (g e f) (A c (commitF com e f f) h) (B c (commitF com e f f) h) (.stuck "test")
/-- a region, and what comes behind it -/
def regR (ops : Array Oper) (draw : Bool) (l : List RE) (d : Nat) (fin : Fin) : Runner :=
  bif draw then (bif drawOk P ops then drawC (marked l) (chksOf (Region.before ops) (chainOf P ops.toList 0) d l) fin else stuckR "draw order") else regC (opsOf l) fin
def testC (g : Gt) (A B : Runner) : Runner := fun c f h => onB (g [] f) (A c f h) (B c f h) (.stuck "test")
def blockC (id : Nat) (b : Runner) : Runner := fun c f h => blockK id (b c f h)
def loopC (b : Runner) : Runner := fun c f h => loopN bigFuel (b c) f h
def scopeC (has : Nat → Bool) (b : Runner) (frm : Nat → Runner) : Runner := fun c f h => scopeN bigFuel has (fun l => frm l c) (b c f h)
def exitC (e : X) : Runner := fun _ f h => .out e f h
def cndThen (o : Option (Operand × Runner × Runner)) (b : Runner) : Option (Operand × Runner × Runner) :=
  match o with | some (x, A, B) => some (x, andThen A b, andThen B b) | none => none
def seqB (lay : Lay) (a : Code) (ia ib : Both) : Both :=
  match a with
  | .region _ ops draw => (match regOf P lay ops with
    | some ⟨l, com, nm, d⟩ => (match ib.cnd with
      | some (x, A, B) => sc nm lay d x ⟨stuckR "test", noFrm, none⟩ fun g => ⟨regR P ops draw l d (testK com g A B), ib.frm, none⟩
      | none => ⟨regR P ops draw l d (finC com ib.run), ib.frm, none⟩)
    | none => ⟨stuckR "region", ib.frm, none⟩)
  | a => ⟨andThen ia.run ib.run, (fun l => @Bool.rec (fun _ => Runner) (ib.frm l) (andThen (ia.frm l) ib.run) (hasLabel a l)), cndThen ia.cnd ib.run⟩
def sem (lay : Lay) (c : Code) : Both :=
  Code.rec (motive := fun _ => Both)
    (skip := ⟨normR, noFrm, none⟩)
    (region := fun _ ops draw => match regOf P lay ops with | some ⟨l, com, _, d⟩ => ⟨regR P ops draw l d (finC com normR), noFrm, none⟩ | none => ⟨stuckR "region", noFrm, none⟩)
    (seq := fun a _ ia ib => seqB P lay a ia ib)
    (cond := fun x _ _ ia ib => sc [] lay 0 x ⟨stuckR "cond", noFrm, some (x, ia.run, ib.run)⟩ fun g => ⟨testC g ia.run ib.run, noFrm, some (x, ia.run, ib.run)⟩)
    (block := fun id _ ib => ⟨blockC id ib.run, noFrm, none⟩)
    (loop := fun _ ib => ⟨loopC ib.run, noFrm, none⟩)
    (rangeFunc := fun _ _ _ _ _ _ => ⟨stuckR "rangeFunc", noFrm, none⟩)
    (exit := fun id => ⟨exitC (.exit id), noFrm, none⟩)
    (scope := fun b ib => ⟨scopeC (hasLabel b) ib.run ib.frm, noFrm, none⟩)
    (label := fun _ => ⟨normR, fun _ => normR, none⟩)
    (goto := fun l => ⟨exitC (.goto l), noFrm, none⟩)
    (ret := ⟨exitC .ret, noFrm, none⟩)
    (refuse := fun _ => ⟨stuckR "refuse", noFrm, none⟩) c

def frame0 (total : Nat) (as : List V) : Fr := app as (repV (Nat.sub total (len as)) [.junk])
/-- the results -/
abbrev ResR := Fr → H → KV → Out → Out
def resultOf (lay : Lay) (r : ResultVar) : ResR :=
  match r with
  | .tmp t => (match lk lay.ents t with | some p => fun f _ kk _ => kk (nthV f p) | none => fun _ _ _ st => st)
  | .cell a t => (match lk lay.ents a with
    | some p => bif okT P t then (bif aggT P t then (fun f h kk st => loadH (sz P t) (nthV f p) h kk st) else (fun f h kk st => load1H (nthV f p) h kk st)) else (fun _ _ _ st => st)
    | none => fun _ _ _ st => st)
abbrev ResL := Fr → H → KL → Out → Out
def resultsOf (l : List ResR) : ResL :=
  List.rec (motive := fun _ => ResL) (fun _ _ kk _ => kk []) (fun r _ ih f h kk st => r f h (fun v => ih f h (fun l => kk (v :: l)) st) st) l
/-- a function: its own text, or a law that is proved by hand -/
inductive FnC where
  | fn (np total : Nat) (run : Runner) (res : ResL)
  | prim (p : CallT)
variable (lays : FuncId → Lay) (prims : FuncId → Option CallT)
def fnOf (g : FuncId) : Option FnC :=
  match prims g with
  | some p => some (.prim p)
  | none => match P.funcs[g]? with
    | some fn => (match fn.body with
      | some c => (match lays g with | ⟨ents, total⟩ => (match sem P ⟨ents, total⟩ c with | ⟨run, _, _⟩ => some (.fn (Nat.add fn.params.size fn.nfree) total run (resultsOf (mapL (resultOf P ⟨ents, total⟩) fn.results.toList)))))
      | none => none)
    | none => none
def optFn (o : Option FnC) (f : FnC → Out) (els : Out) : Out := @Option.rec FnC (fun _ => Out) els f o
def fnK (x : FnC) (call : CallT) (g : FuncId) (as : List V) (h : H) (k : KH) : Out :=
  @FnC.rec (fun _ => Out) (fun np total run res => ifB (Nat.beq (len as) np) (endK (run call (frame0 total as) h) fun f h => res f h (fun l => k l h) (.stuck "results")) (.stuck "args")) (fun p => p g as h k) x
def callR (call : CallT) (g : FuncId) (as : List V) (h : H) (k : KH) : Out := optFn (fnOf P lays prims g) (fun x => fnK x call g as h k) (.stuck "no function")
def callN (n : Nat) : CallT :=
  Nat.rec (motive := fun _ => CallT) (fun _ _ _ _ => .stuck "fuel") (fun _ ih g as h k => callR P lays prims ih g as h k) n
def run0 (n : Nat) (g : FuncId) (as : List V) (h : H) : Out := callN P lays prims n g as h fun l h => .res l h
end
end
end Go.Kx
