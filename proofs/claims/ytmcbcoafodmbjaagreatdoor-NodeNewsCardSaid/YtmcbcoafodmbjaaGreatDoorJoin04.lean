/-
  Texts joined: Ex.
-/
import Derived.Test.YtmcbcoafodmbjaaGreatDoorJoin03
namespace Go.Proofs.YtmcbcoafodmbjaaGreatDoor.Ex
open Go
set_option linter.unusedVariables false
/-! ## A trie -/
inductive Tr (α : Type) where
  | leaf
  | node (v : Option α) (l r : Tr α)
noncomputable def Tr.get {α : Type} (t : Tr α) : Nat → Option α :=
  Tr.rec (motive := fun _ => Nat → Option α) (fun _ => none) (fun v _ _ ihl ihr k => cond (Nat.beq k 0) v (cond (Nat.beq (Nat.mod k 2) 1) (ihl (Nat.div k 2)) (ihr (Nat.pred (Nat.div k 2))))) t
noncomputable def Tr.setF {α : Type} (f : Nat) (t : Tr α) (k : Nat) (x : α) : Tr α :=
  Nat.rec (motive := fun _ => Tr α → Nat → Tr α) (fun t _ => t)
    (fun _ ih t k => Tr.casesOn (motive := fun _ => Tr α) t
      (cond (Nat.beq k 0) (.node (some x) .leaf .leaf) (cond (Nat.beq (Nat.mod k 2) 1) (.node none (ih .leaf (Nat.div k 2)) .leaf) (.node none .leaf (ih .leaf (Nat.pred (Nat.div k 2))))))
      (fun v l r => cond (Nat.beq k 0) (.node (some x) l r) (cond (Nat.beq (Nat.mod k 2) 1) (.node v (ih l (Nat.div k 2)) r) (.node v l (ih r (Nat.pred (Nat.div k 2))))))) f t k
noncomputable def Tr.set {α : Type} (t : Tr α) (k : Nat) (x : α) : Tr α := Tr.setF (Nat.succ k) t k x
noncomputable def lget {α : Type} (l : List α) : Nat → Option α :=
  List.rec (motive := fun _ => Nat → Option α) (fun _ => none) (fun x _ ih n => cond (Nat.beq n 0) (some x) (ih (Nat.pred n))) l
noncomputable def lset {α : Type} (l : List α) (n : Nat) (y : α) : List α :=
  List.rec (motive := fun _ => Nat → List α) (fun _ => []) (fun x l ih n => cond (Nat.beq n 0) (y :: l) (x :: ih (Nat.pred n))) l n
noncomputable def ldrop {α : Type} (n : Nat) (l : List α) : List α :=
  Nat.rec (motive := fun _ => List α → List α) (fun l => l) (fun _ ih l => List.casesOn (motive := fun _ => List α) l [] (fun _ t => ih t)) n l
noncomputable def ltake {α : Type} (n : Nat) (l : List α) : List α :=
  Nat.rec (motive := fun _ => List α → List α) (fun _ => []) (fun _ ih l => List.casesOn (motive := fun _ => List α) l [] (fun h t => h :: ih t)) n l
noncomputable def llen {α : Type} (l : List α) : Nat := List.rec (motive := fun _ => Nat) 0 (fun _ _ n => Nat.succ n) l
noncomputable def lapp {α : Type} (l m : List α) : List α := List.rec (motive := fun _ => List α) m (fun x _ ih => x :: ih) l
noncomputable def lmap {α β : Type} (f : α → β) (l : List α) : List β := List.rec (motive := fun _ => List β) [] (fun x _ ih => f x :: ih) l
noncomputable def lall {α : Type} (f : α → Bool) (l : List α) : Bool := List.rec (motive := fun _ => Bool) true (fun x _ ih => cond (f x) ih false) l
/-! ## States -/
inductive Knd where
  | exact | grown | ro | dead
def Knd.isGrown : Knd → Bool | .grown => true | _ => false
def Knd.mayWrite : Knd → Bool | .exact | .grown => true | _ => false
inductive Cel where
  | cells (l : List Value) (e : TypeId) (k : Knd)
  | obj (o : Obj)
  | dead
structure St where
  heap : Tr Cel
  next : Nat
noncomputable def St.put (st : St) (b : Nat) (c : Cel) : St := ⟨st.heap.set b c, st.next⟩
noncomputable def St.new (st : St) (c : Cel) : St := ⟨st.heap.set st.next c, Nat.succ st.next⟩
noncomputable def St.cells? (st : St) (b off n : Nat) : Option (List Value) :=
  match st.heap.get b with
  | some (.cells c _ _) => cond (Nat.ble (off + n) (llen c)) (some (ltake n (ldrop off c))) none
  | _ => none
noncomputable def St.cell? (st : St) (b off : Nat) : Option Value :=
  match st.heap.get b with
  | some (.cells c _ _) => lget c off
  | _ => none
noncomputable def lput (l : List Value) (off : Nat) (vs : List Value) : List Value := lapp (ltake off l) (lapp vs (ldrop (off + llen vs) l))
def isOne : Value → Bool | .agg _ | .tuple _ => false | _ => true
noncomputable def St.store (st : St) (b off : Nat) (vs : List Value) : Option St :=
  match st.heap.get b with
  | some (.cells c e k) => cond (k.mayWrite && Nat.ble (off + llen vs) (llen c) && lall isOne vs) (some (st.put b (.cells (lput c off vs) e k))) none
  | _ => none
noncomputable def St.store1 (st : St) (b off : Nat) (v : Value) : Option St :=
  match st.heap.get b with
  | some (.cells c e k) => cond (k.mayWrite && Nat.blt off (llen c)) (some (st.put b (.cells (lset c off v) e k))) none
  | _ => none
/-! ## A table as a trie -/
noncomputable def evens {α : Type} (l : List α) : List α × List α := List.rec (motive := fun _ => List α × List α) ([], []) (fun x _ ih => (x :: ih.2, ih.1)) l
noncomputable def Tr.ofL {α : Type} (f : Nat) : List α → Tr α :=
  Nat.rec (motive := fun _ => List α → Tr α) (fun _ => .leaf) (fun _ ih l => match l with
    | [] => .leaf
    | x :: r => .node (some x) (ih (evens r).1) (ih (evens r).2)) f
inductive FK where
  | int (k : IntKind) | bool | str
inductive KK where
  | one (f : FK) | wide (l : List FK)
structure Ctx where
  P : Program
  tys : Tr TypeInfo
  fns : Tr Func
  gl : Nat → Bool
  fl : Nat → Option (List FK)
noncomputable def Ctx.info (C : Ctx) (t : TypeId) : Option TypeInfo := C.tys.get t
noncomputable def Ctx.und (C : Ctx) (t : TypeId) : Option TypeDesc :=
  match C.tys.get t with
  | some ⟨.named _ u, _, _, _, _, _, _, _, _, _⟩ => (match C.tys.get u with | some i => some i.desc | none => none)
  | some i => some i.desc
  | none => none
/-! ## Model code that looks at no memory -/
noncomputable def pureRun {α : Type} (P : Program) (m : Sem α) : Option α :=
  Sem.rec (motive := fun _ => Option α) (fun a => some a) (fun _ _ _ _ => none) (fun _ _ _ _ _ => none) (fun _ _ _ => none) (fun _ _ _ => none)
    (fun _ _ _ _ => none) (fun _ _ _ => none) (fun _ _ _ => none) (fun _ _ _ _ => none) (fun _ _ _ => none) (fun _ _ _ => none) (fun _ ih => ih P) (fun _ _ ih => ih) (fun _ => none) m
/-! ## Values -/
noncomputable def nfN (n : Nat) : Value → Bool :=
  Nat.rec (motive := fun _ => Value → Bool)
    (fun v => match v with
      | .bool _ | .int _ _ | .string _ | .pointer none | .slice none _ _ | .map none | .nilFunc | .nilIface => true
      | _ => false)
    (fun _ ih v => match v with
      | .bool _ | .int _ _ | .string _ | .pointer none | .slice none _ _ | .map none | .nilFunc | .nilIface => true
      | .func (.func _) ⟨[]⟩ ⟨[]⟩ => true
      | .iface _ v => ih v
      | .agg ⟨l⟩ => lall ih l
      | .tuple ⟨l⟩ => lall ih l
      | _ => false) n
noncomputable def nf (v : Value) : Bool := nfN 4 v
abbrev Sl := Tr Value
def undefA : Value := .tuple #[]
def ogetD (o : Option Value) : Value := match o with | some v => v | none => undefA
noncomputable def evA (s : Sl) (o : Operand) : Value :=
  match o with
  | .tmp t => ogetD (s.get t)
  | .const v => v
  | .global g => .pointer (some ⟨g, 0, none⟩)
  | .func f => .func (.func f) #[] #[]
noncomputable def putA (n : Nat) (s : Sl) (d : Option Tmp) (v : Value) : Option Sl :=
  match d with
  | some d => cond (Nat.blt d n) (some (s.set d v)) none
  | none => some s
/-! ## Ints -/
def minN (a b : Nat) : Nat := cond (Nat.ble a b) a b

def bound : IntKind → Nat
  | .i8 => 128 | .i16 => 32768 | .i32 => 2147483648 | .i64 => 9223372036854775808 | .u8 => 256 | .u16 => 65536 | .u32 => 4294967296 | .u64 => 18446744073709551616
def wrapA (k : IntKind) (n : Int) : Int :=
  match n with
  | .ofNat m => cond (Nat.blt m (bound k)) (.ofNat m) (k.wrap (.ofNat m))
  | .negSucc m => k.wrap (.negSucc m)
def iadd (a b : Int) : Int := match a, b with | .ofNat a, .ofNat b => .ofNat (Nat.add a b) | a, b => a + b
def isub (a b : Int) : Int := match a, b with | .ofNat a, .ofNat b => cond (Nat.ble b a) (.ofNat (Nat.sub a b)) (.negSucc (Nat.pred (Nat.sub b a))) | a, b => a - b
def imul (a b : Int) : Int := match a, b with | .ofNat a, .ofNat b => .ofNat (Nat.mul a b) | a, b => a * b
def ieq (a b : Int) : Bool := match a, b with | .ofNat a, .ofNat b => Nat.beq a b | .negSucc a, .negSucc b => Nat.beq a b | _, _ => false
def ilt (a b : Int) : Bool := match a, b with | .ofNat a, .ofNat b => Nat.blt a b | .negSucc a, .negSucc b => Nat.blt b a | .negSucc _, .ofNat _ => true | .ofNat _, .negSucc _ => false
def ile (a b : Int) : Bool := match a, b with | .ofNat a, .ofNat b => Nat.ble a b | .negSucc a, .negSucc b => Nat.ble b a | .negSucc _, .ofNat _ => true | .ofNat _, .negSucc _ => false
def ikeq (a b : IntKind) : Bool := match a, b with
  | .i8, .i8 | .i16, .i16 | .i32, .i32 | .i64, .i64 | .u8, .u8 | .u16, .u16 | .u32, .u32 | .u64, .u64 => true
  | _, _ => false
def n2 (a b : Int) (f : Nat → Nat → Option Value) : Option Value := match a, b with | .ofNat a, .ofNat b => f a b | _, _ => none
def kbits : IntKind → Nat | .i8 | .u8 => 8 | .i16 | .u16 => 16 | .i32 | .u32 => 32 | .i64 | .u64 => 64
def ibin (op : BinOp) (k : IntKind) (a b : Int) : Option Value :=
  match op with
  | .and => n2 a b fun a b => some (.int k (wrapA k (.ofNat (Nat.land a b))))
  | .or => n2 a b fun a b => some (.int k (wrapA k (.ofNat (Nat.lor a b))))
  | .xor => n2 a b fun a b => some (.int k (wrapA k (.ofNat (Nat.xor a b))))
  | .shl => n2 a b fun a b => cond (Nat.ble b (kbits k)) (some (.int k (wrapA k (.ofNat (Nat.mul a (Nat.pow 2 b)))))) none
  | .shr => n2 a b fun a b => cond (Nat.ble b (kbits k)) (some (.int k (.ofNat (Nat.div a (Nat.pow 2 b))))) none
  | .quo => n2 a b fun a b => cond (Nat.beq b 0) none (some (.int k (wrapA k (.ofNat (Nat.div a b)))))
  | .rem => n2 a b fun a b => cond (Nat.beq b 0) none (some (.int k (.ofNat (Nat.mod a b))))
  | .add => some (.int k (wrapA k (iadd a b)))
  | .sub => some (.int k (wrapA k (isub a b)))
  | .mul => some (.int k (wrapA k (imul a b)))
  | .eql => some (.bool (ieq a b))
  | .neq => some (.bool (not (ieq a b)))
  | .lss => some (.bool (ilt a b))
  | .leq => some (.bool (ile a b))
  | .gtr => some (.bool (ilt b a))
  | .geq => some (.bool (ile b a))
  | _ => none
/-! ## Operations -/
inductive Cls where
  | still | alloc | loud
inductive NK where
  | map | func | iface
inductive Ins where
  | move (x : Operand)
  | bin (op : BinOp) (x y : Operand)
  | load (x : Operand)
  | loads (n : Nat) (x : Operand)
  | store (x y : Operand)
  | stores (n : Nat) (x y : Operand)
  | fieldAddr (off : Nat) (x : Operand)
  | pick (c x y : Operand)
  | nilCheck (x : Operand)
  | extract (x : Operand) (i : Nat)
  | len (x : Operand)
  | idxS (size : Nat) (x i : Operand)
  | not (x : Operand)
  | conv (k : IntKind) (x : Operand)
  | callf (f : FuncId) (args : List Operand)
  | new (c : List Value) (t : TypeId)
  | box (t : TypeId) (x : Operand)
  | eq (neg : Bool) (t : TypeDesc) (x y : Operand)
  | build (zero : List Value) (parts : List (Nat × Nat × Operand))
  | field (off : Nat) (x : Operand)
  | fields (off n : Nat) (x : Operand)
  | slice (size : Nat) (x : Operand) (lo hi : Option Operand)
  | iface (t : TypeId) (x : Operand)
  | assert (t : TypeId) (commaOk : Bool) (zero : Value) (x : Operand)
  | minmax (mx : Bool) (x y : Operand)
  | copy (size : Nat) (x y : Operand)
  | eqF (neg : Bool) (l : List FK) (x y : Operand)
  | lookup (kk : KK) (ok : Bool) (zero : Value) (m k : Operand)
  | mapPut (kk : KK) (m k v : Operand)
  | mapDel (kk : KK) (m k : Operand)
  | mapEnt (kk : KK) (zero : Value) (m k : Operand)
  | mapSto (m b v : Operand)
  | mapLen (m : Operand)
  | cap (x : Operand)
  | idxP (n size : Nat) (x i : Operand)
  | slicP (n size : Nat) (x : Operand) (lo hi : Option Operand)
  | slice3 (size : Nat) (x : Operand) (lo : Option Operand) (hi mx : Operand)
  | arrP (n : Nat) (x : Operand)
  | func (f : FuncId) (a b : List Operand)
  | nilEq (neg : Bool) (k : NK) (x y : Operand)
  | clear (zero : List Value) (x : Operand)
  | rangeS (x : Operand)
  | nextS (x : Operand)
  | rangeM (x : Operand)
  | nextM (x : Operand)
  | entry (x : Operand)
  | invoke (name : String) (x : Operand) (args : List Operand)
  | callv (x : Operand) (args : List Operand)
  | append (t u : TypeId) (x y : Operand)
  | toS (x : Operand)
  | toStr (x : Operand)
  | other (c : Cls)
noncomputable def sizeA (C : Ctx) (t : TypeId) : Option (Option Nat) :=
  match C.und t with
  | none => none
  | some (.struct _) | some (.array _ _) => (C.info t).map fun i => some i.size
  | some _ => match C.info t with | some i => cond (Nat.beq i.size 1) (some none) none | none => none
noncomputable def partsA (C : Ctx) (fs : List Field) (l : List (Nat × Operand)) : Option (List (Nat × Nat × Operand)) :=
  List.rec (motive := fun _ => Option (List (Nat × Nat × Operand))) (some []) (fun p _ ih => match ih, lget fs p.1 with
    | some r, some fd => (match C.info fd.type with | some i => some ((fd.offset, i.size, p.2) :: r) | none => none)
    | _, _ => none) l
noncomputable def cEqF (C : Ctx) (neg : Bool) (t : TypeId) (op : BinOp) (x y : Operand) : Ins := match C.fl t with | some l => .eqF neg l x y | none => .bin op x y
noncomputable def keyK (C : Ctx) (t : TypeId) : Option KK := match C.und t with
  | some (.int k) => some (.one (.int k))
  | some .bool => some (.one .bool)
  | some .string => some (.one .str)
  | some (.struct _) | some (.array _ _) => (match C.fl t with | some l => some (.wide l) | none => none)
  | _ => none
noncomputable def cMap (C : Ctx) (t : TypeId) (i : KK → Value → Ins) (c : Cls) : Ins := match C.und t with
  | some (.map k e) => (match keyK C k, C.info e with | some kk, some ⟨_, _, _, _, _, _, _, some z, _, _⟩ => cond (nf z) (i kk z) (.other c) | _, _ => .other c)
  | _ => .other c
noncomputable def cBin (C : Ctx) (op : BinOp) (t : TypeId) (x y : Operand) : Ins := match op, C.und t with
    | .eql, some (.pointer e) => .eq false (.pointer e) x y
    | .neq, some (.pointer e) => .eq true (.pointer e) x y
    | .eql, some (.slice e) => .eq false (.slice e) x y
    | .neq, some (.slice e) => .eq true (.slice e) x y
    | .eql, some .string => .eq false .string x y
    | .neq, some .string => .eq true .string x y
    | .eql, some (.map _ _) => .nilEq false .map x y
    | .eql, some (.func _ _ _) => .nilEq false .func x y
    | .eql, some (.interface _) => .nilEq false .iface x y
    | .neq, some (.map _ _) => .nilEq true .map x y
    | .neq, some (.func _ _ _) => .nilEq true .func x y
    | .neq, some (.interface _) => .nilEq true .iface x y
    | .eql, some (.struct _) | .eql, some (.array _ _) => cEqF C false t op x y
    | .neq, some (.struct _) | .neq, some (.array _ _) => cEqF C true t op x y
    | _, _ => .bin op x y
noncomputable def cBuild (C : Ctx) (t : TypeId) (parts : Array (Nat × Operand)) : Ins := match C.info t, C.und t with
    | some ⟨_, _, _, _, _, _, _, some z, _, _⟩, some (.struct fs) => (match partsA C fs.toList parts.toList with
      | some ps => cond (lall nf z.cells.toList && lall (fun f => match C.info f.type with | some _ => true | none => false) fs.toList) (.build z.cells.toList ps) (.other .still)
      | none => .other .still)
    | _, _ => .other .still
noncomputable def cField (C : Ctx) (t : TypeId) (x : Operand) (f : Nat) : Ins := match C.und t with
    | some (.struct fs) => (match lget fs.toList f with
      | some fd => (match sizeA C fd.type with | some none => .field fd.offset x | some (some n) => .fields fd.offset n x | none => .other .still)
      | none => .other .still)
    | _ => .other .still
noncomputable def cSlice (C : Ctx) (t : TypeId) (x : Operand) (lo hi mx : Option Operand) : Ins := match mx, C.und t with
    | none, some (.slice e) => (match C.info e with | some i => .slice i.size x lo hi | none => .other .still)
    | none, some (.array n e) => (match C.info e with | some i => .slicP n i.size x lo hi | none => .other .still)
    | some mx, some (.slice e) => (match C.info e, hi with | some i, some hi => .slice3 i.size x lo hi mx | _, _ => .other .still)
    | _, _ => .other .still
noncomputable def cLen (C : Ctx) (t : TypeId) (x : Operand) : Ins := match C.und t with | some (.map _ _) => .mapLen x | some (.slice _) => .len x | _ => .other .still
noncomputable def cCap (C : Ctx) (t : TypeId) (x : Operand) : Ins := match C.und t with | some (.slice _) => .cap x | _ => .other .still
noncomputable def cClear (C : Ctx) (t : TypeId) (x : Operand) : Ins := match C.und t with
  | some (.slice e) => (match C.info e with | some ⟨_, _, _, _, _, _, _, some z, _, _⟩ => cond (lall nf z.cells.toList) (.clear z.cells.toList x) (.other .loud) | _ => .other .loud)
  | _ => .other .loud
noncomputable def cIface (C : Ctx) (t : TypeId) (x : Operand) : Ins := match C.und t with
    | some (.interface _) => .other .still
    | some _ => .iface t x
    | none => .other .still
noncomputable def cAssert (C : Ctx) (t : TypeId) (ok : Bool) (x : Operand) : Ins := match C.und t, C.info t with
    | some (.interface _), _ => .other .still
    | some _, some ⟨_, _, _, _, _, _, _, some z, _, _⟩ => cond (nf z) (.assert t ok z x) (.other .still)
    | _, _ => .other .still
noncomputable def cCopy (C : Ctx) (t : TypeId) (x y : Operand) : Ins := match C.und t with
      | some (.slice e) => (match C.info e with | some i => .copy i.size x y | none => .other .loud)
      | _ => .other .loud
noncomputable def cCall (C : Ctx) (c : Call) : Ins := match c with
  | ⟨.value (.func f), ⟨args⟩, _⟩ => .callf f args
  | ⟨.value x, ⟨args⟩, _⟩ => .callv x args
  | ⟨.invoke x name, ⟨args⟩, _⟩ => .invoke name x args
  | ⟨.builtin .len, ⟨[x]⟩, ⟨[t]⟩⟩ => cLen C t x
  | ⟨.builtin .append, ⟨[x, y]⟩, ⟨[t, u]⟩⟩ => .append t u x y
  | ⟨.builtin .min, ⟨[x, y]⟩, _⟩ => .minmax false x y
  | ⟨.builtin .max, ⟨[x, y]⟩, _⟩ => .minmax true x y
  | ⟨.builtin .copy, ⟨[x, y]⟩, ⟨[t, _]⟩⟩ => cCopy C t x y
  | ⟨.builtin .delete, ⟨[x, y]⟩, ⟨[t, _]⟩⟩ => cMap C t (fun kk _ => .mapDel kk x y) .loud
  | ⟨.builtin .cap, ⟨[x]⟩, ⟨[t]⟩⟩ => cCap C t x
  | ⟨.builtin .clear, ⟨[x]⟩, ⟨[t]⟩⟩ => cClear C t x
  | ⟨.builtin .len, _, _⟩ | ⟨.builtin .cap, _, _⟩ | ⟨.builtin .min, _, _⟩ | ⟨.builtin .max, _, _⟩ => .other .still
  | _ => .other .loud
noncomputable def cLoad (C : Ctx) (t : TypeId) (x : Operand) : Ins := match sizeA C t with | some none => .load x | some (some n) => .loads n x | none => .other .still
noncomputable def cStore (C : Ctx) (t : TypeId) (x y : Operand) : Ins := match sizeA C t with | some none => .store x y | some (some n) => .stores n x y | none => .other .loud
noncomputable def cFieldAddr (C : Ctx) (t : TypeId) (x : Operand) (f : Nat) : Ins := match C.und t with
    | some (.struct fs) => (match lget fs.toList f with
      | some fd => (match C.info fd.type with | some i => cond (Nat.beq i.size 0) (.other .still) (.fieldAddr fd.offset x) | none => .other .still)
      | none => .other .still)
    | _ => .other .still
noncomputable def cIdx (C : Ctx) (t : TypeId) (x i : Operand) : Ins := match C.und t with
    | some (.slice e) => (match C.info e with | some inf => .idxS inf.size x i | none => .other .still)
    | some (.array n e) => (match C.info e with | some inf => .idxP n inf.size x i | none => .other .still)
    | _ => .other .still
noncomputable def cArr (C : Ctx) (t : TypeId) (x : Operand) : Ins := match C.und t with
    | some (.array n _) => .arrP n x
    | _ => .other .still
def cFunc (f : Fn) (a b : Array Operand) : Ins := match f, a, b with
    | .func f, ⟨a⟩, ⟨b⟩ => .func f a b
    | _, _, _ => .other .still
noncomputable def cRange (C : Ctx) (t : TypeId) (x : Operand) : Ins := match C.und t with
    | some .string => .rangeS x
    | some (.map _ _) => .rangeM x
    | _ => .other .loud
noncomputable def cSto (C : Ctx) (t : TypeId) (m b v : Operand) : Ins := .mapSto m b v
noncomputable def cConv (C : Ctx) (src dst : TypeId) (x : Operand) : Ins := match C.und dst with
    | some (.int k) => (match C.und src with | some _ => .conv k x | none => .other .still)
    | some (.slice e) => (match C.und src with | some (.slice _) => (match Nat.beq src dst, C.und e with | true, some (.int .u8) => .toS x | _, _ => .other .loud) | _ => .other .alloc)
    | some .string => (match C.und src with | some (.slice e) => (match C.und e with | some (.int .u8) => .toStr x | _ => .other .still) | _ => .other .still)
    | _ => .other .still
noncomputable def cAlloc (C : Ctx) (t : TypeId) : Ins := match C.info t with | some ⟨_, _, _, _, _, _, _, some z, _, _⟩ => cond (lall nf z.cells.toList) (.new z.cells.toList t) (.other .alloc) | _ => .other .alloc
noncomputable def comp (C : Ctx) (o : Op) : Ins :=
  match o with
  | .move x | .assign x => .move x
  | .binOp op t x y _ => cBin C op t x y
  | .load t x => cLoad C t x
  | .store t x y => cStore C t x y
  | .fieldAddr t x f => cFieldAddr C t x f
  | .pick c x y => .pick c x y
  | .nilCheck x => .nilCheck x
  | .extract x i => .extract x i
  | .call c => cCall C c
  | .indexAddr t x i => cIdx C t x i
  | .unOp .not _ x => .not x
  | .convert src dst x => cConv C src dst x
  | .alloc t => cAlloc C t
  | .box t x => .box t x
  | .build t parts => cBuild C t parts
  | .field t x f => cField C t x f
  | .slice t x lo hi mx => cSlice C t x lo hi mx
  | .makeInterface t x => cIface C t x
  | .typeAssert x _ t ok => cAssert C t ok x
  | .lookup t m k ok => cMap C t (fun kk z => .lookup kk ok z m k) .still
  | .mapUpdate t m k v | .insert t m k v => cMap C t (fun kk _ => .mapPut kk m k v) .loud
  | .mapEntry t m k => cMap C t (fun kk z => .mapEnt kk z m k) .loud
  | .entryStore t m b v => cSto C t m b v
  | .sliceToArrayPointer t x => cArr C t x
  | .makeFunc f a b => cFunc f a b
  | .range t x => cRange C t x
  | .next x isString => cond isString (.nextS x) (.nextM x)
  | .entry x => .entry x
  | .buildSlice .. | .makeMap .. | .makeSlice .. => .other .alloc
  | .unOp .. | .index .. | .ready _ | .waits _ => .other .still
  | _ => .other .loud
noncomputable def okOpd (C : Ctx) (x : Operand) : Bool := match x with
  | .tmp _ => true
  | .const v => nf v
  | .global g => C.gl g
  | .func _ => true
noncomputable def compK (C : Ctx) (o : Op) : Ins := cond (lall (okOpd C) o.operands.toList) (comp C o) (.other .loud)
def insCls : Ins → Cls
  | .store .. | .stores .. | .callf .. | .copy .. | .mapPut .. | .mapDel .. | .mapEnt .. | .mapSto .. | .clear .. | .rangeS .. | .rangeM .. | .nextS .. | .nextM .. | .entry .. | .invoke .. | .callv .. | .append .. | .toS .. => .loud
  | .new .. | .box .. => .alloc
  | .other c => c
  | _ => .still
noncomputable def St.kindOf (st : St) (b : Nat) : Option Knd := match st.heap.get b with | some (.cells _ _ k) => some k | _ => none
noncomputable def astill (C : Ctx) (s : Sl) (o : Oper) : Option Value :=
  cond (lall (fun x => nf (evA s x)) o.op.operands.toList) (match pureRun C.P (execOp (evA s) o) with
  | some (.value v) => cond (nf v) (some v) none
  | _ => none) none
noncomputable def numA (s : Sl) (d : Nat) (x : Option Operand) : Option Nat :=
  match x with
  | none => some d
  | some x => (match evA s x with | .int _ (.ofNat n) => some n | _ => none)
noncomputable def repA (z : List Value) (n : Nat) : List Value := Nat.rec (motive := fun _ => List Value) [] (fun _ r => lapp z r) n
noncomputable def zeroA (i : TypeInfo) : Option (List Value) := match i.zero with
  | some z => cond (Nat.beq (llen z.cells.toList) i.size && lall nf z.cells.toList) (some z.cells.toList) none
  | none => none
noncomputable def aMakeSlice (C : Ctx) (t : TypeId) (l c : Value) : Option (Cel × (Nat → Value)) := match C.und t with
  | some (.slice e) => (match C.info e with
    | some i => (match zeroA i, l, c with
      | some z, .int _ (.ofNat l), .int _ (.ofNat c) => cond (Nat.ble l c && Nat.ble (i.bytes * c) (2 ^ 40) && Nat.ble c (2 ^ 40)) (some (.cells (repA z c) e .exact, fun b => .slice (some ⟨b, 0, none⟩) l c)) none
      | _, _, _ => none)
    | none => none)
  | _ => none
noncomputable def aBuildSlice (C : Ctx) (s : Sl) (t : TypeId) (len : Nat) (parts : List (Nat × Operand)) : Option (Cel × (Nat → Value)) := match C.und t with
  | some (.slice e) => (match C.info e with
    | some i => (match zeroA i with
      | some z => cond (Nat.ble (len * i.size) (2 ^ 24)) (match Instr.fill (fun k => some (k * i.size, i.size)) ⟨repA z len⟩ (lmap (fun p => (p.1, evA s p.2)) parts) with
        | some ⟨cs⟩ => some (.cells cs e .exact, fun b => .slice (some ⟨b, 0, none⟩) len len)
        | none => none) none
      | none => none)
    | none => none)
  | _ => none
noncomputable def aBytes (C : Ctx) (src dst : TypeId) (x : Value) : Option (Cel × (Nat → Value)) := match C.und src, C.und dst, x with
  | some .string, some (.slice e), .string str => (match C.und e, C.info e with
    | some (.int .u8), some i => cond (Nat.beq i.size 1 && Nat.ble str.size (2 ^ 40)) (some (.cells (lmap (fun b => .int .u8 b.toNat) str.data.toList) e .grown, fun b => .slice (some ⟨b, 0, none⟩) str.size str.size)) none
    | _, _ => none)
  | _, _, _ => none
noncomputable def aMakeMap (C : Ctx) (t : TypeId) (x : Value) : Option (Cel × (Nat → Value)) := match C.und t, x with
  | some (.map _ _), .int _ _ => some (.obj (.map #[] 0), fun b => .map (some b))
  | _, _ => none
noncomputable def aalloc (C : Ctx) (s : Sl) (o : Oper) : Option (Cel × (Nat → Value)) :=
  match o.op with
  | .makeMap _ none => some (.obj (.map #[] 0), fun b => .map (some b))
  | .makeMap t (some x) => aMakeMap C t (evA s x)
  | .makeSlice t l c => aMakeSlice C t (evA s l) (evA s c)
  | .buildSlice t len parts => aBuildSlice C s t len parts.toList
  | .convert src dst x => aBytes C src dst (evA s x)
  | _ => none
noncomputable def newsA (C : Ctx) (u : TypeId) (i : TypeInfo) (x : Value) (st : St) : Option (Nat × List Value) :=
  match C.und u with
  | some (.slice _) => (match x with
        | .slice none 0 _ => some (0, [])
        | .slice (some ⟨_, _, some 2⟩) 0 0 => some (0, [])
        | .slice (some ⟨b, off, none⟩) n _ => (match st.cells? b off (n * i.size) with | some l => some (n, l) | none => none)
        | _ => none)
  | some (.int _) => (match x, i.zero with
        | .int _ (.ofNat n), some z => cond (Nat.ble n (2 ^ 30) && Nat.ble (i.bytes * n) (2 ^ 40) && Nat.beq (llen z.cells.toList) i.size && Nat.blt 0 i.size && lall nf z.cells.toList) (some (n, repA z.cells.toList n)) none
        | _, _ => none)
  | some .string => (match x with
        | .string s => cond (Nat.beq i.size 1) (some (s.size, lmap (fun b => .int .u8 b.toNat) s.data.toList)) none
        | _ => none)
  | _ => none
noncomputable def grow (st : St) (l : List Value) (e n : Nat) : Option (Value × St) := some (.slice (some ⟨st.next, 0, none⟩) n n, st.new (.cells l e .grown))
def lenA (s : Value) : Nat := match s with | .slice _ m _ => m | _ => 0
noncomputable def sizedA (i : TypeInfo) (n : Nat) : Bool := match i.zero with
  | some z => Nat.beq (llen z.cells.toList) i.size && Nat.ble (i.bytes * n) (2 ^ 40) && Nat.ble n (2 ^ 40)
  | none => false
noncomputable def aappend (C : Ctx) (t u : TypeId) (s x : Value) (st : St) : Option (Value × St) :=
  match C.und t with
  | some (.slice e) => (match C.info e with
    | some i =>
      (match newsA C u i x st with
      | none => none
      | some (n, l) => cond (Nat.beq n 0) (match s with | .slice _ m c => cond (Nat.ble m c) (some (s, st)) none | _ => none)
        (cond (sizedA i (Nat.add (lenA s) n) && lall isOne l) (match s with
        | .slice none 0 0 => grow st l e n
        | .slice (some ⟨_, _, some 1⟩) 0 0 => grow st l e n
        | .slice (some ⟨b, off, none⟩) m c =>
          (match st.heap.get b with
            | some (.cells cs e' k) => cond (k.mayWrite && Nat.ble (off + m * i.size) (llen cs))
              (cond (Nat.ble (m + n) c) (match st.store b (off + m * i.size) l with | some st' => some (.slice (some ⟨b, off, none⟩) (m + n) c, st') | none => none)
                (match k with
                | .grown => cond (Nat.beq (off + c * i.size) (llen cs) && Nat.beq e e' && Nat.ble m c) (grow (st.put b .dead) (lapp (ltake (m * i.size) (ldrop off cs)) l) e (m + n)) none
                | _ => grow st (lapp (ltake (m * i.size) (ldrop off cs)) l) e (m + n))) none
            | _ => none)
        | _ => none) none))
    | none => none)
  | _ => none
inductive Tgt where
  | fn (f : FuncId)
  | yield (l : Nat)
abbrev CallF := Tgt → List Value → St → Option (Value × St)
noncomputable def bytesEq (l : List UInt8) : List UInt8 → Bool :=
  List.rec (motive := fun _ => List UInt8 → Bool) (fun m => match m with | [] => true | _ => false) (fun x _ ih m => match m with | [] => false | y :: m => cond (Nat.beq x.toNat y.toNat) (ih m) false) l
noncomputable def eqA (t : TypeDesc) (v w : Value) : Option Bool :=
  match t, v, w with
  | .string, .string a, .string b => some (bytesEq a.data.toList b.data.toList)
  | .pointer _, .pointer none, .pointer none => some true
  | .pointer _, .pointer none, .pointer (some _) => some false
  | .pointer _, .pointer (some _), .pointer none => some false
  | .slice _, .slice none _ _, .slice none _ _ => some true
  | .slice _, .slice none _ _, .slice (some _) _ _ => some false
  | .slice _, .slice (some _) _ _, .slice none _ _ => some false
  | _, _, _ => none
def eqI (k : IntKind) (v w : Value) : Option Bool := match v, w with
  | .int i a, .int j b => cond (ikeq k i && ikeq k j) (some (ieq a b)) none
  | _, _ => none
def eqB (v w : Value) : Option Bool := match v, w with
  | .bool a, .bool b => some (cond a b (not b))
  | _, _ => none
noncomputable def eqS (v w : Value) : Option Bool := match v, w with
  | .string a, .string b => some (bytesEq a.data.toList b.data.toList)
  | _, _ => none
noncomputable def cellEq (f : FK) (v w : Value) : Option Bool := FK.rec (fun k => eqI k v w) (eqB v w) (eqS v w) f
noncomputable def cellsEq (fs : List FK) : List Value → List Value → Option Bool :=
  List.rec (motive := fun _ => List Value → List Value → Option Bool) (fun l m => match l, m with | [], [] => some true | _, _ => none) (fun f _ ih l m => match l, m with
    | x :: l, y :: m => (match cellEq f x y with
      | some true => ih l m
      | some false => (match ih l m with | some _ => some false | none => none)
      | none => none)
    | _, _ => none) fs
def aggA (v : Value) : Option (List Value) := match v with
  | .agg ⟨l⟩ => some l
  | _ => none
noncomputable def wideEq (fs : List FK) (v w : Value) : Option Bool := match aggA v, aggA w with
  | some l, some m => cellsEq fs l m
  | _, _ => none
noncomputable def flatEq (kk : KK) (v w : Value) : Option Bool := KK.rec (fun f => cellEq f v w) (fun fs => wideEq fs v w) kk
noncomputable def kfind (kk : KK) (k : Value) (l : List MapEntry) : Nat → Option (Option (Nat × Value)) :=
  List.rec (motive := fun _ => Nat → Option (Option (Nat × Value))) (fun _ => some none) (fun e _ ih i => match flatEq kk k e.key with
    | some true => some (some (i, e.val))
    | some false => ih (Nat.succ i)
    | none => none) l
def cellsA (v : Value) : List Value := match v with | .agg ⟨l⟩ => l | v => [v]
noncomputable def buildA (s : Sl) (z : List Value) (l : List (Nat × Nat × Operand)) : Option (List Value) :=
  List.rec (motive := fun _ => List Value → Option (List Value)) (fun z => some z) (fun p _ ih z =>
    cond (Nat.beq (llen (cellsA (evA s p.2.2))) p.2.1 && Nat.ble (p.1 + p.2.1) (llen z)) (ih (lput z p.1 (cellsA (evA s p.2.2)))) none) l z
abbrev OV := Option Value
noncomputable def iBin (C : Ctx) (s : Sl) (o : Oper) (st : St) (op : BinOp) (x y : Value) : OV := match x, y with
    | .int k a, .int k' b => cond (ikeq k k') (match ibin op k a b with | some v => some v | none => astill C s o) (astill C s o)
    | _, _ => astill C s o
noncomputable def iLoad (st : St) (x : Value) : OV := match x with | .pointer (some ⟨b, off, none⟩) => st.cell? b off | _ => none
noncomputable def iLoads (st : St) (n : Nat) (x : Value) : OV := match x with | .pointer (some ⟨b, off, none⟩) => (match st.cells? b off n with | some l => some (.agg ⟨l⟩) | none => none) | _ => none
def iFieldAddr (d : Nat) (x : Value) : OV := match x with | .pointer (some ⟨b, off, none⟩) => some (.pointer (some ⟨b, Nat.add off d, none⟩)) | _ => none
def iPick (c x y : Value) : OV := match c with | .bool t => some (cond t x y) | _ => none
noncomputable def iNil (C : Ctx) (s : Sl) (o : Oper) (st : St) (x : Value) : OV := match x with | .pointer (some a) => some (.pointer (some a)) | _ => astill C s o
noncomputable def iExtract (x : Value) (i : Nat) : OV := match x with | .tuple ⟨l⟩ => lget l i | _ => none
noncomputable def iLen (x : Value) : OV := match x with | .slice _ n _ => some (.int .i64 (.ofNat n)) | _ => none
def iIdx (z : Nat) (x i : Value) : OV := match x, i with
    | .slice (some ⟨b, off, none⟩) n _, .int _ (.ofNat j) => cond (Nat.blt j n) (some (.pointer (some ⟨b, Nat.add off (Nat.mul j z), none⟩))) none
    | _, _ => none
def iNot (x : Value) : OV := match x with | .bool b => some (.bool (not b)) | _ => none
noncomputable def iConv (C : Ctx) (s : Sl) (o : Oper) (st : St) (k : IntKind) (x : Value) : OV := match x with | .int _ n => some (.int k (wrapA k n)) | _ => astill C s o
noncomputable def iEq (neg : Bool) (t : TypeDesc) (x y : Value) : OV := match eqA t x y with | some b => some (.bool (cond neg (not b) b)) | none => none
noncomputable def iBuild (s : Sl) (z : List Value) (l : List (Nat × Nat × Operand)) : OV := match buildA s z l with | some c => some (.agg ⟨c⟩) | none => none
noncomputable def iField (off : Nat) (x : Value) : OV := match x with | .agg ⟨l⟩ => lget l off | _ => none
noncomputable def iFields (off n : Nat) (x : Value) : OV := match x with | .agg ⟨l⟩ => cond (Nat.ble (off + n) (llen l)) (some (.agg ⟨ltake n (ldrop off l)⟩)) none | _ => none
noncomputable def iSlice (s : Sl) (st : St) (z : Nat) (x : Value) (lo hi : Option Operand) : OV := match x with
    | .slice (some ⟨b, off, none⟩) m c => (match numA s 0 lo, numA s m hi, st.kindOf b with
      | some l, some h, some k => cond (Nat.ble l h && Nat.ble h c) (some (cond (Nat.beq c l)
          (cond k.isGrown (.slice (some ⟨b, Nat.add off (Nat.mul l z), some 2⟩) 0 0) (.slice (some ⟨b, off, none⟩) 0 0)) (.slice (some ⟨b, Nat.add off (Nat.mul l z), none⟩) (Nat.sub h l) (Nat.sub c l)))) none
      | _, _, _ => none)
    | .slice none 0 0 => (match numA s 0 lo, numA s 0 hi with
      | some 0, some 0 => some (.slice none 0 0)
      | _, _ => none)
    | _ => none
noncomputable def iSlice3 (s : Sl) (st : St) (z : Nat) (x : Value) (lo : Option Operand) (hi mx : Operand) : OV := match x with
    | .slice (some ⟨b, off, none⟩) _ c => (match numA s 0 lo, numA s 0 (some hi), numA s 0 (some mx), st.kindOf b with
      | some l, some h, some k, some kd => cond (Nat.ble l h && Nat.ble h k && Nat.ble k c) (some (.slice (some ⟨b, cond (Nat.beq k l) off (Nat.add off (Nat.mul l z)), cond kd.isGrown (some 1) none⟩) (Nat.sub h l) (Nat.sub k l))) none
      | _, _, _, _ => none)
    | .slice none 0 0 => (match numA s 0 lo, numA s 0 (some hi), numA s 0 (some mx) with
      | some 0, some 0, some 0 => some (.slice none 0 0)
      | _, _, _ => none)
    | _ => none
noncomputable def iSlicP (s : Sl) (st : St) (n z : Nat) (x : Value) (lo hi : Option Operand) : OV := match x with
    | .pointer (some ⟨b, off, none⟩) => (match numA s 0 lo, numA s n hi, st.kindOf b with
      | some l, some h, some .exact => cond (Nat.ble l h && Nat.ble h n) (some (.slice (some ⟨b, cond (Nat.beq n l) off (Nat.add off (Nat.mul l z)), none⟩) (Nat.sub h l) (Nat.sub n l))) none
      | _, _, _ => none)
    | _ => none
noncomputable def iCap (st : St) (x : Value) : OV := match x with
    | .slice none _ c => some (.int .i64 (.ofNat c))
    | .slice (some ⟨b, _, none⟩) _ c => (match st.kindOf b with | some .exact => some (.int .i64 (.ofNat c)) | _ => none)
    | _ => none
def iIdxP (n z : Nat) (x i : Value) : OV := match x, i with
    | .pointer (some ⟨b, off, none⟩), .int _ (.ofNat j) => cond (Nat.blt j n) (some (.pointer (some ⟨b, Nat.add off (Nat.mul j z), none⟩))) none
    | _, _ => none
def iArrP (n : Nat) (x : Value) : OV := match x with
    | .slice (some ⟨b, off, none⟩) m _ => cond (Nat.ble n m) (some (.pointer (some ⟨b, off, none⟩))) none
    | _ => none
def isNilM (v : Value) : Option Bool := match v with
    | .map none => some true
    | .map (some _) => some false
    | _ => none
def isNilF (v : Value) : Option Bool := match v with
    | .nilFunc => some true
    | .func _ _ _ => some false
    | _ => none
def isNilI (v : Value) : Option Bool := match v with
    | .nilIface => some true
    | .iface _ _ => some false
    | _ => none
noncomputable def isNilA (k : NK) (v : Value) : Option Bool := NK.rec (isNilM v) (isNilF v) (isNilI v) k
noncomputable def iNilEq (s : Sl) (neg : Bool) (k : NK) (x y : Operand) : OV := match x, y with
    | _, .const v => (match isNilA k v, isNilA k (evA s x) with | some true, some b => some (.bool (cond neg (not b) b)) | _, _ => none)
    | .const v, _ => (match isNilA k v, isNilA k (evA s y) with | some true, some b => some (.bool (cond neg (not b) b)) | _, _ => none)
    | _, _ => none
noncomputable def iAssert (C : Ctx) (s : Sl) (o : Oper) (st : St) (t : TypeId) (ok : Bool) (z x : Value) : OV := match x with
    | .iface u v => cond (Nat.beq u t) (some (cond ok (.tuple ⟨[v, .bool true]⟩) v)) (cond ok (some (.tuple ⟨[z, .bool false]⟩)) none)
    | _ => astill C s o
noncomputable def iMinmax (C : Ctx) (s : Sl) (o : Oper) (st : St) (mx : Bool) (x y : Value) : OV := match x, y with
    | .int k a, .int k' b => cond (ikeq k k') (some (.int k (cond mx (cond (ilt a b) b a) (cond (ilt b a) b a)))) none
    | _, _ => astill C s o
noncomputable def iEqF (neg : Bool) (l : List FK) (x y : Value) : OV := match wideEq l x y with | some b => some (.bool (cond neg (not b) b)) | none => none
noncomputable def St.map? (st : St) (b : Nat) : Option (List MapEntry × Nat) := match st.heap.get b with | some (.obj (.map ⟨l⟩ c)) => some (l, c) | _ => none
def okA (ok : Bool) (v : Value) (b : Bool) : Value := cond ok (.tuple ⟨[v, .bool b]⟩) v
noncomputable def plainKey (kk : KK) (k : Value) : Bool := match flatEq kk k k with | some _ => true | none => false
noncomputable def iLookup (st : St) (kk : KK) (ok : Bool) (z m k : Value) : OV := match m with
  | .map none => cond (plainKey kk k) (some (okA ok z false)) none
  | .map (some b) => (match st.map? b with
    | some (l, _) => cond (plainKey kk k) (match kfind kk k l 0 with
      | some (some (_, v)) => some (okA ok v true)
      | some none => some (okA ok z false)
      | none => none) none
    | none => none)
  | _ => none
noncomputable def iMapLen (st : St) (m : Value) : OV := match m with
  | .map none => some (.int .i64 (.ofNat 0))
  | .map (some b) => (match st.map? b with | some (l, _) => some (.int .i64 (.ofNat (llen l))) | none => none)
  | _ => none
noncomputable def bytesA (l : List Value) : Option (List UInt8) :=
  List.rec (motive := fun _ => Option (List UInt8)) (some []) (fun v _ ih => match v, ih with | .int .u8 n, some r => some (UInt8.ofNat n.toNat :: r) | _, _ => none) l
noncomputable def iToStr (st : St) (x : Value) : OV := match x with
  | .slice none _ _ => some (.string ⟨⟨[]⟩⟩)
  | .slice (some ⟨_, _, some 2⟩) _ _ => some (.string ⟨⟨[]⟩⟩)
  | .slice (some ⟨b, off, none⟩) n _ => (match st.cells? b off n with | some l => (match bytesA l with | some r => some (.string ⟨⟨r⟩⟩) | none => none) | none => none)
  | _ => none
noncomputable def insS (C : Ctx) (s : Sl) (o : Oper) (st : St) (i : Ins) : OV :=
  match i with
  | .move x => some (evA s x)
  | .bin op x y => iBin C s o st op (evA s x) (evA s y)
  | .load x => iLoad st (evA s x)
  | .loads n x => iLoads st n (evA s x)
  | .fieldAddr d x => iFieldAddr d (evA s x)
  | .pick c x y => iPick (evA s c) (evA s x) (evA s y)
  | .nilCheck x => iNil C s o st (evA s x)
  | .extract x i => iExtract (evA s x) i
  | .len x => iLen (evA s x)
  | .idxS z x i => iIdx z (evA s x) (evA s i)
  | .not x => iNot (evA s x)
  | .conv k x => iConv C s o st k (evA s x)
  | .eq neg t x y => iEq neg t (evA s x) (evA s y)
  | .build z l => iBuild s z l
  | .field off x => iField off (evA s x)
  | .fields off n x => iFields off n (evA s x)
  | .slice z x lo hi => iSlice s st z (evA s x) lo hi
  | .iface t x => some (.iface t (evA s x))
  | .assert t ok z x => iAssert C s o st t ok z (evA s x)
  | .minmax mx x y => iMinmax C s o st mx (evA s x) (evA s y)
  | .eqF neg l x y => iEqF neg l (evA s x) (evA s y)
  | .lookup kk ok z m k => iLookup st kk ok z (evA s m) (evA s k)
  | .mapLen m => iMapLen st (evA s m)
  | .toStr x => iToStr st (evA s x)
  | .cap x => iCap st (evA s x)
  | .idxP n z x i => iIdxP n z (evA s x) (evA s i)
  | .slicP n z x lo hi => iSlicP s st n z (evA s x) lo hi
  | .slice3 z x lo hi mx => iSlice3 s st z (evA s x) lo hi mx
  | .arrP n x => iArrP n (evA s x)
  | .func f a b => some (.func (.func f) ⟨lmap (evA s) a⟩ ⟨lmap (evA s) b⟩)
  | .nilEq neg k x y => iNilEq s neg k x y
  | _ => astill C s o
abbrev OV2 := Option (Value × St)
noncomputable def insN (C : Ctx) (s : Sl) (o : Oper) (i : Ins) : Option (Cel × (Nat → Value)) :=
  match i with
  | .new c t => some (.cells c t .exact, fun b => .pointer (some ⟨b, 0, none⟩))
  | .box t x => some (.cells (cellsA (evA s x)) t .exact, fun b => .pointer (some ⟨b, 0, none⟩))
  | _ => aalloc C s o
noncomputable def iStore (st : St) (x y : Value) : OV2 := match x with
    | .pointer (some ⟨b, off, none⟩) => cond (isOne y) (match st.store1 b off y with | some st' => some (undefA, st') | none => none) none
    | _ => none
noncomputable def iStores (st : St) (n : Nat) (x y : Value) : OV2 := match x, y with
    | .pointer (some ⟨b, off, none⟩), .agg ⟨l⟩ => cond (Nat.beq (llen l) n) (match st.store b off l with | some st' => some (undefA, st') | none => none) none
    | _, _ => none
noncomputable def iCopy (st : St) (z : Nat) (x y : Value) : OV2 := match x, y with
    | .slice (some ⟨b, off, none⟩) n _, .slice (some ⟨b', off', none⟩) n' _ => (match st.cells? b' off' (Nat.mul (minN n' n) z) with
      | some l => cond (Nat.beq (minN n' n) 0) (some (.int .i64 (.ofNat 0), st)) (match st.store b off l with | some st' => some (.int .i64 (.ofNat (minN n' n)), st') | none => none)
      | none => none)
    | .slice _ _ _, .slice none 0 _ => some (.int .i64 (.ofNat 0), st)
    | _, _ => none
noncomputable def lmod {α : Type} (f : α → α) (l : List α) (n : Nat) : List α :=
  List.rec (motive := fun _ => Nat → List α) (fun _ => []) (fun x l ih n => cond (Nat.beq n 0) (f x :: l) (x :: ih (Nat.pred n))) l n
noncomputable def ldel {α : Type} (l : List α) (n : Nat) : List α :=
  List.rec (motive := fun _ => Nat → List α) (fun _ => []) (fun x l ih n => cond (Nat.beq n 0) l (x :: ih (Nat.pred n))) l n
noncomputable def iMapPut (st : St) (kk : KK) (m k v : Value) : OV2 := match m with
  | .map (some b) => (match st.map? b with
    | some (l, c) => cond (plainKey kk k) (match kfind kk k l 0 with
      | some (some (i, _)) => some (undefA, st.put b (.obj (.map ⟨lmod (fun e => ⟨k, v, e.born⟩) l i⟩ c)))
      | some none => some (undefA, st.put b (.obj (.map ⟨lapp l [⟨k, v, c⟩]⟩ (Nat.succ c))))
      | none => none) none
    | none => none)
  | _ => none
noncomputable def iMapDel (st : St) (kk : KK) (m k : Value) : OV2 := match m with
  | .map none => cond (plainKey kk k) (some (undefA, st)) none
  | .map (some b) => (match st.map? b with
    | some (l, c) => cond (plainKey kk k) (match kfind kk k l 0 with
      | some (some (i, _)) => some (undefA, st.put b (.obj (.map ⟨ldel l i⟩ c)))
      | some none => some (undefA, st)
      | none => none) none
    | none => none)
  | _ => none
noncomputable def bornAt (l : List MapEntry) (i : Nat) : Nat := match lget l i with | some e => e.born | none => 0
noncomputable def iMapEnt (st : St) (kk : KK) (z m k : Value) : OV2 := match m with
  | .map (some b) => (match st.map? b with
    | some (l, c) => cond (plainKey kk k) (match kfind kk k l 0 with
      | some (some (i, v)) => some (.tuple ⟨[v, .int .i64 (.ofNat (bornAt l i))]⟩, st.put b (.obj (.map ⟨lmod (fun e => ⟨k, e.val, e.born⟩) l i⟩ c)))
      | some none => some (.tuple ⟨[z, .int .i64 (.ofNat c)]⟩, st.put b (.obj (.map ⟨lapp l [⟨k, z, c⟩]⟩ (Nat.succ c))))
      | none => none) none
    | none => none)
  | _ => none
noncomputable def bornIx (n : Nat) (l : List MapEntry) : Nat → Option Nat := List.rec (motive := fun _ => Nat → Option Nat) (fun _ => none) (fun e _ ih i => cond (Nat.beq e.born n) (some i) (ih (Nat.succ i))) l
noncomputable def iMapSto (st : St) (m b v : Value) : OV2 := match m, b with
  | .map (some b'), .int _ (.ofNat n) => (match st.map? b' with
    | some (l, c) => (match bornIx n l 0 with
      | some i => some (undefA, st.put b' (.obj (.map ⟨lmod (fun e => ⟨e.key, v, e.born⟩) l i⟩ c)))
      | none => none)
    | none => none)
  | _, _ => none
noncomputable def iClear (st : St) (z : List Value) (x : Value) : OV2 := match x with
  | .slice none _ _ => some (.tuple ⟨[]⟩, st)
  | .slice (some ⟨b, off, none⟩) n _ => cond (Nat.beq n 0) (some (.tuple ⟨[]⟩, st)) (match st.store b off (repA z n) with | some st' => some (.tuple ⟨[]⟩, st') | none => none)
  | .slice (some ⟨_, _, some 2⟩) 0 0 => some (.tuple ⟨[]⟩, st)
  | _ => none
noncomputable def iRangeS (st : St) (x : Value) : OV2 := match x with
  | .string str => some (.pointer (some ⟨st.next, 0, none⟩), st.new (.obj (.stringIter str 0)))
  | _ => none
noncomputable def iNextS (st : St) (x : Value) : OV2 := match x with
  | .pointer (some ⟨b, 0, none⟩) => (match st.heap.get b with
    | some (.obj (.stringIter str pos)) => cond (Nat.blt pos str.size) (match Utf8.decode str pos with
        | (c, wd) => some (.tuple ⟨[.bool true, .int .i64 (.ofNat pos), .int .i32 (.ofNat c)]⟩, st.put b (.obj (.stringIter str (Nat.add pos wd)))))
      (some (.tuple ⟨[.bool false]⟩, st))
    | _ => none)
  | _ => none
noncomputable def iRangeM (st : St) (x : Value) : OV2 := match x with
  | .map none => some (.pointer (some ⟨st.next, 0, none⟩), st.new (.obj (.mapIter none 0 #[] 0)))
  | .map (some b) => (match st.map? b with
    | some (_, c) => some (.pointer (some ⟨st.next, 0, none⟩), st.new (.obj (.mapIter (some b) c #[] c)))
    | none => none)
  | _ => none
noncomputable def iNextM (st : St) (x : Value) : OV2 := match x with
  | .pointer (some ⟨b, 0, none⟩) => (match st.heap.get b with
    | some (.obj (.mapIter none _ _ _)) => some (.tuple ⟨[.bool false]⟩, st)
    | some (.obj (.mapIter (some m) since ⟨seen⟩ last)) => (match st.map? m, seen with
      | some ([], _), [] => some (.tuple ⟨[.bool false]⟩, st)
      | some ([e], c), [] => cond (Nat.blt e.born since) (some (.tuple ⟨[.bool true, e.key, e.val]⟩, st.put b (.obj (.mapIter (some m) since ⟨[e.born]⟩ c)))) none
      | some ([], _), [_] => some (.tuple ⟨[.bool false]⟩, st)
      | some ([e], _), [k] => cond (Nat.beq e.born k && Nat.blt e.born last) (some (.tuple ⟨[.bool false]⟩, st)) none
      | _, _ => none)
    | _ => none)
  | _ => none
noncomputable def iEntry (st : St) (x : Value) : OV2 := match x with
  | .pointer (some ⟨b, 0, none⟩) => (match st.heap.get b with
    | some (.obj (.mapIter (some m) _ ⟨[k]⟩ c)) => (match st.map? m with
      | some ([e], c') => cond (Nat.beq c c' && Nat.beq e.born k) (some (.tuple ⟨[e.key, e.val]⟩, st)) none
      | _ => none)
    | _ => none)
  | _ => none
def methodA (C : Ctx) (l : List Method) (name : String) : Option FuncId := match l.find? (fun m => m.name == name) with
  | some ⟨_, _, ⟨[]⟩, some (f, true)⟩ => some f
  | _ => none
noncomputable def iInvoke (C : Ctx) (callF : CallF) (s : Sl) (st : St) (name : String) (x : Value) (args : List Operand) : OV2 := match x with
  | .iface t v => (match C.info t, C.und t with
    | some i, some (.pointer _) => (match methodA C i.methods.toList name with | some f => callF (.fn f) (v :: lmap (evA s) args) st | none => none)
    | _, _ => none)
  | _ => none
noncomputable def iCallv (callF : CallF) (s : Sl) (st : St) (x : Value) (args : List Operand) : OV2 := match x with
    | .func (.yield l) ⟨[]⟩ ⟨[]⟩ => callF (.yield l) (lmap (evA s) args) st
    | .func (.func g) ⟨a⟩ ⟨b⟩ => callF (.fn g) (lapp a (lapp (lmap (evA s) args) b)) st
    | _ => none
noncomputable def iToS (st : St) (x : Value) : OV2 := match x with
  | .slice (some ⟨b, off, none⟩) n c => (match st.heap.get b with
    | some (.cells l t .exact) => some (.slice (some ⟨b, off, none⟩) n c, st.put b (.cells l t .ro))
    | _ => none)
  | _ => none
noncomputable def insL (C : Ctx) (callF : CallF) (s : Sl) (o : Oper) (st : St) (i : Ins) : OV2 :=
  match i with
  | .store x y => iStore st (evA s x) (evA s y)
  | .stores n x y => iStores st n (evA s x) (evA s y)
  | .callf f args => callF (.fn f) (lmap (evA s) args) st
  | .copy z x y => iCopy st z (evA s x) (evA s y)
  | .mapPut kk m k v => iMapPut st kk (evA s m) (evA s k) (evA s v)
  | .mapDel kk m k => iMapDel st kk (evA s m) (evA s k)
  | .mapEnt kk z m k => iMapEnt st kk z (evA s m) (evA s k)
  | .mapSto m b v => iMapSto st (evA s m) (evA s b) (evA s v)
  | .clear z x => iClear st z (evA s x)
  | .rangeM x => iRangeM st (evA s x)
  | .nextM x => iNextM st (evA s x)
  | .entry x => iEntry st (evA s x)
  | .invoke name x args => iInvoke C callF s st name (evA s x) args
  | .rangeS x => iRangeS st (evA s x)
  | .nextS x => iNextS st (evA s x)
  | .callv x args => iCallv callF s st (evA s x) args
  | .append t u x y => aappend C t u (evA s x) (evA s y) st
  | .toS x => iToS st (evA s x)
  | _ => none
noncomputable def guardA (ops : List Oper) (s : Sl) (j : Nat) : Value := match lget ops j with | some ⟨some d, _, _, _, _, _⟩ => ogetD (s.get d) | _ => undefA
noncomputable def wantedA (ops : List Oper) (s : Sl) (g : Option (Nat × Bool)) : Bool :=
  match g with
  | none => true
  | some (j, want) => (match guardA ops s j with
    | .bool b => cond b want (not want)
    | _ => false)
abbrev OK2 := Option (Sl × St)
noncomputable def opsA (C : Ctx) (callF : CallF) (n : Nat) (all l : List Oper) : Sl → St → OK2 :=
  List.rec (motive := fun _ => Sl → St → OK2) (fun s st => some (s, st))
    (fun o _ ih s st =>
      cond (wantedA all s o.guard)
        (match insCls (compK C o.op) with
        | .still => (match insS C s o st (compK C o.op) with
          | some v => (match putA n s o.dst v with | some s' => ih s' st | none => none)
          | none => none)
        | .alloc => (match insN C s o (compK C o.op) with
          | some (c, mk) => (match putA n s o.dst (mk st.next) with | some s' => ih s' (st.new c) | none => none)
          | none => none)
        | .loud => (match insL C callF s o st (compK C o.op) with
          | some (v, st') => (match putA n s o.dst v with | some s' => ih s' st' | none => none)
          | none => none))
        (match putA n s o.dst undefA with | some s' => ih s' st | none => none)) l
/-! ## A region that draws its order -/
structure It where
  i : Nat
  o : Oper
  ins : Ins
structure PS where
  i : Nat
  o : Oper
  ins : Ins
  hi : Nat
def maxN (a b : Nat) : Nat := cond (Nat.ble a b) b a
noncomputable def forceN {α : Type} (n : Nat) (f : Nat → α) : α := Nat.casesOn (motive := fun _ => α) n (f 0) (fun k => f (Nat.succ k))
noncomputable def pget (v i : Nat) : Nat := Nat.land (Nat.shiftRight v (Nat.mul 8 i)) 255
noncomputable def pset (v i x : Nat) : Nat := Nat.lor v (Nat.shiftLeft x (Nat.mul 8 i))
noncomputable def edgesMax (v : Nat) (l : List Edge) : Nat :=
  List.rec (motive := fun _ => Nat) 0 (fun e _ ih => cond (Region.binds .any e) (maxN (pget v e.on) ih) ih) l
noncomputable def losOf (C : Ctx) (l : List Oper) : Nat → Nat → Nat → Option (List (Nat × Oper) × Nat) :=
  List.rec (motive := fun _ => Nat → Nat → Nat → Option (List (Nat × Oper) × Nat)) (fun _ _ m => some ([], m))
    (fun o _ ih i v m =>
      match insCls (compK C o.op) with
      | .loud => cond (Nat.beq (edgesMax v o.after.toList) m) (forceN (pset v i (Nat.succ m)) fun v' => match ih (Nat.succ i) v' (Nat.succ m) with | some (r, k) => some ((Nat.succ (Nat.mul 2 m), o) :: r, k) | none => none) none
      | _ => forceN (edgesMax v o.after.toList) fun x => forceN (pset v i x) fun v' => (match ih (Nat.succ i) v' m with | some (r, k) => some ((Nat.mul 2 x, o) :: r, k) | none => none)) l
noncomputable def itemsOf (C : Ctx) (l : List (Nat × Oper)) : Nat → List (Nat × It) :=
  List.rec (motive := fun _ => Nat → List (Nat × It)) (fun _ => []) (fun ko _ ih i => (ko.1, ⟨i, ko.2, compK C ko.2.op⟩) :: ih (Nat.succ i)) l
noncomputable def keyed (k : Nat) (r : List It) (l : List (Nat × It)) : List It :=
  List.rec (motive := fun _ => List It) r (fun kp _ ih => cond (Nat.beq kp.1 k) (kp.2 :: ih) ih) l
noncomputable def phases (l : List (Nat × It)) (n : Nat) : Nat → List It :=
  Nat.rec (motive := fun _ => Nat → List It) (fun _ => []) (fun _ ih k => keyed k (ih (Nat.succ k)) l) n
/-! The plan is looked at: each operation once, behind those that it is bound to; the loud ones in one row. -/
noncomputable def lany {α : Type} (f : α → Bool) (l : List α) : Bool := List.rec (motive := fun _ => Bool) false (fun x _ ih => cond (f x) true ih) l
noncomputable def dstsA (l : List Oper) : Nat → Tr Nat → Option (Tr Nat) :=
  List.rec (motive := fun _ => Nat → Tr Nat → Option (Tr Nat)) (fun _ D => some D) (fun o _ ih i D => match o.dst with
    | none => ih (Nat.succ i) D
    | some d => (match D.get d with | none => ih (Nat.succ i) (D.set d i) | some _ => none)) l
noncomputable def edgeTo (l : List Edge) (j : Nat) : Bool := lany (fun e => cond (Region.binds .any e) (Nat.beq e.on j) false) l
noncomputable def lookOk (D : Tr Nat) (l : List Edge) (t : Nat) : Bool := match D.get t with | none => true | some j => edgeTo l j
noncomputable def opdOk (D : Tr Nat) (l : List Edge) (x : Operand) : Bool := match x with | .tmp t => lookOk D l t | _ => true
noncomputable def guardOk (ops : List Oper) (D : Tr Nat) (o : Oper) : Bool := match o.guard with
  | none => true
  | some (j, _) => (match lget ops j with | some ⟨some d, _, _, _, _, _⟩ => lookOk D o.after.toList d | _ => true)
noncomputable def inT (T : Tr Nat) (j : Nat) : Bool := match T.get j with | some _ => true | none => false
noncomputable def known (T : Tr Nat) (l : List Edge) : Bool := lall (fun e => cond (Region.binds .any e) (inT T e.on) true) l
noncomputable def behind (T : Tr Nat) (k : Nat) (l : List Edge) : Bool := cond (Nat.beq k 0) true (lany (fun e => cond (Region.binds .any e) (match T.get e.on with | some x => Nat.beq x k | none => false) false) l)
noncomputable def reachB (ops : List Oper) (i : Nat) (n : Nat) : Nat → Bool := Nat.rec (motive := fun _ => Nat → Bool) (fun _ => false) (fun _ ih j => match lget ops j with
  | some o => lany (fun e => cond (Region.binds .any e) (cond (Nat.beq e.on i) true (ih e.on)) false) o.after.toList
  | none => false) n
noncomputable def freshB (D : Tr Nat) (o : Oper) : Bool := lall (opdOk D o.after.toList) o.op.operands.toList
noncomputable def oldB (ops : List Oper) (D T : Tr Nat) (x : It) : Bool := match x.o.guard with
  | none => (match x.o.op, x.ins with
    | .move (.tmp t), .move (.tmp t') => cond (Nat.beq t t') (match D.get t with
      | some j => cond (inT T j) false (cond (Nat.beq j x.i) false (reachB ops x.i 6 j))
      | none => false) false
    | _, _ => false)
  | _ => false
noncomputable def itOk (ops : List Oper) (D T : Tr Nat) (k : Nat) (x : It) : Bool :=
  cond (known T x.o.after.toList) (cond (behind T k x.o.after.toList) (cond (cond (freshB D x.o) true (oldB ops D T x)) (cond (guardOk ops D x.o) (not (inT T x.i)) false) false) false) false
noncomputable def fwdA (ops : List Oper) (D : Tr Nat) (l : List It) : Tr Nat → Nat → Option (Tr Nat × Nat) :=
  List.rec (motive := fun _ => Tr Nat → Nat → Option (Tr Nat × Nat)) (fun T k => some (T, k)) (fun x _ ih T k =>
    cond (itOk ops D T k x) (match insCls x.ins with
      | .loud => forceN (Nat.succ k) fun k' => ih (T.set x.i k') k'
      | _ => ih (T.set x.i k) k) none) l
noncomputable def allIn (T : Tr Nat) (n : Nat) : Bool := Nat.rec (motive := fun _ => Bool) true (fun i ih => cond (inT T i) ih false) n
noncomputable def lower (g : Nat) (l : List Edge) : Tr Nat → Tr Nat :=
  List.rec (motive := fun _ => Tr Nat → Tr Nat) (fun U => U) (fun e _ ih U => cond (Region.binds .any e) (match U.get e.on with
    | some y => cond (Nat.blt g y) (ih (U.set e.on g)) (ih U)
    | none => ih (U.set e.on g)) (ih U)) l
structure BK where
  U : Tr Nat
  r : Nat
  l : List PS
noncomputable def backA (K : Nat) (l : List It) : BK :=
  List.rec (motive := fun _ => BK) ⟨.leaf, K, []⟩ (fun x _ ih => match insCls x.ins with
    | .loud => forceN (Nat.pred ih.r) fun q => ⟨lower q x.o.after.toList ih.U, q, ⟨x.i, x.o, x.ins, q⟩ :: ih.l⟩
    | _ => forceN (match ih.U.get x.i with | some h => h | none => K) fun h => ⟨lower h x.o.after.toList ih.U, ih.r, ⟨x.i, x.o, x.ins, h⟩ :: ih.l⟩) l
noncomputable def planC (ops : List Oper) (D : Tr Nat) (its : List It) : Option (List PS) := match fwdA ops D its .leaf 0 with
  | some (T, K) => cond (allIn T (llen ops)) (some (backA K its).l) none
  | none => none
noncomputable def planOf (C : Ctx) (ops : List Oper) : Option (List PS) :=
  match losOf C ops 0 0 0 with
  | some (l, m) => (match dstsA ops 0 .leaf with
    | some D => planC ops D (cond (Nat.beq m 0) (keyed 0 [] (itemsOf C l 0)) (phases (itemsOf C l 0) (Nat.succ (Nat.mul 2 m)) 0))
    | none => none)
  | none => none
def addrEq (a b : Addr) : Bool := Nat.beq a.block b.block && Nat.beq a.off b.off && (match a.spot, b.spot with | none, none => true | some x, some y => Nat.beq x y | _, _ => false)
noncomputable def valEqs (f : Value → Value → Bool) (l : List Value) : List Value → Bool :=
  List.rec (motive := fun _ => List Value → Bool) (fun m => match m with | [] => true | _ => false) (fun x _ ih m => match m with | [] => false | y :: m => cond (f x y) (ih m) false) l
noncomputable def valEq (n : Nat) : Value → Value → Bool :=
  Nat.rec (motive := fun _ => Value → Value → Bool) (fun _ _ => false)
    (fun _ ih v w => match v, w with
      | .bool a, .bool b => cond a b (not b)
      | .int j a, .int k b => ikeq j k && ieq a b
      | .string a, .string b => a.data.toList == b.data.toList
      | .pointer none, .pointer none => true
      | .pointer (some a), .pointer (some b) => addrEq a b
      | .slice none n c, .slice none m d => Nat.beq n m && Nat.beq c d
      | .slice (some ⟨x, p, i⟩) n c, .slice (some ⟨y, q, j⟩) m d => addrEq ⟨x, p, i⟩ ⟨y, q, j⟩ && Nat.beq n m && Nat.beq c d && (match i with | some 2 => false | _ => true)
      | .map none, .map none => true
      | .map (some a), .map (some b) => Nat.beq a b
      | .nilFunc, .nilFunc => true
      | .nilIface, .nilIface => true
      | .iface t v, .iface u w => Nat.beq t u && ih v w
      | .agg ⟨l⟩, .agg ⟨m⟩ => valEqs ih l m
      | .tuple ⟨l⟩, .tuple ⟨m⟩ => valEqs ih l m
      | _, _ => false) n
noncomputable def celEq (a b : Cel) : Bool :=
  match a, b with
  | .cells l e .exact, .cells m e' .exact => Nat.beq e e' && valEqs (valEq 3) l m
  | .cells l e .grown, .cells m e' .grown => Nat.beq e e' && valEqs (valEq 3) l m
  | .obj (.map ⟨[]⟩ c), .obj (.map ⟨[]⟩ c') => Nat.beq c c'
  | _, _ => false
inductive Pend where
  | val (p : PS) (v : Value)
  | obj (hi b : Nat) (c : Cel)
def Pend.hi : Pend → Nat | .val p _ => p.hi | .obj h _ _ => h
noncomputable def Pend.ok (C : Ctx) (s : Sl) (st : St) (q : Pend) : Bool :=
  match q with
  | .val p v => (match insS C s p.o st p.ins with | some u => valEq 4 u v | none => false)
  | .obj _ b c => (match st.heap.get b with | some c' => celEq c' c | none => false)
def blind : Ins → Bool
  | .move _ | .fieldAddr .. | .pick .. | .extract .. | .idxS .. | .not _ => true
  | _ => false
noncomputable def drawA (C : Ctx) (callF : CallF) (n : Nat) (ops : List Oper) (l : List PS) : Sl → St → Nat → List Pend → OK2 :=
  List.rec (motive := fun _ => Sl → St → Nat → List Pend → OK2) (fun s st _ _ => some (s, st))
    (fun p _ ih s st k pend =>
      cond (wantedA ops s p.o.guard)
        (match insCls p.ins with
        | .still => (match insS C s p.o st p.ins with
          | some v => (match putA n s p.o.dst v with
            | some s' => ih s' st k (cond (Nat.blt k p.hi && not (blind p.ins)) (.val p v :: pend) pend)
            | none => none)
          | none => none)
        | .alloc => (match insN C s p.o p.ins, st.heap.get st.next with
          | some (c, mk), none => (match putA n s p.o.dst (mk st.next) with
            | some s' => ih s' (st.new c) k (cond (Nat.blt k p.hi) (.obj p.hi st.next c :: pend) pend)
            | none => none)
          | _, _ => none)
        | .loud => (match insL C callF s p.o st p.ins with
          | some (v, st') => (match putA n s p.o.dst v with
            | some s' => (match pend.filter fun q => Nat.ble (k + 1) q.hi with
              | [] => ih s' st' (k + 1) []
              | pend' => cond (lall (Pend.ok C s' st') pend') (ih s' st' (k + 1) pend') none)
            | none => none)
          | none => none))
        (match putA n s p.o.dst undefA with
        | some s' => ih s' st (match insCls p.ins with | .loud => k + 1 | _ => k) pend
        | none => none)) l
/-! ## Code -/
inductive Ax where
  | normal | exit (id : Nat) | ret
structure AS where
  s : Sl
  st : St
  ms : List Nat
abbrev CO := Option (Ax × AS)
def jumpA : Code → Option Ax
  | .exit i => some (.exit i)
  | .ret => some .ret
  | _ => none
def codeOf : Ax → Option Code
  | .normal => none
  | .exit i => some (.exit i)
  | .ret => some .ret
noncomputable def loopA (k : Nat) (f : AS → CO) : AS → CO :=
  Nat.rec (motive := fun _ => AS → CO) (fun _ => none) (fun _ ih as => match f as with
    | some (.normal, as') => ih as'
    | r => r) k
noncomputable def slotsList (n : Nat) (s : Sl) : List Value := (List.range n).map fun t => ogetD (s.get t)
noncomputable def St.loop? (st : St) (l : Nat) : Option Loop := match st.heap.get l with | some (.obj (.loop r)) => some r | _ => none
noncomputable def rangeA (callF : CallF) (fn n : Nat) (ps : Array Tmp) (assign body : Code) (g : Value) (as : AS) : CO :=
  let st1 := as.st.new (.obj (.deferred (some [])))
  let L := st1.next
  match g with
      | .func (.func f) ⟨[]⟩ ⟨cap⟩ => (match callF (.fn f) (.func (.yield L) #[] #[] :: cap) (st1.new (.obj (.loop { state := .ready, pending := none, fn := fn, tmps := (slotsList n as.s).toArray, params := ps, assign := assign, body := body, defers := as.st.next }))) with
        | some (_, st3) => (match st3.loop? L with
          | some r => (match r.state with
            | .busy => none
            | _ => (match r.pending with
              | none => some (.normal, ⟨as.s, st3.put L (.obj (.loop { r with state := .exhausted })), as.st.next :: as.ms⟩)
              | some c => (match jumpA c with
                | some x => some (x, ⟨as.s, st3.put L (.obj (.loop { r with state := .exhausted })), as.st.next :: as.ms⟩)
                | none => none)))
          | _ => none)
        | none => none)
      | _ => none
def thenA (f : AS → CO) (r : CO) : CO := match r with
  | some (.normal, as') => f as'
  | r => r
def blockA (id : Nat) (r : CO) : CO := match r with
  | some (.exit i, as') => cond (Nat.beq i id) (some (.normal, as')) (some (.exit i, as'))
  | r => r
def regA (ms : List Nat) (r : OK2) : CO := match r with
  | some (s', st') => some (.normal, ⟨s', st', ms⟩)
  | none => none
noncomputable def regionA (C : Ctx) (callF : CallF) (n : Nat) (ops : List Oper) (draw : Bool) (as : AS) : CO :=
  cond draw (match planOf C ops with
    | some pl => regA as.ms (drawA C callF n ops pl as.s as.st 0 [])
    | none => none) (regA as.ms (opsA C callF n ops ops as.s as.st))
noncomputable def execC (C : Ctx) (callF : CallF) (L fn n : Nat) (top : Bool) (c : Code) : AS → CO :=
  Code.rec (motive := fun _ => AS → CO)
    (fun as => some (.normal, as))
    (fun _ ops draw as => regionA C callF n ops.toList draw as)
    (fun _ _ iha ihb as => thenA ihb (iha as))
    (fun c _ _ ihx ihy as => match evA as.s c with
      | .bool t => cond t (ihx as) (ihy as)
      | _ => none)
    (fun id _ ih as => blockA id (ih as))
    (fun _ ih as => loopA L ih as)
    (fun g ps assign body _ _ as => cond (top && okOpd C g) (rangeA callF fn n ps assign body (evA as.s g) as) none)
    (fun id as => some (.exit id, as))
    (fun _ ih as => ih as)
    (fun _ as => some (.normal, as))
    (fun _ _ => none)
    (fun as => some (.ret, as))
    (fun _ _ => none) c
noncomputable def argsA (l : List Value) : Nat → Sl → Sl :=
  List.rec (motive := fun _ => Nat → Sl → Sl) (fun _ s => s) (fun v _ ih k s => ih (Nat.succ k) (s.set k v)) l
noncomputable def resA (C : Ctx) (s : Sl) (st : St) (l : List ResultVar) : Option (List Value) :=
  List.rec (motive := fun _ => Option (List Value)) (some []) (fun r _ ih => match ih with
    | none => none
    | some l => (match r with
      | .tmp t => some (ogetD (s.get t) :: l)
      | .cell a ty => (match ogetD (s.get a), sizeA C ty with
        | .pointer (some ⟨b, off, none⟩), some none => (match st.cell? b off with | some v => some (v :: l) | none => none)
        | .pointer (some ⟨b, off, none⟩), some (some n) => (match st.cells? b off n with | some cs => some (.agg ⟨cs⟩ :: l) | none => none)
        | _, _ => none))) l
def tupA (l : List Value) : Value := match l with
  | [v] => v
  | l => .tuple ⟨l⟩
noncomputable def takeA (l : List Nat) : St → Option St :=
  List.rec (motive := fun _ => St → Option St) (fun st => some st) (fun D _ ih st => match st.heap.get D with
    | some (.obj (.deferred (some []))) => ih (st.put D (.obj (.deferred none)))
    | _ => none) l
noncomputable def endA (C : Ctx) (rs : List ResultVar) (r : CO) : Option (Value × St) :=
  match r with
  | some (.normal, as) | some (.ret, as) => (match takeA as.ms as.st with
    | some st' => (match resA C as.s st' rs with
      | some l => some (tupA l, st')
      | none => none)
    | none => none)
  | _ => none
noncomputable def beginA (st : St) (l : Nat) : Option St := match st.loop? l with
  | some r => (match r.state with | .ready => some (st.put l (.obj (.loop { r with state := .busy }))) | _ => none)
  | none => none
noncomputable def endRA (st : St) (l : Nat) (x : Ax) : Option (Value × St) := match st.loop? l with
  | some r => (match codeOf x with
    | none => some (.bool true, st.put l (.obj (.loop { r with state := .ready, pending := none })))
    | some c => some (.bool false, st.put l (.obj (.loop { r with state := .done, pending := some c }))))
  | none => none
noncomputable def paramsA (l : List (Tmp × Value)) : Sl → Sl := List.rec (motive := fun _ => Sl → Sl) (fun s => s) (fun x _ ih s => ih (s.set x.1 x.2)) l
noncomputable def roundA (C : Ctx) (callF : CallF) (L l : Nat) (r : Loop) (args : List Value) (st : St) : Option (Value × St) :=
  cond (Nat.beq (llen args) (llen r.params.toList) && lall (fun t => Nat.blt t (llen r.tmps.toList)) r.params.toList)
      (match execC C callF L r.fn (llen r.tmps.toList) false r.assign ⟨paramsA (r.params.toList.zip args) (argsA r.tmps.toList 0 .leaf), st, []⟩ with
      | some (.normal, as1) => (match beginA as1.st l with
        | some st1 => (match execC C callF L r.fn (llen r.tmps.toList) false r.body ⟨as1.s, st1, as1.ms⟩ with
          | some (x, as2) => endRA as2.st l x
          | none => none)
        | none => none)
      | _ => none) none
noncomputable def callA (C : Ctx) (ext ih : CallF) (L f : Nat) (args : List Value) (st : St) : Option (Value × St) :=
  match C.fns.get f with
  | some fn => (match fn.body with
    | some c => cond (fn.name == "runtime.NumGoroutine") none (match ext (.fn f) args st with
      | some r => some r
      | none => cond (Nat.ble (llen args) fn.ntmps) (endA C fn.results.toList (execC C ih L f fn.ntmps true c ⟨argsA args 0 .leaf, st, []⟩)) none)
    | none => none)
  | none => none
noncomputable def go (C : Ctx) (ext : CallF) (L d : Nat) : CallF :=
  Nat.rec (motive := fun _ => CallF) (fun _ _ _ => none)
    (fun _ ih t args st => match t with
      | .fn f => callA C ext ih L f args st
      | .yield l => (match st.loop? l with
        | some r => roundA C ih L l r args st
        | none => none)) d
end Go.Proofs.YtmcbcoafodmbjaaGreatDoor.Ex
