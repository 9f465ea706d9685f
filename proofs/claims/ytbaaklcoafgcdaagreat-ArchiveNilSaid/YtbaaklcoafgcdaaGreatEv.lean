import GoSem.Step
import Derived.Calls
set_option linter.unusedVariables false
namespace Go.Ev
noncomputable def cnd {α : Type} (c : Bool) (x y : α) : α := Bool.rec y x c
noncomputable def uno {α β : Type} (x : Option α) (f : α → Option β) : Option β := Option.rec none f x
noncomputable def dual {α β : Type} (x y : Option α) (f : α → α → Option β) : Option β := uno x fun a => uno y fun b => f a b
/-! ### Tries -/
inductive Tr (α : Type) where
  | nil
  | leaf (a : α)
  | node (l r : Tr α)
noncomputable def Tr.get {α : Type} (t : Tr α) : Nat → Option α :=
  Tr.rec (fun _ => none) (fun a i => cnd (Nat.beq i 0) (some a) none)
    (fun _ _ gl gr i => Bool.rec (gr (Nat.div i 2)) (gl (Nat.div i 2)) (Nat.beq (Nat.mod i 2) 0)) t
noncomputable def Tr.left {α : Type} (t : Tr α) : Tr α := Tr.rec .nil (fun _ => .nil) (fun l _ _ _ => l) t
noncomputable def Tr.right {α : Type} (t : Tr α) : Tr α := Tr.rec .nil (fun _ => .nil) (fun _ r _ _ => r) t
noncomputable def Tr.set {α : Type} (d : Nat) : Tr α → Nat → α → Tr α :=
  Nat.rec (fun _ i a => cnd (Nat.beq i 0) (.leaf a) .nil)
    (fun _ s t i a => Bool.rec (.node t.left (s t.right (Nat.div i 2) a)) (.node (s t.left (Nat.div i 2) a) t.right) (Nat.beq (Nat.mod i 2) 0)) d
noncomputable def Tr.ofList {α : Type} (d : Nat) (l : List α) : Nat → Tr α → Tr α :=
  List.rec (fun _ t => t) (fun a _ ih i t => ih (Nat.succ i) (Tr.set d t i a)) l
noncomputable def nth {α : Type} (l : List α) : Nat → Option α :=
  List.rec (fun _ => none) (fun a _ ih i => Nat.casesOn i (some a) (fun i => ih i)) l
noncomputable def len {α : Type} (l : List α) : Nat := List.rec 0 (fun _ _ n => Nat.succ n) l
noncomputable def dropL {α : Type} (n : Nat) : List α → List α :=
  Nat.rec (fun l => l) (fun _ ih l => List.casesOn l [] (fun _ l => ih l)) n
noncomputable def takeL {α : Type} (n : Nat) : List α → List α :=
  Nat.rec (fun _ => []) (fun _ ih l => List.casesOn l [] (fun a l => a :: ih l)) n
noncomputable def app {α : Type} (l m : List α) : List α := List.rec m (fun a _ r => a :: r) l

/-! ### Abstract values -/
inductive Cap where
  | exact (n : Nat)
  | free (d : Nat)
  | edge (d l sz : Nat)
  | ge (m : Nat)
  | lt (m : Nat)
inductive AVal where
  | bool (b : Bool)
  | int (k : IntKind) (n : Int)
  | flt (k : FloatKind) (b : Nat)
  | cplx (k : FloatKind) (re im : Nat)
  | str (s : List Nat)
  | ptr (a : Option (Nat × Nat))
  | slice (a : Option (Nat × Nat)) (len : Nat) (cap : Cap)
  | map (r : Option Nat)
  | func (f : FuncId) (first captured : List AVal)
  | yieldf (l : Nat)
  | nilFunc
  | nilIface
  | iface (t : TypeId) (v : AVal)
  | agg (cs : List AVal)
  | tuple (vs : List AVal)
  | opq (i k : Nat)
  | capGe (b m : Nat)
  | capLt (b m : Nat)
inductive AObj where
  | cells (c : List AVal) (elem : TypeId) (tail st : Bool)
  | map (es : List (AVal × AVal × Nat)) (clock : Nat)
  | loop (state : LoopState) (pending : Option Code) (fn n : Nat) (T : Tr AVal) (params : Array Tmp) (assign body : Code) (defers : Nat)
  | deferred
  | dead
structure AHp where
  t : Tr AObj
  nx : Nat
inductive AItem where
  | code (c : Code)
  | inBlock (id : Nat)
  | inLoop (body : Code)
  | inScope (body : Code)
  | ops (rest : List Oper) (all : Array Oper)
  | beginRound
structure FI where
  fn : FuncId
  n : Nat
  rnd : Option Nat
abbrev Tm := Tr AVal
noncomputable def TD : Nat := 8
noncomputable def HD : Nat := 13
noncomputable def HN : Nat := 8192
noncomputable def AHp.get (H : AHp) (i : Nat) : Option AObj := H.t.get i
noncomputable def AHp.set (H : AHp) (i : Nat) (o : AObj) : AHp := ⟨H.t.set HD i o, H.nx⟩
noncomputable def AHp.new (H : AHp) (o : AObj) : AHp := ⟨H.t.set HD H.nx o, Nat.succ H.nx⟩

/-! ### Numbers -/
noncomputable def two (k : IntKind) : Nat := IntKind.rec 256 65536 4294967296 18446744073709551616 256 65536 4294967296 18446744073709551616 k
noncomputable def half (k : IntKind) : Nat := IntKind.rec 128 32768 2147483648 9223372036854775808 128 32768 2147483648 9223372036854775808 k
noncomputable def lo (k : IntKind) : Int := cnd k.signed (.negSucc (Nat.sub (half k) 1)) (.ofNat 0)
noncomputable def hi (k : IntKind) : Nat := cnd k.signed (half k) (two k)
noncomputable def toU (k : IntKind) (n : Int) : Nat := Int.rec (fun m => Nat.mod m (two k)) (fun m => Nat.sub (Nat.sub (two k) 1) (Nat.mod m (two k))) n
noncomputable def wrapU (k : IntKind) (m : Nat) : Int :=
  cnd (cnd k.signed (Nat.ble (half k) m) false) (.negSucc (Nat.sub (Nat.sub (two k) 1) m)) (.ofNat m)
noncomputable def wrapS (k : IntKind) (n : Int) : Int := wrapU k (toU k n)
noncomputable def wrapF (k : IntKind) (n : Int) : Int := Int.rec (fun m => cnd (Nat.ble (half k) m) (wrapS k (.ofNat m)) (.ofNat m)) (fun m => wrapS k (.negSucc m)) n
noncomputable def ltI (a b : Int) : Bool :=
  Int.rec (fun m b => Int.rec (fun n => Nat.ble (Nat.succ m) n) (fun _ => false) b) (fun m b => Int.rec (fun _ => true) (fun n => Nat.ble (Nat.succ n) m) b) a b
noncomputable def eqI (a b : Int) : Bool :=
  Int.rec (fun m b => Int.rec (fun n => Nat.beq m n) (fun _ => false) b) (fun m b => Int.rec (fun _ => false) (fun n => Nat.beq m n) b) a b
noncomputable def notB (b : Bool) : Bool := cnd b false true
noncomputable def eqB (a b : Bool) : Bool := cnd a b (notB b)
noncomputable def shrI (x : Int) (n : Nat) : Int := Int.rec (fun m => .ofNat (Nat.div m (Nat.pow 2 n))) (fun m => .negSucc (Nat.div m (Nat.pow 2 n))) x
noncomputable def kIx (k : IntKind) : Nat := IntKind.rec 0 1 2 3 4 5 6 7 k
noncomputable def eqK (a b : IntKind) : Bool := Nat.beq (kIx a) (kIx b)
noncomputable def eqS (a : List Nat) : List Nat → Bool :=
  List.rec (fun b => List.casesOn b true (fun _ _ => false))
    (fun x _ ih b => List.casesOn b false (fun y b => cnd (Nat.beq (Nat.mod x 256) (Nat.mod y 256)) (ih b) false)) a
noncomputable def ltS (a : List Nat) : List Nat → Bool :=
  List.rec (fun b => List.casesOn b false (fun _ _ => true))
    (fun x _ ih b => List.casesOn b false (fun y b =>
      cnd (Nat.ble (Nat.succ (Nat.mod x 256)) (Nat.mod y 256)) true (cnd (Nat.beq (Nat.mod x 256) (Nat.mod y 256)) (ih b) false))) a

/-! ### Types -/
inductive Ext where
  | bits64 | frombits64
  | indexByte
  | overlaps
  | split
structure Cx where
  P : Program
  ty : Tr TypeInfo
  fs : Tr Func
  ex : List (Nat × Ext)
  eqs : List Nat
noncomputable def Cx.of (P : Program) (ex : List (Nat × Ext)) (eqs : List Nat) : Cx :=
  ⟨P, Tr.ofList 10 P.types.toList 0 .nil, Tr.ofList 10 P.funcs.toList 0 .nil, ex, eqs⟩
noncomputable def extIn (f : Nat) (l : List (Nat × Ext)) : Option Ext :=
  List.rec none (fun p _ r => cnd (Nat.beq p.1 f) (some p.2) r) l
noncomputable def extOf (C : Cx) (f : Nat) : Option Ext := extIn f C.ex
noncomputable def memN (t : Nat) (l : List Nat) : Bool := List.rec false (fun a _ r => cnd (Nat.beq a t) true r) l
noncomputable def info (C : Cx) (t : TypeId) : Option TypeInfo := C.ty.get t
noncomputable def und (C : Cx) (t : TypeId) : Option TypeDesc :=
  match info C t with
  | some i => match i.desc with
    | .named _ u => match info C u with
      | some j => some j.desc
      | none => none
    | d => some d
  | none => none
noncomputable def isAggD : TypeDesc → Bool
  | .struct _ | .array _ _ => true
  | _ => false
mutual
noncomputable def ofConst : Nat → Value → Option AVal
  | _, .bool b => some (.bool b)
  | _, .int k n => some (.int k n)
  | _, .float k b => some (.flt k b)
  | _, .complex k a b => some (.cplx k a b)
  | _, .string s => some (.str (s.data.toList.map (·.toNat)))
  | _, .pointer none => some (.ptr none)
  | _, .slice none 0 0 => some (.slice none 0 (.exact 0))
  | _, .map none => some (.map none)
  | _, .nilFunc => some .nilFunc
  | _, .nilIface => some .nilIface
  | d + 1, .agg cs => match ofConsts d cs.toList with
    | some l => some (.agg l)
    | none => none
  | d + 1, .tuple cs => match ofConsts d cs.toList with
    | some l => some (.tuple l)
    | none => none
  | _, _ => none
noncomputable def ofConsts : Nat → List Value → Option (List AVal)
  | _, [] => some []
  | d, v :: l => match ofConst d v with
    | some a => match ofConsts d l with
      | some as => some (a :: as)
      | none => none
    | none => none
end
noncomputable def AVal.one : AVal → Bool
  | .agg _ | .tuple _ | .opq _ _ => false
  | _ => true
noncomputable def AVal.cells : AVal → List AVal
  | .agg cs => cs
  | v => [v]
noncomputable def allOne (l : List AVal) : Bool := List.rec true (fun v _ r => cnd v.one r false) l
noncomputable def zeroOf (C : Cx) (t : TypeId) : Option AVal :=
  match info C t with
  | some i => match i.zero with
    | some v => ofConst 3 v
    | none => none
  | none => none
noncomputable def zeroCs (C : Cx) (t : TypeId) : Option (List AVal) :=
  match zeroOf C t with
  | some v => cnd (allOne v.cells) (some v.cells) none
  | none => none
noncomputable def sizeOf (C : Cx) (t : TypeId) : Option Nat := match info C t with
  | some i => some i.size
  | none => none
/-- 'none': no such type; 'some none': a value of one cell; 'some (some s)': of s cells, an aggregate -/
noncomputable def shapeOf (C : Cx) (t : TypeId) : Option (Option Nat) :=
  match und C t with
  | some d => match sizeOf C t with
    | some s => cnd (isAggD d) (some (some s)) (some none)
    | none => none
  | none => none
/-- the element's type and size, of a slice's type -/
noncomputable def elemOf (C : Cx) (t : TypeId) : Option (Nat × Nat) :=
  match und C t with
  | some (.slice e) => match sizeOf C e with
    | some (s + 1) => some (e, s + 1)
    | _ => none
  | _ => none
noncomputable def arrOf (C : Cx) (t : TypeId) : Option (Nat × Nat × Nat) :=
  match und C t with
  | some (.array n e) => match sizeOf C e with
    | some s => some (n, e, s)
    | _ => none
  | _ => none
noncomputable def fieldOf (C : Cx) (t : TypeId) (f : Nat) : Option (Nat × Option Nat) :=
  match und C t with
  | some (.struct fs) => match nth fs.toList f with
    | some f => match shapeOf C f.type with
      | some s => some (f.offset, s)
      | none => none
    | none => none
  | _ => none
noncomputable def fieldSz (C : Cx) (t : TypeId) (f : Nat) : Option Nat :=
  match und C t with
  | some (.struct fs) => match nth fs.toList f with
    | some f => match sizeOf C f.type with
      | some (s + 1) => some f.offset
      | _ => none
    | none => none
  | _ => none

noncomputable def ev (T : Tm) (x : Operand) : Option AVal :=
  Operand.rec (fun t T => Tr.get T t) (fun v _ => ofConst 3 v) (fun _ _ => none) (fun f _ => some (.func f [] [])) x T
noncomputable def evs (T : Tm) (l : List Operand) : Option (List AVal) :=
  List.rec (some []) (fun x _ r => match ev T x with
    | some a => match r with
      | some as => some (a :: as)
      | none => none
    | none => none) l
noncomputable def evParts (T : Tm) (l : List (Nat × Operand)) : Option (List (Nat × AVal)) :=
  List.rec (some []) (fun x _ r => match ev T x.2 with
    | some a => match r with
      | some as => some ((x.1, a) :: as)
      | none => none
    | none => none) l
noncomputable def evO (T : Tm) (x : Option Operand) : Option (Option AVal) :=
  match x with
  | none => some none
  | some x => match ev T x with
    | some a => some (some a)
    | none => none

noncomputable def setAt (n : Nat) (vs : List AVal) : List AVal → List AVal :=
  Nat.rec (fun cs => app vs (dropL (len vs) cs)) (fun _ ih cs => List.casesOn cs [] (fun c cs => c :: ih cs)) n
noncomputable def fillP (place : Nat → Option (Nat × Nat)) (l : List (Nat × AVal)) : List AVal → Option (List AVal) :=
  List.rec (fun cells => some cells) (fun x _ ih cells =>
    match place x.1 with
    | none => none
    | some p => cnd (Nat.beq (len x.2.cells) p.2) (cnd (Nat.ble (Nat.add p.1 p.2) (len cells)) (ih (setAt p.1 x.2.cells cells)) none) none) l
noncomputable def placesOf (C : Cx) (l : List Field) : Option (List (Nat × Nat)) :=
  List.rec (some []) (fun f _ r => match sizeOf C f.type with
    | some s => match r with
      | some r => some ((f.offset, s) :: r)
      | none => none
    | none => none) l
noncomputable def placesT (C : Cx) (t : TypeId) : Option (List (Nat × Nat)) :=
  match und C t with
  | some (.struct fs) => placesOf C fs.toList
  | _ => none
noncomputable def repZ (z : List AVal) (n : Nat) : List AVal := Nat.rec [] (fun _ r => app z r) n

noncomputable def rowAt (H : AHp) (b : Nat) : Option (List AVal) := match H.get b with
  | some (.cells c _ _ _) => some c
  | _ => none
noncomputable def part (cs : List AVal) (off : Nat) (s : Option Nat) : Option AVal := match s with
  | none => nth cs off
  | some s => cnd (Nat.ble (Nat.add off s) (len cs)) (some (.agg (takeL s (dropL off cs)))) none
noncomputable def loadA (C : Cx) (H : AHp) (t : TypeId) (a : AVal) : Option AVal := match a with
  | .ptr (some p) => match rowAt H p.1 with
    | some c => match shapeOf C t with
      | some s => part c p.2 s
      | none => none
    | none => none
  | _ => none
noncomputable def storeCs (H : AHp) (b off : Nat) (vs : List AVal) : Option AHp :=
  match H.get b with
  | some (.cells c e tl st) =>
    cnd (Nat.ble (Nat.add off (len vs)) (len c)) (cnd (allOne vs) (some (H.set b (.cells (setAt off vs c) e tl st))) none) none
  | _ => none
noncomputable def storeA (C : Cx) (H : AHp) (t : TypeId) (a v : AVal) : Option AHp := match a with
  | .ptr (some p) => match sizeOf C t with
    | some s => cnd (Nat.beq (len v.cells) s) (storeCs H p.1 p.2 v.cells) none
    | none => none
  | _ => none

/-! ### Equality -/
noncomputable def isN {α : Type} (o : Option α) : Bool := match o with
  | none => true
  | some _ => false
noncomputable def eqPlain (d : TypeDesc) (x y : AVal) : Option Bool :=
  match d with
  | .bool => match x with
    | .bool a => match y with
      | .bool b => some (eqB a b)
      | _ => none
    | _ => none
  | .int _ => match x with
    | .int k a => match y with
      | .int k' b => cnd (eqK k k') (some (eqI a b)) none
      | _ => none
    | _ => none
  | .string => match x with
    | .str a => match y with
      | .str b => some (eqS a b)
      | _ => none
    | _ => none
  | .pointer _ => match x with
    | .ptr none => match y with
      | .ptr b => some (isN b)
      | _ => none
    | .ptr (some _) => match y with
      | .ptr none => some false
      | _ => none
    | _ => none
  | .interface _ => match x with
    | .nilIface => match y with
      | .iface _ _ => some false
      | _ => none
    | .iface _ _ => match y with
      | .nilIface => some false
      | _ => none
    | _ => none
  | .slice _ => match x with
    | .slice none _ _ => match y with
      | .slice b _ _ => some (isN b)
      | _ => none
    | .slice (some _) _ _ => match y with
      | .slice none _ _ => some false
      | _ => none
    | _ => none
  | .map _ _ => match x with
    | .map none => match y with
      | .map b => some (isN b)
      | _ => none
    | .map (some _) => match y with
      | .map none => some false
      | _ => none
    | _ => none
  | .func _ _ _ => match x with
    | .nilFunc => match y with
      | .nilFunc => some true
      | .func _ _ _ => some false
      | _ => none
    | .func _ _ _ => match y with
      | .nilFunc => some false
      | _ => none
    | _ => none
  | _ => none
noncomputable def partT (C : Cx) (t : TypeId) (cs : List AVal) (off : Nat) : Option AVal := match shapeOf C t with
  | some s => part cs off s
  | none => none
noncomputable def eqFs (C : Cx) (eq : TypeId → AVal → AVal → Option Bool) (a b : List AVal) (l : List Field) : Option Bool :=
  List.rec (some true) (fun f _ r =>
    cnd (f.name == "_") r (match partT C f.type a f.offset with
      | some x => match partT C f.type b f.offset with
        | some y => match eq f.type x y with
          | some true => r
          | some false => some false
          | none => none
        | none => none
      | none => none)) l
noncomputable def eqA1 (C : Cx) (eq : TypeId → AVal → AVal → Option Bool) (t : TypeId) (x y : AVal) : Option Bool :=
  match und C t with
  | some (.struct fs) => match x with
    | .agg a => match y with
      | .agg b => cnd (memN t C.eqs) (eqFs C eq a b fs.toList) none
      | _ => none
    | _ => none
  | some u => eqPlain u x y
  | none => none
noncomputable def eqA (C : Cx) (n : Nat) : TypeId → AVal → AVal → Option Bool :=
  Nat.rec (fun _ _ _ => none) (fun _ ih t x y => eqA1 C ih t x y) n

noncomputable def okB (b : Bool) : Option AVal := some (.bool b)
noncomputable def okI (k : IntKind) (n : Int) : Option AVal := some (.int k n)
noncomputable def okF (r : Option Nat) : Option AVal := match r with
  | some b => some (.flt .f64 b)
  | none => none
noncomputable def fltA (op : BinOp) (a b : Nat) : Option AVal :=
  match op with
  | .add => okF (FloatKind.f64.format.add a b)
  | .sub => okF (FloatKind.f64.format.sub a b)
  | .mul => okF (FloatKind.f64.format.mul a b)
  | .quo => okF (FloatKind.f64.format.div a b)
  | .eql => okB (FloatKind.f64.format.order a b == some .eq)
  | .neq => okB (FloatKind.f64.format.order a b != some .eq)
  | .lss => okB (FloatKind.f64.format.order a b == some .lt)
  | .leq => okB (FloatKind.f64.format.order a b == some .lt || FloatKind.f64.format.order a b == some .eq)
  | .gtr => okB (FloatKind.f64.format.order a b == some .gt)
  | .geq => okB (FloatKind.f64.format.order a b == some .gt || FloatKind.f64.format.order a b == some .eq)
  | _ => none
noncomputable def okC (r s : Option Nat) : Option AVal := match r with
  | some a => match s with
    | some b => some (.cplx .f64 a b)
    | none => none
  | none => none
noncomputable def cplxA (op : BinOp) (a b c d : Nat) : Option AVal :=
  match op with
  | .add => okC (FloatKind.f64.format.add a c) (FloatKind.f64.format.add b d)
  | .sub => okC (FloatKind.f64.format.sub a c) (FloatKind.f64.format.sub b d)
  | _ => none
noncomputable def quoI (k : IntKind) (a b : Int) : Option AVal := cnd (eqI b (.ofNat 0)) none (some (.int k (wrapF k (Int.tdiv a b))))
noncomputable def remI (k : IntKind) (a b : Int) : Option AVal := cnd (eqI b (.ofNat 0)) none (some (.int k (Int.tmod a b)))
noncomputable def intA (op : BinOp) (k : IntKind) (a b : Int) : Option AVal :=
  BinOp.rec
    (fun k a b => okI k (wrapF k (Int.add a b)))
    (fun k a b => okI k (wrapF k (Int.sub a b)))
    (fun k a b => okI k (wrapF k (Int.mul a b)))
    quoI remI
    (fun k a b => okI k (wrapU k (Nat.land (toU k a) (toU k b))))
    (fun k a b => okI k (wrapU k (Nat.lor (toU k a) (toU k b))))
    (fun k a b => okI k (wrapU k (Nat.xor (toU k a) (toU k b))))
    (fun _ _ _ => none) (fun _ _ _ => none)
    (fun k a b => okI k (wrapU k (Nat.land (toU k a) (Nat.sub (Nat.sub (two k) 1) (toU k b)))))
    (fun _ a b => okB (eqI a b))
    (fun _ a b => okB (notB (eqI a b)))
    (fun _ a b => okB (ltI a b))
    (fun _ a b => okB (notB (ltI b a)))
    (fun _ a b => okB (ltI b a))
    (fun _ a b => okB (notB (ltI a b)))
    op k a b
noncomputable def minN (a b : Nat) : Nat := cnd (Nat.ble a b) a b
noncomputable def shiftA (op : BinOp) (k : IntKind) (a b : Int) : Option AVal :=
  match b with
  | .ofNat n => match op with
    | .shl => okI k (wrapF k (Int.mul a (.ofNat (Nat.pow 2 (minN n k.bits)))))
    | .shr => okI k (shrI a (minN n k.bits))
    | _ => none
  | .negSucc _ => none
noncomputable def isShift : BinOp → Bool
  | .shl | .shr => true
  | _ => false
noncomputable def binInt (op : BinOp) (k : IntKind) (a : Int) (k' : IntKind) (b : Int) : Option AVal :=
  cnd (isShift op) (shiftA op k a b) (cnd (eqK k k') (intA op k a b) none)
noncomputable def strA (op : BinOp) (a b : List Nat) : Option AVal :=
  match op with
  | .add => cnd (Nat.ble (Nat.add (len a) (len b)) 1000000) (some (.str (app a b))) none
  | .eql => okB (eqS a b)
  | .neq => okB (notB (eqS a b))
  | .lss => okB (ltS a b)
  | .leq => okB (notB (ltS b a))
  | .gtr => okB (ltS b a)
  | .geq => okB (notB (ltS a b))
  | _ => none
noncomputable def capA (op : BinOp) (a : Int) (geq : Bool) (m : Nat) : Option AVal :=
  match op with
  | .gtr => match a with
    | .ofNat n => cnd geq (cnd (Nat.ble n m) (okB false) none) (cnd (Nat.ble m n) (okB true) none)
    | .negSucc _ => none
  | _ => none
noncomputable def eqOp (C : Cx) (op : BinOp) (t : TypeId) (x y : AVal) : Option AVal :=
  match op with
  | .eql => match eqA C 8 t x y with
    | some b => okB b
    | none => none
  | .neq => match eqA C 8 t x y with
    | some b => okB (notB b)
    | none => none
  | _ => none
noncomputable def binI (k : IntKind) (a : Int) (op : BinOp) (y : AVal) : Option AVal :=
  (match y with
  | .int k' b => fun op k a => binInt op k a k' b
  | .capGe _ m => fun op k a => cnd (eqK k .i64) (capA op a true m) none
  | .capLt _ m => fun op k a => cnd (eqK k .i64) (capA op a false m) none
  | _ => fun _ _ _ => none : BinOp → IntKind → Int → Option AVal) op k a
noncomputable def binS (a : List Nat) (op : BinOp) (y : AVal) : Option AVal := match y with
  | .str b => strA op a b
  | _ => none
noncomputable def binF (a : Nat) (op : BinOp) (y : AVal) : Option AVal := match y with
  | .flt .f64 b => fltA op a b
  | _ => none
noncomputable def binC (a b : Nat) (op : BinOp) (y : AVal) : Option AVal := match y with
  | .cplx .f64 c d => cplxA op a b c d
  | _ => none
noncomputable def binA (C : Cx) (op : BinOp) (t : TypeId) (x y : AVal) : Option AVal :=
  (match x with
  | .int k a => fun _ op _ y => binI k a op y
  | .str a => fun _ op _ y => binS a op y
  | .flt .f64 a => fun _ op _ y => binF a op y
  | .cplx .f64 a b => fun _ op _ y => binC a b op y
  | .capGe _ _ | .capLt _ _ | .opq _ _ | .flt _ _ | .cplx _ _ _ => fun _ _ _ _ => none
  | x => fun C op t y => eqOp C op t x y : Cx → BinOp → TypeId → AVal → Option AVal) C op t y
noncomputable def unA (op : UnOp) (x : AVal) : Option AVal :=
  match x with
  | .int k n => match op with
    | .neg => okI k (wrapF k (Int.sub (.ofNat 0) n))
    | .xor => okI k (wrapU k (Nat.sub (Nat.sub (two k) 1) (toU k n)))
    | _ => none
  | .bool b => match op with
    | .not => okB (notB b)
    | _ => none
  | .flt k b => match op with
    | .neg => some (.flt k (Op.negFloat k b))
    | _ => none
  | _ => none

noncomputable def bytesOfCells (l : List AVal) : Option (List Nat) :=
  List.rec (some []) (fun a _ r => match a with
    | .int .u8 (.ofNat n) => match r with
      | some r => some (Nat.mod n 256 :: r)
      | none => none
    | _ => none) l
noncomputable def bytesCells (s : List Nat) : List AVal := List.rec [] (fun n _ r => .int .u8 (.ofNat (Nat.mod n 256)) :: r) s
noncomputable def sliceCells (H : AHp) (s : Nat) (a : Option (Nat × Nat)) (n : Nat) : Option (List AVal) :=
  match a with
  | none => cnd (Nat.beq n 0) (some []) none
  | some p => match rowAt H p.1 with
    | some c => cnd (Nat.ble (Nat.add p.2 (Nat.mul n s)) (len c)) (some (takeL (Nat.mul n s) (dropL p.2 c))) none
    | none => none
noncomputable def boundA (x : Option AVal) (dflt lim : Nat) : Option Nat :=
  match x with
  | none => some dflt
  | some (.int _ (.ofNat i)) => cnd (Nat.ble i lim) (some i) none
  | _ => none
/-- what a bound may be at most: of a free capacity only the length -/
noncomputable def capLim (len : Nat) : Cap → Nat
  | .exact n => n
  | .free _ => len
  | .edge _ _ _ => 0
  | .ge m => m
  | .lt _ => len
noncomputable def moveP (a : Option (Nat × Nat)) (k : Nat) : Option (Nat × Nat) := match a with
  | some p => some (p.1, Nat.add p.2 k)
  | none => none
noncomputable def cutFree (a : Option (Nat × Nat)) (len l h d size : Nat) : AVal :=
  cnd (Nat.ble (Nat.succ l) len) (.slice (moveP a (Nat.mul l size)) (Nat.sub h l) (.free (Nat.add d l))) (.slice a 0 (.edge d l size))
/-- a slice cut at 'l' and 'h' -/
noncomputable def cutA (a : Option (Nat × Nat)) (len : Nat) (cap : Cap) (size l h : Nat) : Option AVal :=
  match cap with
  | .exact m => some (.slice (cnd (Nat.beq m l) a (moveP a (Nat.mul l size))) (Nat.sub h l) (.exact (Nat.sub m l)))
  | .free d => some (cnd (Nat.beq l 0) (.slice a h (.free d)) (cutFree a len l h d size))
  | .edge _ _ _ => some (.slice a 0 cap)
  | .ge m => cnd (Nat.beq l 0) (some (.slice a h cap)) (cnd (Nat.ble (Nat.succ l) m) (some (.slice (moveP a (Nat.mul l size)) (Nat.sub h l) (.free l))) none)
  | .lt m => some (cnd (Nat.beq l 0) (.slice a h cap) (cutFree a len l h 0 size))
noncomputable def cutStr (s : List Nat) (l h : Nat) : Option AVal := some (.str (dropL l (takeL h s)))
noncomputable def sliceS (C : Cx) (t : TypeId) (a : Option (Nat × Nat)) (n : Nat) (cap : Cap) (lo hi mx : Option AVal) : Option AVal :=
  match elemOf C t with
  | some es => match mx with
    | none => match boundA hi n (capLim n cap) with
      | some h => match boundA lo 0 h with
        | some l => cutA a n cap es.2 l h
        | none => none
      | none => none
    | some _ => match boundA mx 0 (capLim n cap) with
      | some m => match boundA hi 0 m with
        | some h => match boundA lo 0 h with
          | some l => match hi with
            | some _ => match cap with
              | .edge _ _ _ => none
              | _ => some (.slice (cnd (Nat.beq m l) a (moveP a (Nat.mul l es.2))) (Nat.sub h l) (.exact (Nat.sub m l)))
            | none => none
          | none => none
        | none => none
      | none => none
  | none => none
noncomputable def sliceA (C : Cx) (t : TypeId) (x : AVal) (lo hi mx : Option AVal) : Option AVal :=
  match x with
  | .str s => match und C t with
    | some .string => match mx with
      | none => match boundA hi (len s) (len s) with
        | some h => match boundA lo 0 h with
          | some l => cutStr s l h
          | none => none
        | none => none
      | some _ => none
    | _ => none
  | .slice a n cap => sliceS C t a n cap lo hi mx
  | _ => none

/-! ### Maps -/
noncomputable def keyK (C : Cx) (t : TypeId) : Bool := match und C t with
  | some .string => true
  | _ => false
noncomputable def findA (k : List Nat) (l : List (AVal × AVal × Nat)) : Option (Option AVal) :=
  List.rec (some none) (fun e _ r => match e.1 with
    | .str b => cnd (eqS k b) (some (some e.2.1)) r
    | _ => none) l
noncomputable def putA (k : List Nat) (v : AVal) (c : Nat) (l : List (AVal × AVal × Nat)) : List (AVal × AVal × Nat) :=
  List.rec [(.str k, v, c)] (fun e l r => match e.1 with
    | .str b => cnd (eqS k b) ((.str k, v, e.2.2) :: l) (e :: r)
    | _ => e :: r) l
noncomputable def delA (k : List Nat) (l : List (AVal × AVal × Nat)) : List (AVal × AVal × Nat) :=
  List.rec [] (fun e l r => match e.1 with
    | .str b => cnd (eqS k b) l (e :: r)
    | _ => e :: r) l
/-- a map's type over texts: the element's type -/
noncomputable def mapT (C : Cx) (t : TypeId) : Option Nat := match und C t with
  | some (.map kt e) => cnd (keyK C kt) (some e) none
  | _ => none
noncomputable def entries (H : AHp) (r : Option Nat) : Option (List (AVal × AVal × Nat)) := match r with
  | none => some []
  | some r => match H.get r with
    | some (.map es _) => some es
    | _ => none
noncomputable def lookA (C : Cx) (H : AHp) (t : TypeId) (m k : AVal) (ok : Bool) : Option AVal :=
  match m with
  | .map r => match k with
    | .str k => match mapT C t with
      | some e => match entries H r with
        | some es => match findA k es with
          | some (some v) => some (cnd ok (.tuple [v, .bool true]) v)
          | some none => match zeroOf C e with
            | some z => some (cnd ok (.tuple [z, .bool false]) z)
            | none => none
          | none => none
        | none => none
      | none => none
    | _ => none
  | _ => none
noncomputable def updA (C : Cx) (H : AHp) (t : TypeId) (m k v : AVal) : Option AHp :=
  match m with
  | .map (some r) => match k with
    | .str k => match mapT C t with
      | some _ => match H.get r with
        | some (.map es c) => match findA k es with
          | some (some _) => some (H.set r (.map (putA k v c es) c))
          | some none => some (H.set r (.map (putA k v c es) (Nat.succ c)))
          | none => none
        | _ => none
      | none => none
    | _ => none
  | _ => none
noncomputable def dropA (C : Cx) (H : AHp) (t : TypeId) (m k : AVal) : Option AHp :=
  match m with
  | .map (some r) => match k with
    | .str k => match mapT C t with
      | some _ => match H.get r with
        | some (.map es c) => match findA k es with
          | some _ => some (H.set r (.map (delA k es) c))
          | none => none
        | _ => none
      | none => none
    | _ => none
  | _ => none

/-! ### append, copy -/
/-- the type of what is appended: no number (append(s, make(..)...) is not taken here) -/
noncomputable def srcT (C : Cx) (t : TypeId) : Bool := match und C t with
  | some (.int _) => false
  | some _ => true
  | none => false
noncomputable def smallT (C : Cx) (t : TypeId) : Bool := match info C t with
  | some i => cnd (Nat.ble i.bytes 100000) (match zeroCs C t with
    | some z => Nat.beq (len z) i.size
    | none => false) false
  | none => false
noncomputable def srcA (C : Cx) (H : AHp) (s : Nat) (x : AVal) : Option (List AVal × Nat) :=
  match x with
  | .slice a n _ => match sliceCells H s a n with
    | some cs => some (cs, n)
    | none => none
  | .str b => cnd (Nat.beq s 1) (some (bytesCells b, len b)) none
  | _ => none
noncomputable def setOk (r : Option AHp) (v : AVal) : Option (AVal × AHp) := match r with
  | some H => some (v, H)
  | none => none
/-- the row grows: a new one -/
noncomputable def grownA (H : AHp) (cs : List AVal) (elem n : Nat) (st : Bool) : Option (AVal × AHp) :=
  cnd (allOne cs) (cnd (Nat.ble n 1000000) (cnd (Nat.ble (Nat.succ H.nx) HN) (some (.slice (some (H.nx, 0)) n (.free 0), H.new (.cells cs elem true st))) none) none) none
/-- in place -/
noncomputable def withinA (H : AHp) (base : Option (Nat × Nat)) (off : Nat) (new : List AVal) (v : AVal) : Option (AVal × AHp) :=
  match base with
  | none => match new with
    | [] => some (v, H)
    | _ => none
  | some p => setOk (storeCs H p.1 (Nat.add p.2 off) new) v
noncomputable def freeA (H : AHp) (base : Option (Nat × Nat)) (e s n : Nat) (old new : List AVal) (m : Nat) : Option (AVal × AHp) :=
  match base with
  | some p => match H.get p.1 with
    | some (.cells c e' true st) => cnd (Nat.beq p.2 0) (cnd (Nat.beq (Nat.mul n s) (len c)) (cnd (Nat.beq e e') (grownA (H.set p.1 .dead) (app old new) e m st) none) none) none
    | _ => none
  | none => none
noncomputable def appendC (H : AHp) (base : Option (Nat × Nat)) (n : Nat) (cap : Cap) (e s : Nat) (old new : List AVal) (k : Nat) : Option (AVal × AHp) :=
  match cap with
  | .exact c => cnd (Nat.ble (Nat.add n k) c) (withinA H base (Nat.mul n s) new (.slice base (Nat.add n k) cap))
      (cnd (Nat.ble c 1000000) (grownA H (app old new) e (Nat.add n k) false) none)
  | .ge m => cnd (Nat.ble (Nat.add n k) m) (withinA H base (Nat.mul n s) new (.slice base (Nat.add n k) cap)) none
  | .lt m => cnd (Nat.ble m (Nat.add n k)) (grownA H (app old new) e (Nat.add n k) false) none
  | .free d => cnd (Nat.beq d 0) (cnd (Nat.beq k 0) (some (.slice base n cap, H)) (freeA H base e s n old new (Nat.add n k))) none
  | .edge _ _ _ => none
noncomputable def appendA (C : Cx) (H : AHp) (st xt : TypeId) (s x : AVal) : Option (AVal × AHp) :=
  match s with
  | .slice base n cap => match elemOf C st with
    | some es => cnd (smallT C es.1) (cnd (srcT C xt) (match srcA C H es.2 x with
      | some nk => match sliceCells H es.2 base n with
        | some old => appendC H base n cap es.1 es.2 old nk.1 nk.2
        | none => none
      | none => none) none) none
    | none => none
  | _ => none
noncomputable def copyA (C : Cx) (H : AHp) (st : TypeId) (d x : AVal) : Option (AVal × AHp) :=
  match d with
  | .slice base dn _ => match x with
    | .slice a n _ => match elemOf C st with
      | some es => match sliceCells H es.2 a (minN n dn) with
        | some cs => withinA H base 0 cs (.int .i64 (.ofNat (minN n dn)))
        | none => none
      | none => none
    | _ => none
  | _ => none
noncomputable def overlapsA (H : AHp) (x y : AVal) : Option AVal :=
  match x with
  | .slice (some p) _ _ => match y with
    | .slice (some q) _ _ => match H.get p.1 with
      | some (.cells _ _ _ false) => match H.get q.1 with
        | some (.cells _ _ _ false) => cnd (Nat.beq p.1 q.1) none (okB false)
        | _ => none
      | _ => none
    | _ => none
  | _ => none

/-! ### One operation -/
noncomputable def lenM (H : AHp) (r : Option Nat) : Option AVal := match entries H r with
  | some es => some (.int .i64 (.ofNat (len es)))
  | none => none
noncomputable def lenA (C : Cx) (H : AHp) (t : TypeId) (x : AVal) : Option AVal :=
  match und C t with
  | some .string => match x with
    | .str s => some (.int .i64 (.ofNat (len s)))
    | _ => none
  | some (.slice _) => match x with
    | .slice _ n _ => some (.int .i64 (.ofNat n))
    | _ => none
  | some (.array n _) => some (.int .i64 (.ofNat n))
  | some (.map _ _) => match x with
    | .map r => lenM H r
    | _ => none
  | _ => none
noncomputable def capB (C : Cx) (t : TypeId) (x : AVal) : Option AVal :=
  match und C t with
  | some (.slice _) => match x with
    | .slice a _ c => match c with
      | .exact n => some (.int .i64 (.ofNat n))
      | .ge m => match a with
        | some p => some (.capGe p.1 m)
        | none => none
      | .lt m => match a with
        | some p => some (.capLt p.1 m)
        | none => none
      | _ => none
    | _ => none
  | _ => none
noncomputable def minA (x y : AVal) : Option AVal := match x with
  | .int k a => match y with
    | .int _ b => some (.int k (cnd (ltI b a) b a))
    | _ => none
  | .str a => match y with
    | .str b => some (.str (cnd (ltS b a) b a))
    | _ => none
  | _ => none
noncomputable def maxA (x y : AVal) : Option AVal := match x with
  | .int k a => match y with
    | .int _ b => some (.int k (cnd (ltI a b) b a))
    | _ => none
  | .str a => match y with
    | .str b => some (.str (cnd (ltS a b) b a))
    | _ => none
  | _ => none
noncomputable def realA (x : AVal) : Option AVal := match x with
  | .cplx k a _ => some (.flt k a)
  | _ => none
noncomputable def imagA (x : AVal) : Option AVal := match x with
  | .cplx k _ b => some (.flt k b)
  | _ => none
noncomputable def cplxB (x y : AVal) : Option AVal := match x with
  | .flt .f64 a => match y with
    | .flt .f64 b => some (.cplx .f64 a b)
    | _ => none
  | _ => none
noncomputable def one {α β : Type} (l : Option (List α)) (f : α → Option β) : Option β := match l with
  | some [a] => f a
  | _ => none
noncomputable def duo {α β : Type} (l : Option (List α)) (f : α → α → Option β) : Option β := match l with
  | some [a, b] => f a b
  | _ => none
noncomputable def fltInt (k : IntKind) (b : Nat) : Option AVal := match (FloatKind.f64.decode b).toInt .zero with
  | some n => cnd (ltI n (lo k)) none (cnd (ltI n (.ofNat (hi k))) (some (.int k n)) none)
  | none => none
/-- a conversion that makes no block -/
noncomputable def convA (C : Cx) (H : AHp) (s d : TypeId) (x : AVal) : Option AVal :=
  match x with
  | .int _ n => match und C s with
    | some (.int _) => match und C d with
      | some (.int k) => some (.int k (wrapF k n))
      | some (.float .f64) => some (.flt .f64 (FloatKind.f64.nearest n))
      | _ => none
    | _ => none
  | .flt .f64 b => match und C s with
    | some (.float _) => match und C d with
      | some (.int k) => fltInt k b
      | some (.float .f64) => some (.flt .f64 b)
      | _ => none
    | _ => none
  | .str b => match und C s with
    | some .string => match und C d with
      | some .string => some (.str b)
      | _ => none
    | _ => none
  | .slice a n _ => match und C s with
    | some (.slice e) => match und C e with
      | some (.int .u8) => match und C d with
        | some .string => match sizeOf C e with
          | some 1 => match sliceCells H 1 a n with
            | some cs => match bytesOfCells cs with
              | some b => some (.str b)
              | none => none
            | none => none
          | _ => none
        | _ => none
      | _ => none
    | _ => none
  | _ => none
/-- []byte to []byte: the row is marked -/
noncomputable def sameConv (C : Cx) (H : AHp) (s d : TypeId) (x : AVal) : Option (AVal × AHp) :=
  match x with
  | .slice (some p) n c => match und C s with
    | some (.slice e) => match und C e with
      | some (.int .u8) => cnd (Nat.beq s d) (match H.get p.1 with
        | some (.cells cs e' tl _) => some (.slice (some p) n c, H.set p.1 (.cells cs e' tl true))
        | _ => none) none
      | _ => none
    | _ => none
  | _ => none
noncomputable def bytesNew (C : Cx) (s d : TypeId) (x : AVal) : Option (AObj × (Nat → AVal)) :=
  match x with
  | .str b => match und C s with
    | some .string => match und C d with
      | some (.slice e) => match und C e with
        | some (.int .u8) => match sizeOf C e with
          | some 1 => some (.cells (bytesCells b) e true true, fun i => .slice (some (i, 0)) (len b) (.free 0))
          | _ => none
        | _ => none
      | _ => none
    | _ => none
  | _ => none
inductive CK where
  | plain | bytes | same
noncomputable def convKind (C : Cx) (s d : TypeId) : CK :=
  match und C s with
  | some .string => match und C d with
    | some (.slice _) => .bytes
    | _ => .plain
  | some (.slice _) => match und C d with
    | some (.slice _) => .same
    | _ => .plain
  | _ => .plain
noncomputable def newPtr (c : Option (List AVal)) (e : TypeId) : Option (AObj × (Nat → AVal)) := match c with
  | some c => some (.cells c e false false, fun i => .ptr (some (i, 0)))
  | none => none
noncomputable def oneCs (v : Option AVal) : Option (List AVal) := match v with
  | some v => cnd (allOne v.cells) (some v.cells) none
  | none => none
noncomputable def buildA (C : Cx) (t : TypeId) (ps : Option (List (Nat × AVal))) : Option AVal :=
  match ps with
  | some ps => match zeroOf C t with
    | some z => match placesT C t with
      | some pl => match fillP (nth pl) ps z.cells with
        | some cs => some (.agg cs)
        | none => none
      | none => match arrOf C t with
        | some a => match fillP (fun i => some (Nat.mul i a.2.2, a.2.2)) ps z.cells with
          | some cs => some (.agg cs)
          | none => none
        | none => none
    | none => none
  | none => none
noncomputable def buildS (C : Cx) (t : TypeId) (n : Nat) (ps : Option (List (Nat × AVal))) : Option (AObj × (Nat → AVal)) :=
  match ps with
  | some ps => match elemOf C t with
    | some es => cnd (Nat.ble (Nat.mul n es.2) 16777216) (match zeroCs C es.1 with
      | some z => cnd (Nat.beq (len z) es.2) (match fillP (fun i => some (Nat.mul i es.2, es.2)) ps (repZ z n) with
        | some cs => cnd (allOne cs) (some (.cells cs es.1 false false, fun i => .slice (some (i, 0)) n (.exact n))) none
        | none => none) none
      | none => none) none
    | none => none
  | none => none
noncomputable def nilOk (x : Option AVal) : Option AVal := match x with
  | some (.ptr (some _)) | some (.func _ _ _) | some (.yieldf _) => x
  | _ => none
noncomputable def fieldAd (C : Cx) (s : TypeId) (f : Nat) (x : Option AVal) : Option AVal := match x with
  | some (.ptr (some p)) => match fieldSz C s f with
    | some o => some (.ptr (some (p.1, Nat.add p.2 o)))
    | none => none
  | _ => none
noncomputable def fieldV (C : Cx) (t : TypeId) (f : Nat) (x : Option AVal) : Option AVal := match x with
  | some (.agg cs) => match fieldOf C t f with
    | some os => part cs os.1 os.2
    | none => none
  | _ => none
noncomputable def atIx (p : Nat × Nat) (i n s : Nat) : Option AVal := cnd (Nat.ble (Nat.succ i) n) (some (.ptr (some (p.1, Nat.add p.2 (Nat.mul i s))))) none
noncomputable def indexAd (C : Cx) (t : TypeId) (x ix : Option AVal) : Option AVal := match ix with
  | some (.int _ (.ofNat i)) => match x with
    | some (.slice (some p) n _) => match elemOf C t with
      | some es => atIx p i n es.2
      | none => none
    | some (.ptr (some p)) => match arrOf C t with
      | some a => atIx p i a.1 a.2.2
      | none => none
    | _ => none
  | _ => none
noncomputable def indexV (C : Cx) (t : TypeId) (x ix : Option AVal) : Option AVal := match ix with
  | some (.int _ (.ofNat i)) => match x with
    | some (.str s) => match und C t with
      | some .string => match nth s i with
        | some b => some (.int .u8 (.ofNat (Nat.mod b 256)))
        | none => none
      | _ => none
    | some (.agg cs) => match arrOf C t with
      | some a => match shapeOf C a.2.1 with
        | some sh => cnd (Nat.ble (Nat.succ i) a.1) (part cs (Nat.mul i a.2.2) sh) none
        | none => none
      | none => none
    | _ => none
  | _ => none
noncomputable def funcA (fn : Fn) (a b : Option (List AVal)) : Option AVal := match fn with
  | .func f => match a with
    | some a => match b with
      | some b => some (.func f a b)
      | none => none
    | none => none
  | _ => none
noncomputable def ifaceA (C : Cx) (t : TypeId) (x : Option AVal) : Option AVal := match x with
  | some v => match und C t with
    | some (.interface _) => none
    | some _ => some (.iface t v)
    | none => none
  | none => none
noncomputable def extractA (x : Option AVal) (i : Nat) : Option AVal := match x with
  | some (.tuple vs) => nth vs i
  | _ => none
noncomputable def pickA (T : Tm) (c : Option AVal) (a b : Operand) : Option AVal := match c with
  | some (.bool t) => ev T (cnd t a b)
  | _ => none
/-- what an operation does to the abstract memory: 'pure', 'read': nothing; 'alloc': a new block; 'loud': what 'loudA' says -/
inductive XO where
  | pure (v : Option AVal)
  | read (v : Option AVal)
  | alloc (v : Option (AObj × (Nat → AVal)))
  | loud
noncomputable def builtinX (C : Cx) (T : Tm) (H : AHp) (b : Builtin) (c : Call) : XO := match b with
  | .len => .read (uno (nth c.argTypes.toList 0) fun t => one (evs T c.args.toList) fun x => lenA C H t x)
  | .cap => .pure (uno (nth c.argTypes.toList 0) fun t => one (evs T c.args.toList) fun x => capB C t x)
  | .min => .pure (duo (evs T c.args.toList) minA)
  | .max => .pure (duo (evs T c.args.toList) maxA)
  | .real => .pure (one (evs T c.args.toList) realA)
  | .imag => .pure (one (evs T c.args.toList) imagA)
  | .complex => .pure (duo (evs T c.args.toList) cplxB)
  | _ => .loud
noncomputable def callX (C : Cx) (T : Tm) (H : AHp) (c : Call) : XO := match c.callee with
  | .builtin b => builtinX C T H b c
  | _ => .loud
noncomputable def convX (C : Cx) (T : Tm) (H : AHp) (s d : TypeId) (x : Operand) : XO := match convKind C s d with
  | .plain => .read (uno (ev T x) fun a => convA C H s d a)
  | .bytes => .alloc (uno (ev T x) fun a => bytesNew C s d a)
  | .same => .loud
noncomputable def mapNew (r : Option Operand) : Option (AObj × (Nat → AVal)) := match r with
  | none => some (.map [] 0, fun i => .map (some i))
  | some _ => none
noncomputable def opA (C : Cx) (T : Tm) (H : AHp) (o : Op) : XO :=
  Op.rec (motive := fun _ => Cx → Tm → AHp → XO)
    (fun x _ T _ => .pure (ev T x))
    (fun x _ T _ => .pure (ev T x))
    (fun c a b _ T _ => .pure (pickA T (ev T c) a b))
    (fun e C _ _ => .alloc (newPtr (zeroCs C e) e))
    (fun e x _ T _ => .alloc (newPtr (oneCs (ev T x)) e))
    (fun t ps C T _ => .pure (buildA C t (evParts T ps.toList)))
    (fun t n ps C T _ => .alloc (buildS C t n (evParts T ps.toList)))
    (fun _ _ _ _ _ _ _ => .loud)
    (fun t a C T H => .read (uno (ev T a) fun a => loadA C H t a))
    (fun _ _ _ _ _ _ => .loud)
    (fun _ _ _ _ => .loud)
    (fun _ _ _ _ => .loud)
    (fun x _ T _ => .pure (nilOk (ev T x)))
    (fun op t x y _ C T _ => .pure (dual (ev T x) (ev T y) fun a b => binA C op t a b))
    (fun op _ x _ T _ => .pure (uno (ev T x) fun a => unA op a))
    (fun s d x C T H => convX C T H s d x)
    (fun _ _ _ _ _ => .loud)
    (fun t x C T _ => .pure (ifaceA C t (ev T x)))
    (fun fn a b _ T _ => .pure (funcA fn (evs T a.toList) (evs T b.toList)))
    (fun _ r _ _ _ => .alloc (mapNew r))
    (fun _ _ _ _ _ => .loud)
    (fun _ _ _ _ _ _ => .loud)
    (fun t x l h m C T _ => .pure (uno (ev T x) fun a => uno (evO T l) fun l => uno (evO T h) fun h => uno (evO T m) fun m => sliceA C t a l h m))
    (fun s x f C T _ => .pure (fieldAd C s f (ev T x)))
    (fun t x f C T _ => .pure (fieldV C t f (ev T x)))
    (fun t x i C T _ => .pure (indexAd C t (ev T x) (ev T i)))
    (fun t x i C T _ => .pure (indexV C t (ev T x) (ev T i)))
    (fun t m k ok C T H => .read (dual (ev T m) (ev T k) fun m k => lookA C H t m k ok))
    (fun _ _ _ _ _ _ _ => .loud)
    (fun _ _ _ _ _ _ => .loud)
    (fun _ _ _ _ _ _ _ => .loud)
    (fun _ _ _ _ _ => .loud)
    (fun _ _ _ _ _ => .loud)
    (fun _ _ _ _ => .loud)
    (fun _ _ _ _ _ _ _ => .loud)
    (fun t i _ T _ => .pure (extractA (ev T t) i))
    (fun c C T H => callX C T H c)
    (fun _ _ _ _ => .loud)
    (fun _ _ _ _ => .loud)
    (fun _ _ _ _ => .loud)
    (fun _ _ _ _ _ => .loud)
    (fun _ _ _ _ _ _ => .loud)
    (fun _ _ _ _ _ => .loud)
    o C T H

inductive XR where
  | no
  | val (v : AVal) (H : AHp)
  | skip (H : AHp)
  | enter (f : FuncId) (args : List AVal)
  | round (l : Nat) (args : List AVal)
  | split (f : FuncId) (args : List AVal)
noncomputable def xv (r : Option (AVal × AHp)) : XR := match r with
  | some p => .val p.1 p.2
  | none => .no
noncomputable def xh (r : Option AHp) : XR := match r with
  | some H => .skip H
  | none => .no
noncomputable def xq (r : Option AVal) (H : AHp) : XR := match r with
  | some v => .val v H
  | none => .no
noncomputable def findB (c : Nat) (l : List Nat) : Nat → Int :=
  List.rec (fun _ => .negSucc 0) (fun a _ ih i => cnd (Nat.beq (Nat.mod a 256) c) (.ofNat i) (ih (Nat.succ i))) l
noncomputable def bitsA (x : AVal) : Option AVal := match x with
  | .flt .f64 b => some (.int .u64 (.ofNat b))
  | _ => none
noncomputable def fromA (x : AVal) : Option AVal := match x with
  | .int .u64 (.ofNat b) => some (.flt .f64 b)
  | _ => none
noncomputable def ixByte (x y : AVal) : Option AVal := match x with
  | .str s => match y with
    | .int .u8 (.ofNat c) => some (.int .i64 (findB c s 0))
    | _ => none
  | _ => none
noncomputable def extX (e : Ext) (f : FuncId) (args : List AVal) (H : AHp) : XR := match e with
  | .bits64 => xq (one (some args) bitsA) H
  | .frombits64 => xq (one (some args) fromA) H
  | .indexByte => xq (duo (some args) ixByte) H
  | .overlaps => xq (duo (some args) fun x y => overlapsA H x y) H
  | .split => .split f args
noncomputable def callable (C : Cx) (f : FuncId) : Bool :=
  match C.fs.get f with
  | some fn => match fn.body with
    | some _ => notB (fn.name == "runtime.NumGoroutine")
    | none => false
  | none => false
noncomputable def callV (C : Cx) (H : AHp) (f : AVal) (args : List AVal) : XR := match f with
  | .func f first cap => match extOf C f with
    | some e => extX e f (app first (app args cap)) H
    | none => cnd (callable C f) (.enter f (app first (app args cap))) .no
  | .yieldf l => .round l args
  | _ => .no
noncomputable def builtinL (C : Cx) (H : AHp) (b : Builtin) (ts : List TypeId) (args : Option (List AVal)) : XR := match b with
  | .append => xv (uno (nth ts 0) fun t => uno (nth ts 1) fun u => duo args fun s x => appendA C H t u s x)
  | .copy => xv (uno (nth ts 0) fun t => duo args fun s x => copyA C H t s x)
  | .delete => xv (uno (nth ts 0) fun t => duo args fun m k => setOk (dropA C H t m k) (.tuple []))
  | _ => .no
noncomputable def callL (C : Cx) (T : Tm) (H : AHp) (c : Call) : XR := match c.callee with
  | .builtin b => builtinL C H b c.argTypes.toList (evs T c.args.toList)
  | .invoke _ _ => .no
  | .value f => match ev T f with
    | some f => match evs T c.args.toList with
      | some args => callV C H f args
      | none => .no
    | none => .no
/-- what changes memory, or calls -/
noncomputable def loudA (C : Cx) (T : Tm) (H : AHp) (o : Op) : XR :=
  match o with
  | .store t a x => xh (dual (ev T a) (ev T x) fun a v => storeA C H t a v)
  | .mapUpdate t m k v => xh (uno (ev T m) fun m => uno (ev T k) fun k => uno (ev T v) fun v => updA C H t m k v)
  | .convert s d x => xv (uno (ev T x) fun a => sameConv C H s d a)
  | .call c => callL C T H c
  | _ => .no

/-! ### Forcing -/
noncomputable def forceNat {β : Type} (m : Nat) (k : Nat → β) : β := Nat.rec (k 0) (fun m _ => k (Nat.succ m)) m
noncomputable def forceInt {β : Type} (m : Int) (k : Int → β) : β := Int.rec (fun m => forceNat m fun m => k (.ofNat m)) (fun m => forceNat m fun m => k (.negSucc m)) m
noncomputable def forceV {β : Type} (v : AVal) (k : AVal → β) : β := (match v with
  | .bool b => fun k => cnd b (k (.bool true)) (k (.bool false))
  | .int i n => fun k => forceInt n fun n => k (.int i n)
  | .flt i n => fun k => forceNat n fun n => k (.flt i n)
  | .cplx i n m => fun k => forceNat n fun n => forceNat m fun m => k (.cplx i n m)
  | v => fun k => k v : (AVal → β) → β) k

/-! ### Control -/
noncomputable def exitA (id : Nat) (l : List AItem) : Option (List AItem) :=
  List.rec none (fun it k r => match it with
    | .inBlock id' => cnd (Nat.beq id' id) (some k) r
    | _ => r) l
noncomputable def gotoA (l : Nat) (k : List AItem) : Option (List AItem) :=
  List.rec none (fun it k r => match it with
    | .inScope body => match findLabel body l with
      | some rest => some (.code rest :: .inScope body :: k)
      | none => r
    | _ => r) k
noncomputable def guardA (T : Tm) (all : Array Oper) (j : Nat) (want : Bool) : Option Bool :=
  match nth all.toList j with
  | some p => match p.dst with
    | some d => match T.get d with
      | some (.bool b) => some (eqB b want)
      | some (.opq _ _) => none
      | some _ => some false
      | none => none
    | none => some false
  | none => some false
noncomputable def wantedA (T : Tm) (all : Array Oper) (g : Option (Nat × Bool)) : Option Bool :=
  match g with
  | none => some true
  | some p => guardA T all p.1 p.2
inductive R where
  | ok (v : AVal) (H : AHp)
  | out
  | bad (fn : Nat) (what : Nat) (o : Option Oper)
abbrev Run := FI → Tm → List AItem → List Nat → AHp → R
noncomputable def enterA (C : Cx) (f : FuncId) (args : List AVal) (run : Run) (H : AHp) : R :=
  match C.fs.get f with
  | some fn => match fn.body with
    | some c => cnd (Nat.ble (len args) fn.ntmps) (run ⟨f, fn.ntmps, none⟩ (Tr.ofList TD args 0 .nil) [.code c] [] H) (.bad f 1 none)
    | none => .bad f 2 none
  | none => .bad f 3 none
noncomputable def resA (C : Cx) (H : AHp) (T : Tm) (r : ResultVar) : Option AVal := match r with
  | .tmp t => T.get t
  | .cell a t => uno (T.get a) fun p => loadA C H t p
noncomputable def resultsA (C : Cx) (H : AHp) (T : Tm) (l : List ResultVar) : Option (List AVal) :=
  List.rec (some []) (fun r _ rs => match resA C H T r with
    | some v => match rs with
      | some vs => some (v :: vs)
      | none => none
    | none => none) l
noncomputable def oneA (l : List AVal) : AVal := match l with
  | [v] => v
  | vs => .tuple vs
noncomputable def dropDefers (l : List Nat) : AHp → Option AHp :=
  List.rec (fun H => some H) (fun d _ ih H => match H.get d with
    | some .deferred => ih (H.set d .dead)
    | _ => none) l
noncomputable def leaveF (C : Cx) (fi : FI) (T : Tm) (ds : List Nat) (H : AHp) : R :=
  match dropDefers ds H with
  | some H => match C.fs.get fi.fn with
    | some fn => match resultsA C H T fn.results.toList with
      | some vs => .ok (oneA vs) H
      | none => .bad fi.fn 4 none
    | none => .bad fi.fn 5 none
  | none => .bad fi.fn 6 none
noncomputable def retJump (j : Option Code) : Bool := match j with
  | none => true
  | some .ret => true
  | _ => false
noncomputable def leaveR (l : Nat) (H : AHp) (jump : Option Code) : R :=
  match H.get l with
  | some (.loop _ _ f n T ps a b d) => match jump with
    | none => .ok (.bool true) (H.set l (.loop .ready none f n T ps a b d))
    | some j => .ok (.bool false) (H.set l (.loop .done (some j) f n T ps a b d))
  | _ => .bad l 7 none
noncomputable def leaveA (C : Cx) (fi : FI) (T : Tm) (ds : List Nat) (H : AHp) (jump : Option Code) : R :=
  match fi.rnd with
  | none => cnd (retJump jump) (leaveF C fi T ds H) (.bad fi.fn 8 none)
  | some l => leaveR l H jump
noncomputable def setParams (l : List Tmp) : List AVal → Tm → Tm :=
  List.rec (fun _ T => T) (fun p _ ih as T => List.casesOn as T (fun a as => ih as (T.set TD p a))) l
noncomputable def putT {β : Type} (n : Nat) (T : Tm) (d : Option Tmp) (v : AVal) (no : β) (k : Tm → β) : β :=
  Option.rec (k T) (fun d => cnd (Nat.ble (Nat.succ d) n) (forceV v fun v => k (T.set TD d v)) no) d
noncomputable def undefA : AVal := .tuple []

noncomputable def allLt (n : Nat) (l : List Nat) : Bool := List.rec true (fun p _ r => cnd (Nat.ble (Nat.succ p) n) r false) l
noncomputable def roundA (C : Cx) (run : Run) (l : Nat) (args : List AVal) (H : AHp) : R :=
  match H.get l with
  | some (.loop _ _ f n T ps a b _) => cnd (Nat.beq (len args) (len ps.toList)) (cnd (allLt n ps.toList) (run ⟨f, n, some l⟩ (setParams ps.toList args T) [.code a, .beginRound, .code b] [] H) (.bad f 8 none)) (.bad f 9 none)
  | _ => .bad l 10 none

/-! ### Equal abstract values -/
noncomputable def eqOA (a b : Option (Nat × Nat)) : Bool := match a with
  | none => isN b
  | some p => match b with
    | some q => cnd (Nat.beq p.1 q.1) (Nat.beq p.2 q.2) false
    | none => false
noncomputable def eqCap (a b : Cap) : Bool := match a with
  | .exact n => match b with
    | .exact m => Nat.beq n m
    | _ => false
  | .free n => match b with
    | .free m => Nat.beq n m
    | _ => false
  | _ => false
noncomputable def eqL (a : List Nat) : List Nat → Bool :=
  List.rec (fun b => List.casesOn b true (fun _ _ => false)) (fun x _ ih b => List.casesOn b false (fun y b => cnd (Nat.beq x y) (ih b) false)) a
noncomputable def eqF1 (a b : List AVal) : Bool := match a with
  | [] => match b with
    | [] => true
    | _ => false
  | [.ptr p] => match b with
    | [.ptr q] => eqOA p q
    | _ => false
  | _ => false
noncomputable def eqV1 (x y : AVal) : Bool := match x with
  | .bool a => match y with
    | .bool b => eqB a b
    | _ => false
  | .int k a => match y with
    | .int j b => cnd (eqK k j) (eqI a b) false
    | _ => false
  | .str a => match y with
    | .str b => eqL a b
    | _ => false
  | .ptr a => match y with
    | .ptr b => eqOA a b
    | _ => false
  | .slice a l c => match y with
    | .slice b m d => cnd (eqOA a b) (cnd (Nat.beq l m) (eqCap c d) false) false
    | _ => false
  | .map none => match y with
    | .map none => true
    | _ => false
  | .map (some a) => match y with
    | .map (some b) => Nat.beq a b
    | _ => false
  | .func f [] c => match y with
    | .func g [] d => cnd (Nat.beq f g) (eqF1 c d) false
    | _ => false
  | .yieldf a => match y with
    | .yieldf b => Nat.beq a b
    | _ => false
  | .nilFunc => match y with
    | .nilFunc => true
    | _ => false
  | .nilIface => match y with
    | .nilIface => true
    | _ => false
  | _ => false
noncomputable def eqVs (a : List AVal) : List AVal → Bool :=
  List.rec (fun b => List.casesOn b true (fun _ _ => false)) (fun x _ ih b => List.casesOn b false (fun y b => cnd (eqV1 x y) (ih b) false)) a
noncomputable def eqV2 (x y : AVal) : Bool := match x with
  | .agg a => match y with
    | .agg b => eqVs a b
    | _ => false
  | x => eqV1 x y
noncomputable def eqVs2 (a : List AVal) : List AVal → Bool :=
  List.rec (fun b => List.casesOn b true (fun _ _ => false)) (fun x _ ih b => List.casesOn b false (fun y b => cnd (eqV2 x y) (ih b) false)) a
noncomputable def eqV (x y : AVal) : Bool := match x with
  | .tuple a => match y with
    | .tuple b => eqVs2 a b
    | _ => false
  | x => eqV2 x y

/-! ### A call over one row of a capacity that is not known -/
noncomputable def junk (i n : Nat) : List AVal := Nat.rec [] (fun n r => .opq i n :: r) n
inductive RW where
  | ok (c : List AVal) (n : Nat)
  | no (r : R)
/-- a row that a call hands back, read off -/
noncomputable def rowOf (r : R) (s e : Nat) : RW :=
  match r with
  | .ok v H => match v with
    | .slice (some p) n _ => match H.get p.1 with
      | some (.cells c e' true false) => cnd (Nat.beq p.2 0) (cnd (Nat.beq (len c) (Nat.mul n s)) (cnd (Nat.beq e e') (.ok c n) (.no .out)) (.no .out)) (.no .out)
      | _ => .no (.bad 0 11 none)
    | _ => .no (.bad 0 12 none)
  | r => .no r
/-- run with room for one more list, and without; in a memory of its own -/
noncomputable def splitB (C : Cx) (run : Run) (f b n : Nat) (iv : AVal) (vp : Nat × Nat) (m : Nat) (vc : Cap) (cs : List AVal) (e : Nat) (vo : AObj) (s : Nat) (H : AHp) : R :=
  match rowOf (enterA C f [.slice (some (b, 0)) n (.ge (Nat.add n m)), iv, .slice (some vp) m vc] run
      ⟨Tr.set HD (Tr.set HD .nil vp.1 vo) b (.cells (app cs (junk H.nx (Nat.mul m s))) e true false), Nat.succ H.nx⟩) s e with
  | .ok c1 n1 => match rowOf (enterA C f [.slice (some (b, 0)) n (.lt (Nat.add n m)), iv, .slice (some vp) m vc] run
        ⟨Tr.set HD (Tr.set HD .nil vp.1 vo) b (.cells cs e true false), Nat.succ H.nx⟩) s e with
    | .ok c2 n2 => cnd (Nat.beq n1 n2) (cnd (eqVs c1 c2) (cnd (allOne c1) (.ok (.slice (some (H.nx, 0)) n1 (.free 0)) (((H.set b .dead).set vp.1 .dead).new (.cells c1 e true false))) (.bad f 13 none)) (.bad f 14 none)) (.bad f 15 none)
    | .no r => r
  | .no r => r
noncomputable def splitRun (C : Cx) (run : Run) (f : FuncId) (args : List AVal) (H : AHp) : R :=
  match args with
  | [.slice (some p) n (.free 0), iv, .slice (some vp) m vc] =>
    match H.get p.1 with
    | some (.cells cs e true false) => match H.get vp.1 with
      | some vo => match sizeOf C e with
        | some (s + 1) => cnd (Nat.beq p.2 0) (cnd (Nat.beq (len cs) (Nat.mul n (s + 1))) (cnd (Nat.beq p.1 vp.1) (.bad f 16 none) (cnd (Nat.ble (Nat.succ H.nx) HN)
            (cnd (intV iv) (splitB C run f p.1 n iv vp m vc cs e vo (s + 1) H) (.bad f 17 none)) (.bad f 18 none))) (.bad f 19 none)) (.bad f 20 none)
        | _ => .bad f 21 none
      | none => .bad f 22 none
    | _ => .bad f 23 none
  | _ => enterA C f args run H
where intV (v : AVal) : Bool := match v with
  | .int _ _ => true
  | _ => false
/-- one loud operation, its calls run by 'run' -/
noncomputable def loudRun (C : Cx) (run : Run) (T : Tm) (H : AHp) (o : Oper) : R :=
  match loudA C T H o.op with
  | .no => .bad 0 30 (some o)
  | .val v H => .ok v H
  | .skip H => .ok undefA H
  | .enter f args => enterA C f args run H
  | .split f args => splitRun C run f args H
  | .round l args => roundA C run l args H

/-! ### A region that draws its order -/
noncomputable def bit (m j : Nat) : Bool := Nat.beq (Nat.mod (Nat.div m (Nat.pow 2 j)) 2) 1
noncomputable def orEdges (t : Tr Nat) (l : List Edge) : Nat := List.rec 0 (fun e _ r => cnd (Region.binds .any e) (Nat.lor r (Nat.lor (Nat.pow 2 e.on) (match t.get e.on with
  | some m => m
  | none => 0))) r) l
noncomputable def masks (l : List Oper) : Nat → Tr Nat → Tr Nat :=
  List.rec (fun _ t => t) (fun o _ ih i t => forceNat (orEdges t o.after.toList) fun m => ih (Nat.succ i) (t.set TD i m)) l
noncomputable def mask (ops : Array Oper) (i : Nat) : Nat := match (masks ops.toList 0 .nil).get i with
  | some m => m
  | none => 0
noncomputable def isAlloc (C : Cx) : Op → Bool
  | .alloc _ | .box _ _ | .buildSlice _ _ _ | .makeMap _ _ => true
  | .convert s d _ => match convKind C s d with
    | .bytes => true
    | _ => false
  | _ => false
noncomputable def countAlloc (C : Cx) (l : List Oper) : Nat := List.rec 0 (fun o _ n => cnd (isAlloc C o.op) (Nat.succ n) n) l
noncomputable def tmpsOf (l : List Operand) : List Nat := List.rec [] (fun x _ r => match x with
  | .tmp t => t :: r
  | _ => r) l
noncomputable def dstOf (all : Array Oper) (j : Nat) : Option Nat := match nth all.toList j with
  | some p => p.dst
  | none => none
/-- the slots at which an operation looks -/
noncomputable def looks (all : Array Oper) (o : Oper) : List Nat :=
  app (match o.guard with
    | some p => (dstOf all p.1).toList
    | none => []) (tmpsOf o.op.operands.toList)
noncomputable def names (all : Array Oper) (o : Oper) : List Nat := app o.dst.toList (looks all o)
/-- of the slots these alone -/
noncomputable def only (T : Tm) (l : List Nat) : Tm := List.rec .nil (fun t _ r => match T.get t with
  | some v => Tr.set TD r t v
  | none => r) l
noncomputable def writesOk (ops : Array Oper) (i : Nat) (ns : List Nat) (l : List Oper) : Nat → Bool :=
  List.rec (fun _ => true) (fun o _ ih j => cnd (match o.dst with
      | some d => cnd (Nat.beq i j) true (cnd (memN d ns) (cnd (Nat.ble i j) (bit (mask ops j) i) (bit (mask ops i) j)) true)
      | none => true) (ih (Nat.succ j)) false) l
noncomputable def slotsOk (ops : Array Oper) (l : List Oper) : Nat → Bool :=
  List.rec (fun _ => true) (fun o _ ih i => cnd (writesOk ops i (names ops o) ops.toList 0) (ih (Nat.succ i)) false) l
noncomputable def edgesOk (l : List Oper) : Nat → Bool :=
  List.rec (fun _ => true) (fun o _ ih i => cnd (o.after.toList.all fun e => cnd (Region.binds .any e) (Nat.ble (Nat.succ e.on) i) true) (ih (Nat.succ i)) false) l
noncomputable def drawOk (ops : Array Oper) : Bool := cnd (slotsOk ops ops.toList 0) (cnd (edgesOk ops.toList 0) (Nat.ble (len ops.toList) 250) false) false
structure AD where
  ix : Nat
  id : Nat
  ob : AObj
structure QP where
  ix : Nat
  T : Tm
  o : Op
  v : AVal
structure DS where
  T : Tm
  G : AHp
  old : List (Nat × AHp)
  ads : List AD
  qs : List QP
  nid : Nat
noncomputable def revealed (all : Bool) (m : Nat) (l : List AD) : AHp → AHp :=
  List.rec (fun H => H) (fun a _ ih H => cnd (cnd all true (bit m a.ix)) (ih (H.set a.id a.ob)) (ih H)) l
noncomputable def hidden (m : Nat) (l : List AD) : List AD := List.rec [] (fun a _ r => cnd (bit m a.ix) r (a :: r)) l
noncomputable def readsTo (C : Cx) (T : Tm) (G : AHp) (o : Op) (v : AVal) : Bool := match opA C T G o with
  | .read (some u) => eqV u v
  | _ => false
noncomputable def qsOk (C : Cx) (mk : Nat) (G : AHp) (l : List QP) : Bool :=
  List.rec true (fun q _ r => cnd (cnd (bit mk q.ix) true (readsTo C q.T G q.o q.v)) r false) l
noncomputable def oldOk (C : Cx) (mk : Nat) (T : Tm) (o : Op) (v : AVal) (l : List (Nat × AHp)) : Bool :=
  List.rec true (fun x _ r => cnd (cnd (bit mk x.1) true (readsTo C T x.2 o v)) r false) l
noncomputable def lastOk (mk : Nat) (l : List (Nat × AHp)) : Bool := match l with
  | [] => true
  | x :: _ => bit mk x.1
inductive RD where
  | ok (T : Tm) (H : AHp)
  | no (r : R)
abbrev KD := Nat → DS → RD
noncomputable def drawPure (fi : FI) (o : Oper) (i : Nat) (s : DS) (ih : KD) (v : Option AVal) : RD := match v with
  | some v => putT fi.n s.T o.dst v (.no (.bad fi.fn 31 (some o))) fun T => ih (Nat.succ i) ⟨T, s.G, s.old, s.ads, s.qs, s.nid⟩
  | none => .no (.bad fi.fn 32 (some o))
noncomputable def drawRead (C : Cx) (fi : FI) (ops : Array Oper) (o : Oper) (i : Nat) (s : DS) (ih : KD) (R : Tm) (v : Option AVal) : RD := match v with
  | some v => cnd (oldOk C (mask ops i) R o.op v s.old) (putT fi.n s.T o.dst v (.no (.bad fi.fn 31 (some o))) fun T => ih (Nat.succ i) ⟨T, s.G, s.old, s.ads, ⟨i, R, o.op, v⟩ :: s.qs, s.nid⟩) (.no (.bad fi.fn 33 (some o)))
  | none => .no (.bad fi.fn 34 (some o))
noncomputable def drawAlloc (fi : FI) (o : Oper) (i : Nat) (s : DS) (ih : KD) (v : Option (AObj × (Nat → AVal))) : RD := match v with
  | some p => putT fi.n s.T o.dst (p.2 s.nid) (.no (.bad fi.fn 31 (some o))) fun T => ih (Nat.succ i) ⟨T, s.G, s.old, ⟨i, s.nid, p.1⟩ :: s.ads, s.qs, Nat.succ s.nid⟩
  | none => .no (.bad fi.fn 35 (some o))
noncomputable def drawLoud (C : Cx) (run : Run) (fi : FI) (ops : Array Oper) (o : Oper) (i : Nat) (s : DS) (ih : KD) (R : Tm) : RD :=
  cnd (lastOk (mask ops i) s.old) (match loudRun C run R (revealed false (mask ops i) s.ads s.G) o with
    | .ok v H => cnd (qsOk C (mask ops i) H s.qs) (putT fi.n s.T o.dst v (.no (.bad fi.fn 31 (some o))) fun T => ih (Nat.succ i) ⟨T, H, (i, s.G) :: s.old, hidden (mask ops i) s.ads, s.qs, s.nid⟩) (.no (.bad fi.fn 36 (some o)))
    | r => .no r) (.no (.bad fi.fn 37 (some o)))
noncomputable def drawGo (C : Cx) (run : Run) (fi : FI) (ops : Array Oper) (o : Oper) (i : Nat) (s : DS) (ih : KD) (R : Tm) : RD :=
  match wantedA R ops o.guard with
  | none => .no (.bad fi.fn 38 (some o))
  | some false => drawPure fi o i s ih (some undefA)
  | some true => match opA C R s.G o.op with
    | .pure v => drawPure fi o i s ih v
    | .read v => drawRead C fi ops o i s ih R v
    | .alloc v => drawAlloc fi o i s ih v
    | .loud => drawLoud C run fi ops o i s ih R
noncomputable def drawOp (C : Cx) (run : Run) (fi : FI) (ops : Array Oper) (o : Oper) (i : Nat) (s : DS) (ih : KD) : RD :=
  drawGo C run fi ops o i s ih (only s.T (looks ops o))
noncomputable def drawLoop (C : Cx) (run : Run) (fi : FI) (ops : Array Oper) (l : List Oper) : KD :=
  List.rec (fun _ s => .ok s.T (revealed true 0 s.ads s.G)) (fun o _ ih i s => drawOp C run fi ops o i s ih) l

/-! ### The machine -/
noncomputable def doLoud (C : Cx) (run : Run) (fi : FI) (T : Tm) (k : List AItem) (ds : List Nat) (H : AHp) (o : Oper) : R :=
  match loudRun C run T H o with
  | .ok v H => putT fi.n T o.dst v (.bad fi.fn 40 (some o)) fun T => run fi T k ds H
  | r => r
noncomputable def doOp (C : Cx) (run : Run) (fi : FI) (T : Tm) (k : List AItem) (ds : List Nat) (H : AHp) (o : Oper) : R :=
  XO.rec (motive := fun _ => R)
    (fun v => Option.rec (.bad fi.fn 41 (some o)) (fun v => putT fi.n T o.dst v (.bad fi.fn 40 (some o)) fun T => run fi T k ds H) v)
    (fun v => Option.rec (.bad fi.fn 42 (some o)) (fun v => putT fi.n T o.dst v (.bad fi.fn 40 (some o)) fun T => run fi T k ds H) v)
    (fun v => Option.rec (.bad fi.fn 44 (some o)) (fun p => cnd (Nat.ble (Nat.succ H.nx) HN) (putT fi.n T o.dst (p.2 H.nx) (.bad fi.fn 40 (some o)) fun T => run fi T k ds (H.new p.1)) (.bad fi.fn 43 (some o))) v)
    (doLoud C run fi T k ds H o) (opA C T H o.op)
noncomputable def guardO (C : Cx) (run : Run) (fi : FI) (T : Tm) (k : List AItem) (ds : List Nat) (H : AHp) (o : Oper) (g : Option Bool) : R :=
  match g with
  | none => .bad fi.fn 45 (some o)
  | some false => putT fi.n T o.dst undefA (.bad fi.fn 40 (some o)) fun T => run fi T k ds H
  | some true => doOp C run fi T k ds H o
noncomputable def stepO (C : Cx) (run : Run) (fi : FI) (T : Tm) (k : List AItem) (ds : List Nat) (H : AHp) (all : Array Oper) (rest : List Oper) : R :=
  List.rec (run fi T k ds H) (fun o rest _ =>
    Option.rec (doOp C run fi T (.ops rest all :: k) ds H o) (fun p => guardO C run fi T (.ops rest all :: k) ds H o (guardA T all p.1 p.2)) o.guard) rest
noncomputable def condA (C : Cx) (run : Run) (fi : FI) (T : Tm) (k : List AItem) (ds : List Nat) (H : AHp) (c : Option AVal) (t e : Code) : R :=
  match c with
  | some (.bool b) => run fi T (.code (cnd b t e) :: k) ds H
  | _ => .bad fi.fn 46 none
noncomputable def jumpA (C : Cx) (run : Run) (fi : FI) (T : Tm) (ds : List Nat) (H : AHp) (k : Option (List AItem)) (c : Code) : R :=
  match k with
  | some k => run fi T k ds H
  | none => leaveA C fi T ds H (some c)
noncomputable def noOk (r : R) : R := match r with
  | .ok _ _ => .bad 0 58 none
  | r => r
noncomputable def regionA (C : Cx) (run : Run) (fi : FI) (T : Tm) (k : List AItem) (ds : List Nat) (H : AHp) (ops : Array Oper) (draw : Bool) : R :=
  cnd draw (cnd (drawOk ops) (cnd (Nat.ble (Nat.add H.nx (countAlloc C ops.toList)) HN)
      (match drawLoop C run fi ops ops.toList 0 ⟨T, ⟨H.t, Nat.add H.nx (countAlloc C ops.toList)⟩, [], [], [], H.nx⟩ with
        | .ok T H => run fi T k ds H
        | .no r => noOk r) (.bad fi.fn 47 none)) (.bad fi.fn 48 none))
    (run fi T (.ops ops.toList ops :: k) ds H)
noncomputable def codeOpt (p : Option Code) (k : List AItem) : List AItem := match p with
  | some c => .code c :: k
  | none => k
noncomputable def endLoopA (run : Run) (fi : FI) (T : Tm) (k : List AItem) (ds : List Nat) (l : Nat) (r : R) : R :=
  match r with
  | .ok _ H => match H.get l with
    | some (.loop st p _ _ _ _ _ _ _) => match st with
      | .busy => .bad fi.fn 49 none
      | _ => run fi T (codeOpt p k) ds (H.set l .dead)
    | _ => .bad fi.fn 50 none
  | r => r
noncomputable def rangeIn (C : Cx) (run : Run) (fi : FI) (T : Tm) (k : List AItem) (ds : List Nat) (H : AHp) (f : FuncId) (first cap : List AVal) (ps : Array Tmp) (a b : Code) (d : Nat) : R :=
  endLoopA run fi T k ds H.nx (enterA C f (app first (.yieldf H.nx :: cap)) run (H.new (.loop .ready none fi.fn fi.n T ps a b d)))
noncomputable def rangeA (C : Cx) (run : Run) (fi : FI) (T : Tm) (k : List AItem) (ds : List Nat) (H : AHp) (f : Option AVal) (ps : Array Tmp) (a b : Code) : R :=
  match f with
  | some (.func f first cap) =>
    cnd (cnd (isN (extOf C f)) (callable C f) false) (cnd (Nat.ble (Nat.add H.nx 2) HN) (match fi.rnd with
      | none => rangeIn C run fi T k (H.nx :: ds) (H.new .deferred) f first cap ps a b H.nx
      | some l => match H.get l with
        | some (.loop _ _ _ _ _ _ _ _ d) => rangeIn C run fi T k ds H f first cap ps a b d
        | _ => .bad fi.fn 51 none) (.bad fi.fn 52 none)) (.bad fi.fn 53 none)
  | _ => .bad fi.fn 54 none
abbrev SC := Cx → Run → FI → Tm → List AItem → List Nat → AHp → R
noncomputable def stepC (C : Cx) (run : Run) (fi : FI) (T : Tm) (k : List AItem) (ds : List Nat) (H : AHp) (c : Code) : R :=
  Code.rec (motive := fun _ => SC)
    (fun _ run fi T k ds H => run fi T k ds H)
    (fun _ ops draw C run fi T k ds H => regionA C run fi T k ds H ops draw)
    (fun a b _ _ _ run fi T k ds H => run fi T (.code a :: .code b :: k) ds H)
    (fun c t e _ _ C run fi T k ds H => condA C run fi T k ds H (ev T c) t e)
    (fun id body _ _ run fi T k ds H => run fi T (.code body :: .inBlock id :: k) ds H)
    (fun body _ _ run fi T k ds H => run fi T (.code body :: .inLoop body :: k) ds H)
    (fun f ps a b _ _ C run fi T k ds H => rangeA C run fi T k ds H (ev T f) ps a b)
    (fun id C run fi T k ds H => jumpA C run fi T ds H (exitA id k) (.exit id))
    (fun body _ _ run fi T k ds H => run fi T (.code body :: .inScope body :: k) ds H)
    (fun _ _ run fi T k ds H => run fi T k ds H)
    (fun l C run fi T k ds H => jumpA C run fi T ds H (gotoA l k) (.goto l))
    (fun C _ fi T _ ds H => leaveA C fi T ds H (some .ret))
    (fun _ _ _ fi _ _ _ _ => .bad fi.fn 55 none)
    c C run fi T k ds H
noncomputable def beginA (run : Run) (fi : FI) (T : Tm) (k : List AItem) (ds : List Nat) (H : AHp) (l : Nat) : R :=
  match H.get l with
  | some (.loop .ready p f n T' ps a b d) => run fi T k ds (H.set l (.loop .busy p f n T' ps a b d))
  | _ => .bad fi.fn 56 none
noncomputable def beginI (run : Run) (fi : FI) (T : Tm) (k : List AItem) (ds : List Nat) (H : AHp) : R := match fi.rnd with
  | some l => beginA run fi T k ds H l
  | none => .bad fi.fn 57 none
noncomputable def stepI (C : Cx) (run : Run) (fi : FI) (T : Tm) (k : List AItem) (ds : List Nat) (H : AHp) (it : AItem) : R :=
  AItem.rec (motive := fun _ => SC)
    (fun c C run fi T k ds H => stepC C run fi T k ds H c)
    (fun _ _ run fi T k ds H => run fi T k ds H)
    (fun b _ run fi T k ds H => run fi T (.code b :: .inLoop b :: k) ds H)
    (fun _ _ run fi T k ds H => run fi T k ds H)
    (fun rest all C run fi T k ds H => stepO C run fi T k ds H all rest)
    (fun _ run fi T k ds H => beginI run fi T k ds H)
    it C run fi T k ds H
noncomputable def stepA (C : Cx) (run : Run) (fi : FI) (T : Tm) (todo : List AItem) (ds : List Nat) (H : AHp) : R :=
  List.rec (motive := fun _ => Cx → Run → FI → Tm → List Nat → AHp → R) (fun C _ fi T ds H => leaveA C fi T ds H none) (fun it k _ C run fi T ds H => stepI C run fi T k ds H it) todo C run fi T ds H
noncomputable def exec (C : Cx) (n : Nat) : Run :=
  Nat.rec (fun _ _ _ _ _ => .out) (fun _ ih fi T todo ds H => stepA C ih fi T todo ds H) n
noncomputable def H0 : AHp := ⟨.nil, 0⟩
noncomputable def runA (C : Cx) (fuel : Nat) (f : FuncId) (args : List AVal) (H : AHp) : R := enterA C f args (exec C fuel) H
noncomputable def isTrue : R → Bool
  | .ok (.bool b) _ => b
  | _ => false
end Go.Ev
