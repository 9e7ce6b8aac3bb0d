import Derived.Test.YthdpmpfchmcklaaGreatDoorEvRel
import Derived.ChangeKeysEq
import Derived.Orders
namespace Go.Ev

/-- What is made out of the code alone: in a box, so that the kernel makes it once. -/
structure Bx (α : Type) where
  f : α
/-! ### Slots -/
def T.left {α : Type} : T α → T α
  | .nil => .nil
  | .node _ l _ => l
def T.right {α : Type} : T α → T α
  | .nil => .nil
  | .node _ _ r => r
def T.root {α : Type} : T α → Option α
  | .nil => none
  | .node v _ _ => v
def T.setRoot {α : Type} (x : Option α) : T α → T α
  | .nil => .node x .nil .nil
  | .node _ l r => .node x l r
def T.setLeft {α : Type} (g : T α → T α) : T α → T α
  | .nil => forceT (g .nil) fun l => .node none l .nil
  | .node v l r => forceT (g l) fun l => .node v l r
def T.setRight {α : Type} (g : T α → T α) : T α → T α
  | .nil => forceT (g .nil) fun r => .node none .nil r
  | .node v l r => forceT (g r) fun r => .node v l r
noncomputable def getF (f : Nat) : Nat → Bx (T Value → Option Value) :=
  Nat.rec (motive := fun _ => Nat → Bx (T Value → Option Value)) (fun _ => ⟨fun _ => none⟩)
    (fun _ ih n => cond (Nat.beq n 0) ⟨T.root⟩ (cond (Nat.beq (n % 2) 1) (match forceN (n / 2) ih with | ⟨g⟩ => ⟨fun t => g t.left⟩) (match forceN (n / 2 - 1) ih with | ⟨g⟩ => ⟨fun t => g t.right⟩))) f
noncomputable def getBx (n : Nat) : Bx (T Value → Option Value) := getF (n + 1) n
noncomputable def setF (f : Nat) : Nat → Bx (Option Value → T Value → T Value) :=
  Nat.rec (motive := fun _ => Nat → Bx (Option Value → T Value → T Value)) (fun _ => ⟨fun _ t => t⟩)
    (fun _ ih n => cond (Nat.beq n 0) ⟨T.setRoot⟩ (cond (Nat.beq (n % 2) 1) (match forceN (n / 2) ih with | ⟨g⟩ => ⟨fun x => T.setLeft (g x)⟩) (match forceN (n / 2 - 1) ih with | ⟨g⟩ => ⟨fun x => T.setRight (g x)⟩))) f
noncomputable def setBx (n : Nat) : Bx (Option Value → T Value → T Value) := setF (n + 1) n

/-! ### One operation -/
/-- What an operation leaves: its value, the next number, the heap; which older blocks it wrote or did away with; which it looked at (none: any). -/
structure R where
  v : Value
  sup : Nat
  h : Heap
  wr : List Nat
  ft : Option (List Nat)
def R.pure (v : Value) (sup : Nat) (h : Heap) : R := ⟨v, sup, h, [], some []⟩
/-- a frame: how many slots there are, and what is in those that were set -/
structure Frm where
  n : Nat
  s : T Value

/-- A constant that holds no address. -/
def constOK : Value → Bool
  | .agg cs => cs.toList.all plain
  | v => plain v
noncomputable def evX : Operand → Bx (Frm → Option Value)
  | .tmp t => match getBx t with
    | ⟨g⟩ => ⟨fun fr => g fr.s⟩
  | .const v => match constOK v with
    | true => ⟨fun _ => some v⟩
    | false => ⟨fun _ => none⟩
  | .global g => ⟨fun _ => some (.pointer (some ⟨g, 0, none⟩))⟩
  | .func f => ⟨fun _ => some (.func (.func f) #[] #[])⟩
def consO (v : Option Value) (l : Option (List Value)) : Option (List Value) :=
  match v with
  | some v => match l with
    | some l => some (v :: l)
    | none => none
  | none => none
noncomputable def evsX : List Operand → Bx (Frm → Option (List Value))
  | [] => ⟨fun _ => some []⟩
  | x :: r => match evX x with
    | ⟨f⟩ => match evsX r with
      | ⟨g⟩ => ⟨fun fr => consO (f fr) (g fr)⟩

/-- n cells from o on -/
noncomputable def rdN (k : T Value) (n : Nat) : Nat → Option (List Value) :=
  Nat.rec (motive := fun _ => Nat → Option (List Value)) (fun _ => some []) (fun _ ih o => match k.get o with
    | some v => match forceN (o + 1) ih with
      | some l => some (v :: l)
      | none => none
    | none => none) n
noncomputable def rd (h : Heap) (b o n : Nat) : Option (List Value) :=
  match h.get b with
  | some ⟨cs, len, _, _⟩ => cond (Nat.ble (o + n) len) (rdN cs n o) none
  | none => none
noncomputable def wrN (vs : List Value) : T Value → Nat → T Value :=
  List.rec (motive := fun _ => T Value → Nat → T Value) (fun k _ => k) (fun v _ ih k o => forceA v fun v => forceT (k.put o (some v)) fun k => forceN (o + 1) fun o => ih k o) vs
noncomputable def wrt (h : Heap) (b o : Nat) (vs : List Value) : Option Heap :=
  match h.get b with
  | some ⟨cs, len, e, g⟩ => cond (Nat.ble (o + vs.length) len && vs.all Value.oneCell') (forceT (wrN vs cs o) fun cs => some (h.put b (some ⟨cs, len, e, g⟩))) none
  | none => none
noncomputable def mkBlk {α : Type} (vs : List Value) (e : TypeId) (g : Nat) (k : Blk → α) : α := forceT (wrN vs .nil 0) fun cs => forceN vs.length fun n => k ⟨cs, n, e, g⟩
def zerosOf (z : List Value) : Nat → List Value
  | 0 => []
  | n + 1 => z ++ zerosOf z n

def isAggA (P : Program) (t : TypeId) : Option Bool :=
  match P.underlying t with
  | some (.struct _) | some (.array _ _) => some true
  | some _ => some false
  | none => none
def szA (P : Program) (t : TypeId) : Option Nat :=
  match P.info? t with
  | some i => some i.size
  | none => none
noncomputable def ldA (P : Program) (t : TypeId) (h : Heap) (b o : Nat) : Option Value :=
  match isAggA P t with
  | some true => match szA P t with
    | some n => match rd h b o n with
      | some l => some (.agg ⟨l⟩)
      | none => none
    | none => none
  | some false => match rd h b o 1 with
    | some [v] => some v
    | _ => none
  | none => none
def partA (P : Program) (t : TypeId) (cs : Array Value) (off : Nat) : Option Value :=
  match isAggA P t with
  | some true => match szA P t with
    | some n => some (.agg ⟨(cs.toList.drop off).take n⟩)
    | none => none
  | some false => cs.toList[off]?
  | none => none

def kix : IntKind → Nat
  | .i8 => 0 | .i16 => 1 | .i32 => 2 | .i64 => 3 | .u8 => 4 | .u16 => 5 | .u32 => 6 | .u64 => 7
theorem kix_inj {a b : IntKind} (h : Nat.beq (kix a) (kix b) = true) : a = b := by
  have h' := Nat.eq_of_beq_eq_true h
  cases a <;> cases b <;> simp [kix] at h' <;> rfl
def eqBytes : List UInt8 → List UInt8 → Bool
  | [], [] => true
  | a :: r, b :: s => Nat.beq a.toNat b.toNat && eqBytes r s
  | _, _ => false
/-- '==' of what holds no address but nil -/
def eqA (P : Program) : Nat → TypeId → Value → Value → Option Bool
  | 0, _, _, _ => none
  | d + 1, t, x, y =>
    match P.underlying t, x, y with
    | some .bool, .bool a, .bool b => some (a == b)
    | some (.int _), .int k a, .int k' b => cond (Nat.beq (kix k) (kix k')) (some (eqI a b)) none
    | some .string, .string a, .string b => some (eqBytes a.data.toList b.data.toList)
    | some (.pointer _), .pointer none, .pointer b => some b.isNone
    | some (.pointer _), .pointer (some _), .pointer none => some false
    | some (.slice _), .slice none _ _, .slice b _ _ => some b.isNone
    | some (.slice _), .slice (some _) _ _, .slice none _ _ => some false
    | some (.map _ _), .map none, .map b => some b.isNone
    | some (.map _ _), .map (some _), .map none => some false
    | some (.func _ _ _), .nilFunc, .nilFunc => some true
    | some (.func _ _ _), .nilFunc, .func _ _ _ => some false
    | some (.func _ _ _), .func _ _ _, .nilFunc => some false
    | some (.struct fs), .agg xs, .agg ys =>
      if P.stoodInHeld t then none else
      fs.toList.foldr (fun f r => if f.name = "_" then r else
        match partA P f.type xs f.offset, partA P f.type ys f.offset with
        | some a, some b => match eqA P d f.type a b with
          | some true => r
          | e => e
        | _, _ => none) (some true)
    | some (.array n e), .agg xs, .agg ys =>
      match szA P e with
      | some c => (List.range n).foldr (fun i r =>
        match partA P e xs (i * c), partA P e ys (i * c) with
        | some a, some b => match eqA P d e a b with
          | some true => r
          | e => e
        | _, _ => none) (some true)
      | none => none
    | _, _, _ => none

def eqOK (P : Program) (t : TypeId) (x : Value) : Bool :=
  match x with
  | .agg _ => !(P.eqGuardType P.depth t)
  | .bool _ | .pointer _ | .slice _ _ _ | .map _ | .func _ _ _ | .nilFunc => true
  | _ => false
abbrev Bin := Value → Value → Option Value
def iNum (f : IntKind → Int → Int → Int) : Bin := fun x y =>
  match x with
  | .int k a => match y with
    | .int k' b => cond (Nat.beq (kix k) (kix k')) (some (.int k (f k a b))) none
    | _ => none
  | _ => none
def iDiv (f : IntKind → Int → Int → Int) : Bin := fun x y =>
  match y with
  | .int k b => cond (eqI b (.ofNat 0)) none (iNum f x (.int k b))
  | _ => none
def iCmp (f : Int → Int → Bool) : Bin := fun x y =>
  match x with
  | .int k a => match y with
    | .int k' b => cond (Nat.beq (kix k) (kix k')) (some (.bool (f a b))) none
    | _ => none
  | _ => none
def iSh (f : IntKind → Int → Nat → Int) : Bin := fun x y =>
  match x with
  | .int k a => match y with
    | .int _ (.ofNat b) => some (.int k (f k a (min b k.bits)))
    | _ => none
  | _ => none
def sAdd (a b : ByteArray) : Option Value := cond (Nat.ble (a.data.toList.length + b.data.toList.length) 9223372036854775807) (some (.string ⟨⟨a.data.toList ++ b.data.toList⟩⟩)) none
def xAdd : Bin := fun x y =>
  match x with
  | .string a => match y with
    | .string b => sAdd a b
    | _ => none
  | _ => iNum (fun k a b => wrapA k (a + b)) x y
def eqOther (P : Program) (t : TypeId) (neg : Bool) : Bin := fun x y =>
  match eqOK P t x with
  | true => match eqA P 10000 t x y with
    | some b => some (.bool (cond neg (!b) b))
    | none => none
  | false => none
def xEq (P : Program) (t : TypeId) (neg : Bool) : Bin := fun x y =>
  match x with
  | .int _ _ => iCmp (fun a b => cond neg (!(eqI a b)) (eqI a b)) x y
  | .string a => match y with
    | .string b => some (.bool (cond neg (!(eqBytes a.data.toList b.data.toList)) (eqBytes a.data.toList b.data.toList)))
    | _ => none
  | _ => eqOther P t neg x y
def binX (P : Program) (op : BinOp) (t : TypeId) : Bx Bin :=
  match op with
  | .add => ⟨xAdd⟩
  | .sub => ⟨iNum fun k a b => wrapA k (a - b)⟩
  | .mul => ⟨iNum fun k a b => wrapA k (a * b)⟩
  | .quo => ⟨iDiv fun k a b => wrapA k (a.tdiv b)⟩
  | .rem => ⟨iDiv fun _ a b => a.tmod b⟩
  | .and => ⟨iNum (bitsA .and)⟩
  | .or => ⟨iNum (bitsA .or)⟩
  | .xor => ⟨iNum (bitsA .xor)⟩
  | .andNot => ⟨iNum (bitsA .andNot)⟩
  | .shl => ⟨iSh shlA⟩
  | .shr => ⟨iSh fun _ a n => shrA a n⟩
  | .eql => ⟨xEq P t false⟩
  | .neq => ⟨xEq P t true⟩
  | .lss => ⟨iCmp ltA⟩
  | .leq => ⟨iCmp leA⟩
  | .gtr => ⟨iCmp fun a b => ltA b a⟩
  | .geq => ⟨iCmp fun a b => leA b a⟩

def unA (op : UnOp) (x : Value) : Option Value :=
  match op, x with
  | .neg, .int k n => some (.int k (wrapA k (0 - n)))
  | .xor, .int k n => some (.int k (bitsA .xor k (if k.signed then -1 else k.max) n))
  | .not, .bool b => some (.bool !b)
  | _, _ => none

/-- a row's cells out of parts, each at its place -/
noncomputable def fillA (place : Nat → Option (Nat × Nat)) (len : Nat) (parts : List (Nat × Value)) : T Value → Option (T Value) :=
  List.rec (motive := fun _ => T Value → Option (T Value)) (fun k => some k) (fun p _ ih k => match p with
    | (i, v) => match place i with
      | some (off, size) => cond (Nat.beq v.cells.toList.length size && Nat.ble (off + size) len) (forceT (wrN v.cells.toList k off) ih) none
      | none => none) parts

def zeroA (P : Program) (t : TypeId) : Option (List Value) :=
  match P.info? t with
  | some i => match i.zero with
    | some z => if z.cells.toList.all plain then some z.cells.toList else none
    | none => none
  | none => none

def placesA (P : Program) : List Field → Option (List (Nat × Nat))
  | [] => some []
  | f :: r => match szA P f.type, placesA P r with
    | some n, some l => some ((f.offset, n) :: l)
    | _, _ => none

def consP (i : Nat) (v : Option Value) (l : Option (List (Nat × Value))) : Option (List (Nat × Value)) :=
  match v with
  | some v => match l with
    | some l => some ((i, v) :: l)
    | none => none
  | none => none
noncomputable def partsX : List (Nat × Operand) → Bx (Frm → Option (List (Nat × Value)))
  | [] => ⟨fun _ => some []⟩
  | (i, x) :: r => match evX x with
    | ⟨f⟩ => match partsX r with
      | ⟨g⟩ => ⟨fun fr => consP i (f fr) (g fr)⟩
noncomputable def filled (place : Nat → Option (Nat × Nat)) (z : List Value) (parts : List (Nat × Value)) : Option (List Value) :=
  match fillA place z.length parts (wrN z .nil 0) with
  | some k => rdN k z.length 0
  | none => none
noncomputable def buildA (P : Program) (t : TypeId) (parts : List (Nat × Value)) : Option Value :=
  match zeroA P t with
  | some z => match P.underlying t with
    | some (.struct fs) => match placesA P fs.toList with
      | some pl => match filled (fun i => pl[i]?) z parts with
        | some l => some (.agg ⟨l⟩)
        | none => none
      | none => none
    | some (.array _ e) => match szA P e with
      | some n => match filled (fun i => some (i * n, n)) z parts with
        | some l => some (.agg ⟨l⟩)
        | none => none
      | none => none
    | _ => none
  | none => none
noncomputable def newA (vs : List Value) (e : TypeId) (g : Nat) (n c : Nat) (sup : Nat) (h : Heap) (ft : List Nat) : Option R :=
  mkBlk vs e g fun k => some ⟨.slice (some ⟨sup, 0, none⟩) n c, sup + 1, h.put sup (some k), [], some ft⟩
noncomputable def buildSliceA (P : Program) (t : TypeId) (len : Nat) (parts : List (Nat × Value)) (sup : Nat) (h : Heap) : Option R :=
  match P.underlying t with
  | some (.slice e) => match szA P e, zeroA P e with
    | some n, some z => if len * n ≤ 16777216 ∧ z.length = n ∧ 0 < n then
        match filled (fun i => some (i * n, n)) (zerosOf z len) parts with
        | some l => newA l e 0 len len sup h []
        | none => none
      else none
    | _, _ => none
  | _ => none

def toNatA : Value → Option Nat
  | .int _ (.ofNat n) => some n
  | _ => none

/-- x[lo:hi:max] -/
def bound (v : Option Value) (d : Nat) : Option Nat :=
  match v with
  | none => some d
  | some v => toNatA v
def bounds (lo hi mx : Option Value) (len cap : Nat) : Option (Nat × Nat × Nat) :=
  match bound mx cap, bound hi len, bound lo 0 with
  | some m, some h, some l => cond (Nat.ble l h && Nat.ble h m && Nat.ble m cap && !(mx.isSome && hi.isNone)) (some (l, h, m)) none
  | _, _, _ => none
/-- does the room behind the block's cells, if any, come in pieces of n? -/
noncomputable def fits (h : Heap) (b n : Nat) : Bool :=
  match h.get b with
  | some ⟨_, _, _, g⟩ => Nat.beq g 0 || Nat.beq g n
  | none => false
def sliceA (P : Program) (t : TypeId) (x : Value) (lo hi mx : Option Value) : Option (Value × Option (Nat × Nat)) :=
  match P.underlying t, x with
  | some .string, .string s =>
    match bounds lo hi none s.size s.size with
    | some (l, h, _) => if mx.isSome then none else some (.string ⟨⟨(s.data.toList.drop l).take (h - l)⟩⟩, none)
    | none => none
  | some (.slice e), .slice a len cap =>
    match szA P e, bounds lo hi mx len cap with
    | some n, some (l, h, m) => match a with
      | none => some (.slice none (h - l) (m - l), none)
      | some ⟨b, o, none⟩ => some (.slice (some ⟨b, o + l * n, none⟩) (h - l) (m - l), cond (Nat.beq l 0 || mx.isSome) none (some (b, n)))
      | _ => none
    | _, _ => none
  | some (.array c e), .pointer (some ⟨b, o, none⟩) =>
    match szA P e, bounds lo hi mx c c with
    | some n, some (l, h, m) => some (.slice (some ⟨b, o + l * n, none⟩) (h - l) (m - l), none)
    | _, _ => none
  | _, _ => none
noncomputable def sliceR (sup : Nat) (h : Heap) (x : Option (Value × Option (Nat × Nat))) : Option R :=
  match x with
  | some (v, none) => some ⟨v, sup, h, [], some []⟩
  | some (v, some (b, n)) => cond (fits h b n) (some ⟨v, sup, h, [], some [b]⟩) none
  | none => none

def idxAddrA (P : Program) (t : TypeId) (x ix : Value) : Option Value :=
  match toNatA ix with
  | some i => match P.underlying t, x with
    | some (.array len e), .pointer (some ⟨b, o, none⟩) => match szA P e with
      | some n => cond (Nat.blt i len) (some (.pointer (some ⟨b, o + i * n, none⟩))) none
      | none => none
    | some (.slice e), .slice (some ⟨b, o, none⟩) len _ => match szA P e with
      | some n => cond (Nat.blt i len) (some (.pointer (some ⟨b, o + i * n, none⟩))) none
      | none => none
    | _, _ => none
  | none => none
def idxA (P : Program) (t : TypeId) (x ix : Value) : Option Value :=
  match toNatA ix with
  | some i => match P.underlying t, x with
    | some (.array len e), .agg cs => match szA P e with
      | some n => cond (Nat.blt i len) (partA P e cs (i * n)) none
      | none => none
    | some .string, .string s => match s.data.toList[i]? with
      | some b => some (.int .u8 (.ofNat b.toNat))
      | none => none
    | _, _ => none
  | none => none

def bytesOf : List Value → Option (List UInt8)
  | [] => some []
  | .int .u8 n :: r => match bytesOf r with
    | some l => some (UInt8.ofNat n.toNat :: l)
    | none => none
  | _ :: _ => none
def strL (s : ByteArray) : List Value := s.data.toList.map fun b => Value.int .u8 (.ofNat b.toNat)
noncomputable def convA (P : Program) (src dst : TypeId) (x : Value) (sup : Nat) (h : Heap) : Option R :=
  match P.underlying src, P.underlying dst, x with
  | some (.int _), some (.int k), .int _ n => some (.pure (.int k (wrapA k n)) sup h)
  | some (.int _), some .string, .int _ n => some (.pure (.string (Utf8.encode n)) sup h)
  | some .string, some .string, .string s => some (.pure (.string s) sup h)
  | some .string, some (.slice e), .string s =>
    match P.underlying e, szA P e with
    | some (.int .u8), some 1 => if s.size ≤ 140737488355328 then newA (strL s) e 1 s.size s.size sup h [] else none
    | _, _ => none
  | some (.slice e), some .string, .slice none _ _ => match P.underlying e with
    | some (.int .u8) => some (.pure (.string .empty) sup h)
    | _ => none
  | some (.slice e), some .string, .slice (some ⟨b, o, none⟩) n _ => match P.underlying e with
    | some (.int .u8) => cond (Nat.beq n 0) (some (.pure (.string ⟨⟨[]⟩⟩) sup h)) (match rd h b o n with
      | some l => match bytesOf l with
        | some bs => some ⟨.string ⟨⟨bs⟩⟩, sup, h, [], some [b]⟩
        | none => none
      | none => none)
    | _ => none
  | _, _, _ => none

/-- the cells of what is appended, or copied: m elements of n cells -/
noncomputable def srcA (h : Heap) (x : Value) (m n : Nat) : Option (List Value × List Nat) :=
  match x with
  | .slice none _ _ => cond (Nat.beq m 0) (some ([], [])) none
  | .slice (some ⟨b, o, none⟩) _ _ => cond (Nat.beq m 0) (some ([], [])) (match rd h b o (m * n) with
    | some l => some (l, [b])
    | none => none)
  | .string s => cond (Nat.beq n 1) (some ((strL s).take m, [])) none
  | _ => none
def lenA : Value → Option Nat
  | .slice _ n _ => some n
  | .string s => some s.data.toList.length
  | _ => none
/-- may the real block have room behind that is not known? -/
noncomputable def mayGrow (h : Heap) (b o c : Nat) : Bool :=
  match h.get b with
  | some ⟨_, len, _, g⟩ => !(Nat.beq g 0) && Nat.beq (o + c * g) len
  | none => true
def okSrc (P : Program) (t tx : TypeId) (x : Value) (size : Nat) : Bool :=
  match x with
  | .string _ => (match P.underlying tx with | some .string => true | _ => false) && Nat.beq size 1
  | _ => Nat.beq t tx
noncomputable def appendA (P : Program) (ts : List TypeId) (s x : Value) (sup : Nat) (h : Heap) : Option R :=
  match ts, s with
  | [t, tx], .slice base len cap =>
    match P.underlying t with
    | some (.slice e) =>
      match P.info? e, zeroA P e, lenA x with
      | some i, some z, some m => match srcA h x m i.size with
        | some (news, fx) =>
          cond (okSrc P t tx x i.size && Nat.beq z.length i.size && Nat.blt 0 i.size && Nat.ble ((len + m) * (i.bytes + 1)) 140737488355328 && Nat.beq news.length (m * i.size) && news.all Value.oneCell')
            (match base with
            | none => cond (Nat.beq len 0 && Nat.beq cap 0) (cond (Nat.beq m 0) (some ⟨s, sup, h, [], some []⟩) (newA news e i.size m m sup h fx)) none
            | some ⟨b, o, none⟩ =>
              cond (Nat.ble (len + m) cap)
                (cond (Nat.beq m 0) (some ⟨s, sup, h, [], some []⟩) (match wrt h b (o + len * i.size) news with
                  | some h' => some ⟨.slice base (len + m) cap, sup, h', [b], some (b :: fx)⟩
                  | none => none))
                (match (cond (Nat.beq len 0) (some []) (rd h b o (len * i.size))) with
                | some olds =>
                  cond (mayGrow h b o cap)
                    (match h.get b with
                    | some ⟨_, _, e', g⟩ => cond (Nat.beq e e' && Nat.beq g i.size) (match newA (olds ++ news) e i.size (len + m) (len + m) sup (h.put b none) (b :: fx) with
                      | some ⟨v, sup', h', _, ft⟩ => some ⟨v, sup', h', [b], ft⟩
                      | none => none) none
                    | none => none)
                    (newA (olds ++ news) e i.size (len + m) (len + m) sup h (b :: fx))
                | none => none)
            | _ => none) none
        | none => none
      | _, _, _ => none
    | _ => none
  | _, _ => none
noncomputable def copyA (P : Program) (ts : List TypeId) (d x : Value) (sup : Nat) (h : Heap) : Option R :=
  match ts, d with
  | t :: _, .slice base dl _ =>
    match P.underlying t with
    | some (.slice e) => match szA P e, lenA x with
      | some n, some xl => forceN (Nat.min xl dl) fun m =>
        cond (Nat.beq m 0) (some (.pure (.int .i64 (.ofNat 0)) sup h)) (match srcA h x m n with
          | some (news, fx) => match base with
            | some ⟨b, o, none⟩ => cond (Nat.beq news.length (m * n)) (match wrt h b o news with
              | some h' => some ⟨.int .i64 (.ofNat m), sup, h', [b], some (b :: fx)⟩
              | none => none) none
            | _ => none
          | none => none)
      | _, _ => none
    | _ => none
  | _, _ => none
noncomputable def clearA (P : Program) (ts : List TypeId) (x : Value) (sup : Nat) (h : Heap) : Option R :=
  match ts, x with
  | t :: _, .slice base n _ =>
    match P.underlying t with
    | some (.slice e) =>
      cond (Nat.beq n 0) (some (.pure (.tuple #[]) sup h)) (match base, zeroA P e with
        | some ⟨b, o, none⟩, some z => match wrt h b o (zerosOf z n) with
          | some h' => some ⟨.tuple #[], sup, h', [b], some [b]⟩
          | none => none
        | _, _ => none)
    | _ => none
  | _, _ => none
def mmA (mx : Bool) : Value → List Value → Option Value
  | .int k a, [] => some (.int k a)
  | .int k a, .int k' b :: r => cond (Nat.beq (kix k) (kix k')) (mmA mx (.int k (cond mx (cond (ltA a b) b a) (cond (ltA b a) b a))) r) none
  | _, _ => none
def lenOfA (P : Program) (ts : List TypeId) (x : Value) : Option Nat :=
  match ts with
  | [t] => match P.underlying t, x with
    | some .string, .string s => some s.data.toList.length
    | some (.array n _), _ => some n
    | some (.slice _), .slice _ n _ => some n
    | _, _ => none
  | _ => none
noncomputable def builtinA (P : Program) (b : Builtin) (ts : List TypeId) (args : List Value) (sup : Nat) (h : Heap) : Option R :=
  match b, args with
  | .append, [s, x] => appendA P ts s x sup h
  | .copy, [d, x] => copyA P ts d x sup h
  | .clear, [x] => clearA P ts x sup h
  | .len, [x] => match lenOfA P ts x with
    | some n => some (.pure (.int .i64 (.ofNat n)) sup h)
    | none => none
  | .max, v :: r => match mmA true v r with
    | some x => some (.pure x sup h)
    | none => none
  | .min, v :: r => match mmA false v r with
    | some x => some (.pure x sup h)
    | none => none
  | _, _ => none
noncomputable def makeSliceA (P : Program) (t : TypeId) (l c : Value) (sup : Nat) (h : Heap) : Option R :=
  match P.underlying t with
  | some (.slice e) =>
    match P.info? e, zeroA P e, toNatA l, toNatA c with
    | some i, some z, some l, some c =>
      cond (Nat.ble l c && Nat.ble (c * (i.bytes + 1)) 140737488355328 && Nat.beq z.length i.size && Nat.blt 0 i.size) (newA (zerosOf z c) e 0 l c sup h []) none
    | _, _, _, _ => none
  | _ => none
def someO (v : Option Value) : Option (Option Value) :=
  match v with
  | some v => some (some v)
  | none => none
noncomputable def evOX : Option Operand → Bx (Frm → Option (Option Value))
  | none => ⟨fun _ => some none⟩
  | some x => match evX x with
    | ⟨f⟩ => ⟨fun fr => someO (f fr)⟩
def pureO (v : Option Value) (sup : Nat) (h : Heap) : Option R :=
  match v with
  | some v => some ⟨v, sup, h, [], some []⟩
  | none => none
noncomputable def oPick (c a b : Option Value) (sup : Nat) (h : Heap) : Option R :=
  match c, a, b with
  | some (.bool t), some a, some b => some (.pure (cond t a b) sup h)
  | _, _, _ => none
noncomputable def ptrTo (vs : List Value) (e : TypeId) (sup : Nat) (h : Heap) : Option R :=
  mkBlk vs e 0 fun k => some ⟨.pointer (some ⟨sup, 0, none⟩), sup + 1, h.put sup (some k), [], some []⟩
noncomputable def oAlloc (P : Program) (e : TypeId) (sup : Nat) (h : Heap) : Option R :=
  match zeroA P e with
  | some z => ptrTo z e sup h
  | none => none
noncomputable def oBox (e : TypeId) (v : Option Value) (sup : Nat) (h : Heap) : Option R :=
  match v with
  | some v => ptrTo v.cells.toList e sup h
  | none => none
noncomputable def oBuild (P : Program) (t : TypeId) (l : Option (List (Nat × Value))) (sup : Nat) (h : Heap) : Option R :=
  match l with
  | some l => pureO (buildA P t l) sup h
  | none => none
noncomputable def oBuildSlice (P : Program) (t : TypeId) (len : Nat) (l : Option (List (Nat × Value))) (sup : Nat) (h : Heap) : Option R :=
  match l with
  | some l => buildSliceA P t len l sup h
  | none => none
noncomputable def oLoad (P : Program) (t : TypeId) (a : Option Value) (sup : Nat) (h : Heap) : Option R :=
  match a with
  | some (.pointer (some ⟨b, o, none⟩)) => match ldA P t h b o with
    | some v => some ⟨v, sup, h, [], some [b]⟩
    | none => none
  | _ => none
noncomputable def oStore (P : Program) (t : TypeId) (a v : Option Value) (sup : Nat) (h : Heap) : Option R :=
  match a, v, szA P t with
  | some (.pointer (some ⟨b, o, none⟩)), some v, some n => cond (Nat.beq v.cells.toList.length n) (match wrt h b o v.cells.toList with
    | some h' => some ⟨undef, sup, h', [b], some [b]⟩
    | none => none) none
  | _, _, _ => none
noncomputable def oNil (v : Option Value) (sup : Nat) (h : Heap) : Option R :=
  match v with
  | some (.pointer (some a)) => some (.pure (.pointer (some a)) sup h)
  | some (.func (.func k) a b) => some (.pure (.func (.func k) a b) sup h)
  | _ => none
def oBin (f : Bin) (a b : Option Value) (sup : Nat) (h : Heap) : Option R :=
  match a with
  | some a => match b with
    | some b => pureO (f a b) sup h
    | none => none
  | none => none
noncomputable def oUn (op : UnOp) (a : Option Value) (sup : Nat) (h : Heap) : Option R :=
  match a with
  | some a => pureO (unA op a) sup h
  | none => none
noncomputable def oConv (P : Program) (s d : TypeId) (a : Option Value) (sup : Nat) (h : Heap) : Option R :=
  match a with
  | some a => convA P s d a sup h
  | none => none
noncomputable def oFunc (fn : Fn) (f c : Option (List Value)) (sup : Nat) (h : Heap) : Option R :=
  match f, c with
  | some f, some c => some (.pure (.func fn ⟨f⟩ ⟨c⟩) sup h)
  | _, _ => none
noncomputable def oMake (P : Program) (t : TypeId) (l c : Option Value) (sup : Nat) (h : Heap) : Option R :=
  match l, c with
  | some l, some c => makeSliceA P t l c sup h
  | _, _ => none
noncomputable def oSlice (P : Program) (t : TypeId) (x : Option Value) (lo hi mx : Option (Option Value)) (sup : Nat) (h : Heap) : Option R :=
  match x, lo, hi, mx with
  | some x, some lo, some hi, some mx => sliceR sup h (sliceA P t x lo hi mx)
  | _, _, _, _ => none
def fieldA (P : Program) (t : TypeId) (f : Nat) : Option Field :=
  match P.underlying t with
  | some (.struct fs) => fs.toList[f]?
  | _ => none
/-- a field's place, if it has cells -/
def foffA (P : Program) (t : TypeId) (f : Nat) : Option Nat :=
  match fieldA P t f with
  | some f => match szA P f.type with
    | some n => cond (Nat.beq n 0) none (some f.offset)
    | none => none
  | none => none
noncomputable def oFAddr (P : Program) (t : TypeId) (f : Nat) (x : Option Value) (sup : Nat) (h : Heap) : Option R :=
  match foffA P t f, x with
  | some n, some (.pointer (some ⟨b, o, none⟩)) => some (.pure (.pointer (some ⟨b, o + n, none⟩)) sup h)
  | _, _ => none
noncomputable def oField (P : Program) (t : TypeId) (f : Nat) (x : Option Value) (sup : Nat) (h : Heap) : Option R :=
  match fieldA P t f, x with
  | some f, some (.agg cs) => pureO (partA P f.type cs f.offset) sup h
  | _, _ => none
noncomputable def oIdxA (P : Program) (t : TypeId) (x i : Option Value) (sup : Nat) (h : Heap) : Option R :=
  match x, i with
  | some x, some i => pureO (idxAddrA P t x i) sup h
  | _, _ => none
noncomputable def oIdx (P : Program) (t : TypeId) (x i : Option Value) (sup : Nat) (h : Heap) : Option R :=
  match x, i with
  | some x, some i => pureO (idxA P t x i) sup h
  | _, _ => none
noncomputable def oExt (i : Nat) (x : Option Value) (sup : Nat) (h : Heap) : Option R :=
  match x with
  | some (.tuple vs) => pureO (vs.toList[i]?) sup h
  | _ => none
noncomputable def oBuiltin (P : Program) (b : Builtin) (ts : List TypeId) (l : Option (List Value)) (sup : Nat) (h : Heap) : Option R :=
  match l with
  | some l => builtinA P b ts l sup h
  | none => none
abbrev OpF := Frm → Nat → Heap → Option R
noncomputable def callBX (P : Program) (c : Call) : Bx OpF :=
  match c.callee with
  | .builtin b => match evsX c.args.toList with
    | ⟨l⟩ => ⟨fun fr sup h => oBuiltin P b c.argTypes.toList (l fr) sup h⟩
  | _ => ⟨fun _ _ _ => none⟩
noncomputable def x1 (x : Operand) (k : Option Value → Nat → Heap → Option R) : Bx OpF :=
  match evX x with
  | ⟨f⟩ => ⟨fun fr => k (f fr)⟩
noncomputable def x2 (x y : Operand) (k : Option Value → Option Value → Nat → Heap → Option R) : Bx OpF :=
  match evX x with
  | ⟨f⟩ => match evX y with
    | ⟨g⟩ => ⟨fun fr => k (f fr) (g fr)⟩
noncomputable def xPick (c a b : Operand) : Bx OpF :=
  match evX c with
  | ⟨f⟩ => match evX a with
    | ⟨g⟩ => match evX b with
      | ⟨i⟩ => ⟨fun fr => oPick (f fr) (g fr) (i fr)⟩
noncomputable def xSlice (P : Program) (t : TypeId) (x : Operand) (lo hi mx : Option Operand) : Bx OpF :=
  match evX x with
  | ⟨f⟩ => match evOX lo with
    | ⟨a⟩ => match evOX hi with
      | ⟨b⟩ => match evOX mx with
        | ⟨c⟩ => ⟨fun fr => oSlice P t (f fr) (a fr) (b fr) (c fr)⟩
noncomputable def xFunc (fn : Fn) (f c : List Operand) : Bx OpF :=
  match evsX f with
  | ⟨a⟩ => match evsX c with
    | ⟨b⟩ => ⟨fun fr => oFunc fn (a fr) (b fr)⟩
noncomputable def xBin (P : Program) (op : BinOp) (t : TypeId) (x y : Operand) : Bx OpF :=
  match binX P op t with
  | ⟨f⟩ => x2 x y (oBin f)
noncomputable def xBuild (P : Program) (t : TypeId) (l : List (Nat × Operand)) : Bx OpF :=
  match partsX l with
  | ⟨f⟩ => ⟨fun fr => oBuild P t (f fr)⟩
noncomputable def xBuildSlice (P : Program) (t : TypeId) (n : Nat) (l : List (Nat × Operand)) : Bx OpF :=
  match partsX l with
  | ⟨f⟩ => ⟨fun fr => oBuildSlice P t n (f fr)⟩
/-- an operation that calls no function -/
noncomputable def opX (P : Program) (op : Op) : Bx OpF :=
  match op with
  | .move x => x1 x pureO
  | .assign x => x1 x pureO
  | .pick c a b => xPick c a b
  | .alloc e => ⟨fun _ => oAlloc P e⟩
  | .box e x => x1 x (oBox e)
  | .build t parts => xBuild P t parts.toList
  | .buildSlice t len parts => xBuildSlice P t len parts.toList
  | .load t x => x1 x (oLoad P t)
  | .store t x y => x2 x y (oStore P t)
  | .nilCheck x => x1 x oNil
  | .binOp op t x y _ => xBin P op t x y
  | .unOp op _ x => x1 x (oUn op)
  | .convert s d x => x1 x (oConv P s d)
  | .makeFunc fn f c => xFunc fn f.toList c.toList
  | .makeSlice t l c => x2 l c (oMake P t)
  | .slice t x lo hi mx => xSlice P t x lo hi mx
  | .fieldAddr s x f => x1 x (oFAddr P s f)
  | .field t x f => x1 x (oField P t f)
  | .indexAddr t x i => x2 x i (oIdxA P t)
  | .index t x i => x2 x i (oIdx P t)
  | .extract x i => x1 x (oExt i)
  | .call c => callBX P c
  | _ => ⟨fun _ _ _ => none⟩

/-! ### Code -/
inductive AEx where
  | normal
  | exit (id : Nat)
  | ret
structure Out where
  ex : AEx
  fr : Frm
  sup : Nat
  h : Heap
  lg : List Nat
abbrev CallF := FuncId → List Value → Nat → Heap → Option R

def addLg (base : Nat) : List Nat → List Nat → List Nat
  | [], l => l
  | b :: r, l => addLg base r (cond (Nat.blt b base && !(l.any fun c => Nat.beq b c)) (b :: l) l)

def callV (call : CallF) (f : Option Value) (l : Option (List Value)) (sup : Nat) (h : Heap) : Option R :=
  match f with
  | some (.func (.func k) first cap) => match l with
    | some l => call k (first.toList ++ (l ++ cap.toList)) sup h
    | none => none
  | _ => none
noncomputable def callX (P : Program) (c : Call) : Bx (CallF → OpF) :=
  match c.callee with
  | .value f => match evX f with
    | ⟨a⟩ => match evsX c.args.toList with
      | ⟨b⟩ => ⟨fun call fr => callV call (a fr) (b fr)⟩
  | _ => match callBX P c with
    | ⟨f⟩ => ⟨fun _ => f⟩
noncomputable def stepX (P : Program) (op : Op) : Bx (CallF → OpF) :=
  match op with
  | .call c => callX P c
  | op => match opX P op with
    | ⟨f⟩ => ⟨fun _ => f⟩
def wantB (want : Bool) (v : Option Value) : Option Bool :=
  match v with
  | some (.bool b) => some (b == want)
  | _ => none
noncomputable def wantG (ops : List Oper) (j : Nat) (want : Bool) : Bx (Frm → Option Bool) :=
  match ops[j]? with
  | some ⟨some d, _, _, _, _, _⟩ => match getBx d with
    | ⟨g⟩ => ⟨fun fr => wantB want (g fr.s)⟩
  | _ => ⟨fun _ => none⟩
/-- is a guarded operation wanted? -/
noncomputable def wantX (ops : List Oper) (g : Option (Nat × Bool)) : Option (Bx (Frm → Option Bool)) :=
  match g with
  | none => none
  | some (j, want) => some (wantG ops j want)
noncomputable def putD (d : Nat) (g : Option Value → T Value → T Value) (fr : Frm) (v : Value) : Option Frm :=
  match fr with
  | ⟨n, s⟩ => cond (Nat.blt d n) (forceT (g (some v) s) fun s => some ⟨n, s⟩) none
noncomputable def putX (d : Option Tmp) : Bx (Frm → Value → Option Frm) :=
  match d with
  | some d => match setBx d with
    | ⟨g⟩ => ⟨putD d g⟩
  | none => ⟨fun fr _ => some fr⟩

structure Rec where
  wr : List Nat
  ft : Option (List Nat)
  lo : Nat
  hi : Nat
structure Run where
  fr : Frm
  sup : Nat
  h : Heap
  recs : List Rec
abbrev Runs := Frm → Nat → Heap → List Rec → Option Run
def runNext (ih : Runs) (fr : Option Frm) (sup : Nat) (h : Heap) (recs : List Rec) : Option Run :=
  match fr with
  | some fr => ih fr sup h recs
  | none => none
noncomputable def runPut (put : Frm → Value → Option Frm) (ih : Runs) (fr : Frm) (lo : Nat) (recs : List Rec) (r : Option R) : Option Run :=
  match r with
  | some ⟨v, sup, h, wr, ft⟩ => forceV v fun v => forceN sup fun sup => forceT h fun h => runNext ih (put fr v) sup h (⟨wr, ft, lo, sup⟩ :: recs)
  | none => none
noncomputable def runG (put : Frm → Value → Option Frm) (op : CallF → OpF) (call : CallF) (ih : Runs) (fr : Frm) (sup : Nat) (h : Heap) (recs : List Rec) (t : Option Bool) : Option Run :=
  match t with
  | some true => runPut put ih fr sup recs (op call fr sup h)
  | some false => runNext ih (put fr undef) sup h (⟨[], some [], sup, sup⟩ :: recs)
  | none => none
noncomputable def operX (P : Program) (all : List Oper) (o : Oper) : Bx (CallF → Runs → Runs) :=
  match stepX P o.op with
  | ⟨op⟩ => match putX o.dst with
    | ⟨put⟩ => match wantX all o.guard with
      | none => ⟨fun call ih fr sup h recs => runPut put ih fr sup recs (op call fr sup h)⟩
      | some ⟨w⟩ => ⟨fun call ih fr sup h recs => runG put op call ih fr sup h recs (w fr)⟩
/-- the operations in the text's order -/
noncomputable def opsX (P : Program) (all : List Oper) : List Oper → Bx (CallF → Runs)
  | [] => ⟨fun _ fr sup h recs => some ⟨fr, sup, h, recs⟩⟩
  | o :: r => match operX P all o with
    | ⟨f⟩ => match opsX P all r with
      | ⟨g⟩ => ⟨fun call => f call (g call)⟩
/-- for each operation what stands ahead of it in every order, as bits -/
def befOf (acc : List Nat) (l : List Edge) (s : Nat) : Nat :=
  match l with
  | [] => s
  | e :: r => befOf acc r (cond (Region.binds .any e) (Nat.lor (Nat.lor s (2 ^ e.on)) (acc.getD e.on 0)) s)
def befL : List Oper → List Nat → List Nat
  | [], acc => acc
  | o :: r, acc => befL r (acc ++ [befOf acc o.after.toList 0])
def ordB (B : List Nat) (i j : Nat) : Bool := cond (Nat.ble j i) (Nat.testBit (B.getD i 0) j) (Nat.testBit (B.getD j 0) i)
def apartR (x y : Rec) : Bool :=
  x.wr.all fun b => (match y.ft with | none => false | some l => !(l.any fun c => Nat.beq b c)) && !(Nat.ble y.lo b && Nat.blt b y.hi)
def recOK (B : List Nat) (rs : List (Rec × Nat)) (x : Rec) (i : Nat) : Bool :=
  match x.wr with
  | [] => true
  | _ => rs.all fun y => Nat.beq i y.2 || ordB B i y.2 || apartR x y.1
def recsAll (B : List Nat) (rs : List (Rec × Nat)) : Bool := rs.all fun x => recOK B rs x.1 x.2
def recsOK (B : List Nat) (recs : List Rec) : Bool := recsAll B recs.reverse.zipIdx
/-- edges lead back, and what is not ordered looks at no other's slot -/
def drawOK (ops : Array Oper) : Bool :=
  ops.toList.zipIdx.all fun x => x.1.after.toList.all (fun e => !(Region.binds .any e) || Nat.blt e.on x.2) &&
    ops.toList.zipIdx.all fun y => Nat.ble y.2 x.2 || ordB (befL ops.toList []) x.2 y.2 || x.1.apart ops y.1
def glOK (P : Program) (x : Operand) : Bool :=
  match x with
  | .global g => Nat.blt g P.globals.size
  | _ => true
def opsGl (P : Program) (ops : List Oper) : Bool := ops.all fun o => o.op.operands.toList.all (glOK P)
def lgOf (base : Nat) (recs : List Rec) : List Nat := recs.foldl (fun l x => addLg base x.wr l) []
def regEnd (chk : List Rec → Bool) (base : Nat) (r : Option Run) : Option Out :=
  match r with
  | some ⟨fr, sup, h, recs⟩ => cond (chk recs) (some ⟨.normal, fr, sup, h, lgOf base recs⟩) none
  | none => none
abbrev CodeF := CallF → Nat → Nat → Frm → Nat → Heap → Option Out
noncomputable def regX (P : Program) (ops : Array Oper) (draw : Bool) : Bx CodeF :=
  match opsGl P ops.toList with
  | false => ⟨fun _ _ _ _ _ _ => none⟩
  | true => match opsX P ops.toList ops.toList with
    | ⟨f⟩ => match draw with
      | true => match drawOK ops with
        | true => ⟨fun call _ base fr sup h => regEnd (recsOK (befL ops.toList [])) base (f call fr sup h [])⟩
        | false => ⟨fun _ _ _ _ _ _ => none⟩
      | false => ⟨fun call _ base fr sup h => regEnd (fun _ => true) base (f call fr sup h [])⟩

noncomputable def resG (P : Program) (fr : Frm) (h : Heap) : List ResultVar → Option (List Value)
  | [] => some []
  | .tmp t :: r => match fr.s.get t, resG P fr h r with
    | some v, some l => some (v :: l)
    | _, _ => none
  | .cell a t :: r => match fr.s.get a, resG P fr h r with
    | some (.pointer (some ⟨b, o, none⟩)), some l => match ldA P t h b o with
      | some v => some (v :: l)
      | none => none
    | _, _ => none
noncomputable def resA (P : Program) (fn : Func) (fr : Frm) (h : Heap) : Option Value :=
  match resG P fr h fn.results.toList with
  | some [v] => some v
  | some vs => some (.tuple ⟨vs⟩)
  | none => none
noncomputable def argsA (l : List Value) : T Value → Nat → T Value :=
  List.rec (motive := fun _ => T Value → Nat → T Value) (fun s _ => s) (fun v _ ih s i => forceV v fun v => forceT (s.put i (some v)) fun s => forceN (i + 1) fun i => ih s i) l
noncomputable def endA (P : Program) (fn : Func) (o : Option Out) : Option R :=
  match o with
  | some ⟨ex, fr, sup, h, lg⟩ => match ex with
    | .exit _ => none
    | _ => match resA P fn fr h with
      | some v => some ⟨v, sup, h, lg, none⟩
      | none => none
  | none => none
def thenA (base : Nat) (lg : List Nat) (o : Option Out) : Option Out :=
  match o with
  | some ⟨ex, fr, sup, h, lg'⟩ => some ⟨ex, fr, sup, h, addLg base lg lg'⟩
  | none => none
def seqA (base : Nat) (g : Frm → Nat → Heap → Option Out) (o : Option Out) : Option Out :=
  match o with
  | some ⟨ex, fr, sup, h, lg⟩ => match ex with
    | .normal => match lg with
      | [] => g fr sup h
      | lg => thenA base lg (g fr sup h)
    | _ => some ⟨ex, fr, sup, h, lg⟩
  | none => none
def condA (a b : Frm → Nat → Heap → Option Out) (fr : Frm) (sup : Nat) (h : Heap) (v : Option Value) : Option Out :=
  match v with
  | some (.bool t) => match t with
    | true => a fr sup h
    | false => b fr sup h
  | _ => none
def blockA (id : Nat) (o : Option Out) : Option Out :=
  match o with
  | some ⟨ex, fr, sup, h, lg⟩ => match ex with
    | .exit j => cond (Nat.beq j id) (some ⟨.normal, fr, sup, h, lg⟩) (some ⟨.exit j, fr, sup, h, lg⟩)
    | _ => some ⟨ex, fr, sup, h, lg⟩
  | none => none
noncomputable def loopA (base : Nat) (body : Frm → Nat → Heap → Option Out) (n : Nat) : Frm → Nat → Heap → Option Out :=
  Nat.rec (motive := fun _ => Frm → Nat → Heap → Option Out) (fun _ _ _ => none) (fun _ ih fr sup h => seqA base ih (body fr sup h)) n
/-- What a code does: call: how functions are called; n: how often a loop may go round; base: the first number that belongs to the function at hand. -/
noncomputable def codeX (P : Program) : Code → Bx CodeF
  | .skip => ⟨fun _ _ _ fr sup h => some ⟨.normal, fr, sup, h, []⟩⟩
  | .region _ ops draw => regX P ops draw
  | .seq a b => match codeX P a with
    | ⟨f⟩ => match codeX P b with
      | ⟨g⟩ => ⟨fun call n base fr sup h => seqA base (g call n base) (f call n base fr sup h)⟩
  | .cond x a b => match evX x with
    | ⟨e⟩ => match codeX P a with
      | ⟨f⟩ => match codeX P b with
        | ⟨g⟩ => ⟨fun call n base fr sup h => condA (f call n base) (g call n base) fr sup h (e fr)⟩
  | .block id b => match codeX P b with
    | ⟨f⟩ => ⟨fun call n base fr sup h => blockA id (f call n base fr sup h)⟩
  | .loop b => match codeX P b with
    | ⟨f⟩ => ⟨fun call n base => loopA base (f call n base) n⟩
  | .exit id => ⟨fun _ _ _ fr sup h => some ⟨.exit id, fr, sup, h, []⟩⟩
  | .ret => ⟨fun _ _ _ fr sup h => some ⟨.ret, fr, sup, h, []⟩⟩
  | _ => ⟨fun _ _ _ _ _ _ => none⟩
noncomputable def enterA (f : CodeF) (call : CallF) (n ntmps : Nat) (args : List Value) (sup : Nat) (h : Heap) : Option Out :=
  forceT (argsA args .nil 0) fun s => f call n sup ⟨max ntmps args.length, s⟩ sup h
def bodyA (fn : Func) : Option Code := if fn.name = "runtime.NumGoroutine" then none else fn.body
noncomputable def fnX (P : Program) (f : FuncId) : Bx (CallF → Nat → List Value → Nat → Heap → Option R) :=
  match P.funcs[f]? with
  | some fn => match bodyA fn with
    | some c => match codeX P c with
      | ⟨g⟩ => ⟨fun call n args sup h => endA P fn (enterA g call n fn.ntmps args sup h)⟩
    | none => ⟨fun _ _ _ _ _ => none⟩
  | none => ⟨fun _ _ _ _ _ => none⟩
/-- X: what is known of a function already; m: how deep calls may go; n: how often a loop may go round -/
noncomputable def callN (P : Program) (X : FuncId → Option (List Value → Nat → Heap → Option R)) (n m : Nat) : CallF :=
  Nat.rec (motive := fun _ => CallF) (fun _ _ _ _ => none) (fun _ ih f args sup h => match X f with
    | some g => g args sup h
    | none => match fnX P f with
      | ⟨g⟩ => g ih n args sup h) m
end Go.Ev
