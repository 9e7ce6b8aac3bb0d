import Derived.Test.YthdpmpfchmcklaaGreatDoorEvBase
namespace Go.Ev

/-! ### Whole numbers: quick ways for the kernel, each equal to the model's -/
def lim : IntKind → Nat
  | .i8 => 128 | .u8 => 256 | .i16 => 32768 | .u16 => 65536 | .i32 => 2147483648 | .u32 => 4294967296
  | .i64 => 9223372036854775808 | .u64 => 18446744073709551616
def wrapA (k : IntKind) (n : Int) : Int :=
  match n with
  | .ofNat m => if Nat.blt m (lim k) then .ofNat m else k.wrap (.ofNat m)
  | .negSucc m => k.wrap (.negSucc m)
theorem lim_pow (k : IntKind) : lim k = if k.signed then 2 ^ (k.bits - 1) else 2 ^ k.bits := by cases k <;> rfl
theorem wrapA_eq (k : IntKind) (n : Int) : wrapA k n = k.wrap n := by
  cases n with
  | negSucc m => rfl
  | ofNat m =>
    simp only [wrapA]
    split
    · rename_i h
      have h' : m < lim k := by simpa using h
      have e : (Int.ofNat m) = (m : Int) := rfl
      rw [e]
      cases k <;> simp only [lim] at h' <;> simp [IntKind.wrap, IntKind.bits, IntKind.signed] <;> omega
    · rfl
def ltA : Int → Int → Bool
  | .ofNat a, .ofNat b => Nat.blt a b
  | x, y => decide (x < y)
theorem ltA_eq (x y : Int) : ltA x y = decide (x < y) := by
  cases x <;> cases y <;> simp only [ltA]
  rw [Bool.eq_iff_iff]; simp
def leA : Int → Int → Bool
  | .ofNat a, .ofNat b => Nat.ble a b
  | x, y => decide (x ≤ y)
theorem leA_eq (x y : Int) : leA x y = decide (x ≤ y) := by
  cases x <;> cases y <;> simp only [leA]
  rw [Bool.eq_iff_iff]; simp
def eqI : Int → Int → Bool
  | .ofNat a, .ofNat b => Nat.beq a b
  | x, y => decide (x = y)
theorem eqI_eq (x y : Int) : eqI x y = decide (x = y) := by
  cases x <;> cases y <;> simp only [eqI]
  rw [Bool.eq_iff_iff]; simp; omega
theorem eqI_beq (x y : Int) : eqI x y = (x == y) := by rw [eqI_eq]; rfl

/-- bits of numbers without a sign -/
def bitsFast (op : BinOp) (m a b : Nat) : Option Nat :=
  match op with
  | .and => some (Nat.land (a % m) (b % m))
  | .or => some (Nat.lor (a % m) (b % m))
  | .xor => some (Nat.xor (a % m) (b % m))
  | _ => none
def bitsA (op : BinOp) (k : IntKind) (x y : Int) : Int :=
  match x, y with
  | .ofNat a, .ofNat b => if k.signed then Go.bits op k x y else match bitsFast op (lim k) a b with
    | some r => .ofNat r
    | none => Go.bits op k x y
  | _, _ => Go.bits op k x y
theorem ofInt_ofNat_toNat (n a : Nat) : (BitVec.ofInt n (Int.ofNat a)).toNat = a % 2 ^ n := by
  rw [show Int.ofNat a = (a : Int) from rfl, BitVec.ofInt_natCast, BitVec.toNat_ofNat]
theorem wrap_of_lt (k : IntKind) (hk : k.signed = false) (r : Nat) (hr : r < 2 ^ k.bits) : k.wrap (r : Int) = (r : Int) := by
  cases k <;> simp [IntKind.signed] at hk <;> simp only [IntKind.bits] at hr <;> simp [IntKind.wrap, IntKind.bits, IntKind.signed] <;> omega
theorem bitsA_eq (op : BinOp) (k : IntKind) (x y : Int) : bitsA op k x y = Go.bits op k x y := by
  cases x with
  | negSucc a => cases y <;> rfl
  | ofNat a =>
    cases y with
    | negSucc b => rfl
    | ofNat b =>
      simp only [bitsA]
      split
      · rfl
      · rename_i hs
        have hs' : k.signed = false := by simpa using hs
        have hl : lim k = 2 ^ k.bits := by rw [lim_pow]; simp [hs']
        have hp : 0 < 2 ^ k.bits := Nat.two_pow_pos _
        have ha : a % 2 ^ k.bits < 2 ^ k.bits := Nat.mod_lt _ hp
        have hb : b % 2 ^ k.bits < 2 ^ k.bits := Nat.mod_lt _ hp
        cases op <;> simp only [bitsFast] <;> (try rfl)
        · have e : (BitVec.ofInt k.bits (Int.ofNat a) &&& BitVec.ofInt k.bits (Int.ofNat b)).toNat = Nat.land (a % lim k) (b % lim k) := by
            rw [BitVec.toNat_and, ofInt_ofNat_toNat, ofInt_ofNat_toNat, hl]; rfl
          simp only [Go.bits, e]
          exact (wrap_of_lt k hs' _ (by rw [hl]; exact Nat.and_lt_two_pow _ hb)).symm
        · have e : (BitVec.ofInt k.bits (Int.ofNat a) ||| BitVec.ofInt k.bits (Int.ofNat b)).toNat = Nat.lor (a % lim k) (b % lim k) := by
            rw [BitVec.toNat_or, ofInt_ofNat_toNat, ofInt_ofNat_toNat, hl]; rfl
          simp only [Go.bits, e]
          exact (wrap_of_lt k hs' _ (by rw [hl]; exact Nat.or_lt_two_pow ha hb)).symm
        · have e : (BitVec.ofInt k.bits (Int.ofNat a) ^^^ BitVec.ofInt k.bits (Int.ofNat b)).toNat = Nat.xor (a % lim k) (b % lim k) := by
            rw [BitVec.toNat_xor, ofInt_ofNat_toNat, ofInt_ofNat_toNat, hl]; rfl
          simp only [Go.bits, e]
          exact (wrap_of_lt k hs' _ (by rw [hl]; exact Nat.xor_lt_two_pow ha hb)).symm
def shlA (k : IntKind) (x : Int) (n : Nat) : Int :=
  match x with
  | .ofNat a => wrapA k (.ofNat (a * 2 ^ n))
  | .negSucc a => k.wrap (.negSucc a * 2 ^ n)
theorem shlA_eq (k : IntKind) (x : Int) (n : Nat) : shlA k x n = k.wrap (x * 2 ^ n) := by
  cases x with
  | negSucc a => rfl
  | ofNat a =>
    simp only [shlA, wrapA_eq]
    rw [show Int.ofNat (a * 2 ^ n) = ((a * 2 ^ n : Nat) : Int) from rfl, show Int.ofNat a = (a : Int) from rfl]
    simp
def shrA (x : Int) (n : Nat) : Int :=
  match x with
  | .ofNat a => .ofNat (a / 2 ^ n)
  | .negSucc a => (Int.negSucc a).fdiv (2 ^ n)
theorem shrA_eq (x : Int) (n : Nat) : shrA x n = x.fdiv (2 ^ n) := by
  cases x with
  | negSucc a => rfl
  | ofNat a =>
    simp only [shrA]
    rw [show Int.ofNat (a / 2 ^ n) = ((a / 2 ^ n : Nat) : Int) from rfl, show Int.ofNat a = (a : Int) from rfl]
    rw [Int.fdiv_eq_ediv_of_nonneg _ (Int.le_of_lt (Int.pow_pos (by decide)))]
    simp [Int.natCast_ediv]
end Go.Ev
