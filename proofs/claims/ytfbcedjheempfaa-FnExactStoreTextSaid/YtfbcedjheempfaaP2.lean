/- The sum of a text, and its four bytes. Conditions: those that each theorem names. -/
import Derived.Test.YtfbcedjheempfaaP1
set_option linter.unusedSimpArgs false
set_option linter.unusedVariables false
namespace Go.Sim
def sx (a b : Int) : Int := IntKind.u32.wrap (BitVec.ofInt IntKind.u32.bits a ^^^ BitVec.ofInt IntKind.u32.bits b).toNat
def half (s : Int) : Int := IntKind.u32.wrap (s.tdiv 2)
def bit (s : Int) : Int := if s.tmod 2 = 1 then sx (half s) 3558460437 else half s
def cbits : Nat → Int → Int
  | 0, s => s
  | n + 1, s => cbits n (bit s)
def sum1 (s : Int) (b : Nat) : Int := cbits 8 (sx s (IntKind.u32.wrap b))
theorem cbits_step {j : Nat} {u : Int} (hj : j < 8) : cbits (8 - j) u = cbits (8 - (j + 1)) (bit u) := by
  rw [show 8 - j = (8 - (j + 1)) + 1 by omega]; rfl
theorem bit_pos {u : Int} (h : u.tmod 2 = 1) : bit u = sx (half u) 3558460437 := by rw [bit, if_pos h]
theorem bit_neg {u : Int} (h : ¬ u.tmod 2 = 1) : bit u = half u := by rw [bit, if_neg h]
def sumFrom (t : ByteArray) (i : Nat) (s : Int) : Int := if i < t.size then sumFrom t (i + 1) (sum1 s (byteAt t i).toNat) else s
termination_by t.size - i
theorem sumFrom_lt {t : ByteArray} {i : Nat} {s : Int} (h : i < t.size) : sumFrom t i s = sumFrom t (i + 1) (sum1 s (byteAt t i).toNat) := by rw [sumFrom, if_pos h]
theorem sumFrom_end {t : ByteArray} {i : Nat} {s : Int} (h : ¬ i < t.size) : sumFrom t i s = s := by rw [sumFrom, if_neg h]
def U32 (x : Int) : Prop := 0 ≤ x ∧ x < 4294967296
theorem wrap_u32 (n : Int) : U32 (IntKind.u32.wrap n) := by
  simp only [IntKind.wrap, IntKind.bits, IntKind.signed, Bool.false_and, U32]
  simp; omega
theorem cbits_u32 : ∀ (n : Nat) (s : Int), U32 s → U32 (cbits n s)
  | 0, s, h => h
  | n + 1, s, h => cbits_u32 n (bit s) (by unfold bit; split <;> exact wrap_u32 _)
theorem sumFrom_u32 (t : ByteArray) (i : Nat) (s : Int) (h : U32 s) : U32 (sumFrom t i s) := by
  by_cases hi : i < t.size
  · rw [sumFrom_lt hi]
    exact sumFrom_u32 t (i + 1) _ (cbits_u32 8 _ (wrap_u32 _))
  · rw [sumFrom_end hi]; exact h
termination_by t.size - i
def b8 (x : Int) (k : Nat) : UInt8 := UInt8.ofNat (x.toNat / 256 ^ k)
/-- A sum's four bytes, the highest first. -/
def four (x : Int) : ByteArray := ⟨#[b8 x 3, b8 x 2, b8 x 1, b8 x 0]⟩
theorem four_size (x : Int) : (four x).size = 4 := rfl
def crc (t : ByteArray) : Int := sumFrom t 0 4294967295
theorem crc_u32 (t : ByteArray) : U32 (crc t) := sumFrom_u32 t 0 _ ⟨by decide, by decide⟩
def sealT (t : ByteArray) : ByteArray := t ++ four (crc t)
theorem u8_ofNat (n : Nat) : UInt8.ofNat (IntKind.u8.wrap (n : Int)).toNat = UInt8.ofNat n := by
  simp only [IntKind.wrap, IntKind.bits, IntKind.signed, Bool.false_and]
  apply UInt8.toNat_inj.1
  simp; omega
theorem fdiv_nat (n k : Nat) : ((n : Int).fdiv (k : Int)) = ((n / k : Nat) : Int) := by
  rw [Int.fdiv_eq_ediv_of_nonneg _ (by omega)]; norm_cast
theorem sh_byte {x : Int} (hx : U32 x) (k : Nat) (hk : k < 4) (m : Nat) (hm : m = 8 * k) : UInt8.ofNat (IntKind.u8.wrap (x.fdiv (2 ^ min m IntKind.u32.bits))).toNat = b8 x k := by
  obtain ⟨n, rfl⟩ := Int.eq_ofNat_of_zero_le hx.1
  have e : min m IntKind.u32.bits = 8 * k := by rw [hm]; exact Nat.min_eq_left (by show 8 * k ≤ 32; omega)
  rw [e, show (2 : Int) ^ (8 * k) = ((256 ^ k : Nat) : Int) by rw [Int.pow_mul]; norm_cast, fdiv_nat, u8_ofNat]
  simp [b8]
theorem sh_byte0 {x : Int} (hx : U32 x) : UInt8.ofNat (IntKind.u8.wrap x).toNat = b8 x 0 := by
  obtain ⟨n, rfl⟩ := Int.eq_ofNat_of_zero_le hx.1
  rw [u8_ofNat]; simp [b8]
def sh8 : Nat → Int → Int
  | 0, x => x
  | j + 1, x => (sh8 j x).fdiv (2 ^ min (Int.toNat 8) IntKind.i64.bits)
def lo8 (x : Int) : Int := IntKind.u8.wrap (IntKind.i64.wrap (BitVec.ofInt IntKind.i64.bits x &&& BitVec.ofInt IntKind.i64.bits 255).toNat)
theorem sh8_nat (n : Nat) : ∀ j, sh8 j (n : Int) = ((n / 256 ^ j : Nat) : Int)
  | 0 => by simp [sh8]
  | j + 1 => by
    rw [sh8, sh8_nat n j, show ((2 : Int) ^ min (Int.toNat 8) IntKind.i64.bits) = ((256 : Nat) : Int) from rfl, fdiv_nat, Nat.div_div_eq_div_mul, Nat.pow_succ]
theorem lo8_nat (n : Nat) (h : n < 4294967296) : lo8 (n : Int) = ((n % 256 : Nat) : Int) := by
  unfold lo8
  have e : (BitVec.ofInt IntKind.i64.bits (n : Int) &&& BitVec.ofInt IntKind.i64.bits 255).toNat = n % 256 := by
    show (BitVec.ofInt 64 (n : Int) &&& BitVec.ofInt 64 255).toNat = n % 256
    have e1 : BitVec.ofInt 64 (n : Int) = BitVec.ofNat 64 n := by simp
    have e2 : BitVec.ofInt 64 (255 : Int) = BitVec.ofNat 64 255 := by rfl
    rw [e1, e2, BitVec.toNat_and, BitVec.toNat_ofNat, BitVec.toNat_ofNat]
    have e3 : n % 2 ^ 64 = n := Nat.mod_eq_of_lt (by omega)
    have e4 : 255 % 2 ^ 64 = 2 ^ 8 - 1 := by decide
    rw [e3, e4, Nat.and_two_pow_sub_one_eq_mod]
  rw [e, wrapNat (by omega), w8 (by omega) (by omega)]
theorem lo_byte {x : Int} (hx : U32 x) (k : Nat) : UInt8.ofNat (lo8 (sh8 k x)).toNat = b8 x k := by
  obtain ⟨n, rfl⟩ := Int.eq_ofNat_of_zero_le hx.1
  have h2 : n < 4294967296 := by have := hx.2; omega
  rw [sh8_nat, lo8_nat _ (Nat.lt_of_le_of_lt (Nat.div_le_self _ _) h2)]
  rw [Int.toNat_natCast, b8, Int.toNat_natCast]
  apply UInt8.toNat_inj.1
  simp
/-- Four bytes, of which the last j are written. -/
def hfL (x : Int) : Nat → List Value
  | 0 => [.int .u8 0, .int .u8 0, .int .u8 0, .int .u8 0]
  | 1 => [.int .u8 0, .int .u8 0, .int .u8 0, .int .u8 (lo8 (sh8 0 x))]
  | 2 => [.int .u8 0, .int .u8 0, .int .u8 (lo8 (sh8 1 x)), .int .u8 (lo8 (sh8 0 x))]
  | 3 => [.int .u8 0, .int .u8 (lo8 (sh8 2 x)), .int .u8 (lo8 (sh8 1 x)), .int .u8 (lo8 (sh8 0 x))]
  | _ => [.int .u8 (lo8 (sh8 3 x)), .int .u8 (lo8 (sh8 2 x)), .int .u8 (lo8 (sh8 1 x)), .int .u8 (lo8 (sh8 0 x))]
theorem hfL_len (x : Int) (j : Nat) : (hfL x j).length = 4 := by unfold hfL; split <;> rfl
theorem hfL_set (x : Int) (j : Nat) (h : j < 4) : (hfL x j).set (3 - j) (.int .u8 (lo8 (sh8 j x))) = hfL x (j + 1) := by
  have : j = 0 ∨ j = 1 ∨ j = 2 ∨ j = 3 := by omega
  rcases this with rfl | rfl | rfl | rfl <;> rfl
theorem hfL_bytes {x : Int} (hx : U32 x) : toBytes (hfL x 4) = some [b8 x 3, b8 x 2, b8 x 1, b8 x 0] := by
  simp only [hfL, toBytes_cons, toBytes_nil, Option.map_some, lo_byte hx]
end Go.Sim
