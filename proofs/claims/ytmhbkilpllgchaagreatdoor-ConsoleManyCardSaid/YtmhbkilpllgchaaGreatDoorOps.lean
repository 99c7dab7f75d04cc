/- Words of 32 bits and bytes as the model's numbers, and what each operation on them gives. -/
import Derived.WalkKit
import Derived.Test.YtmhbkilpllgchaaGreatDoorSha
namespace Go.Proofs.YtmhbkilpllgchaaGreatDoor
open Go

/-- A word as a number: a name that the walk does not look behind. -/
def wi (x : U32) : Int := (x.toNat : Int)
abbrev W (x : U32) : Value := .int .u32 (wi x)
abbrev B (x : UInt8) : Value := .int .u8 (x.toNat : Int)

theorem wrapU32 (n : Int) : IntKind.u32.wrap n = n % 4294967296 := by
  simp [IntKind.wrap, IntKind.bits, IntKind.signed]

theorem ofInt_W (x : U32) : BitVec.ofInt 32 (wi x) = x := by
  apply BitVec.eq_of_toNat_eq
  simp [wi]

theorem wrapW (x : U32) : IntKind.u32.wrap (wi x) = wi x := by
  rw [wrapU32, wi]
  have := x.isLt
  omega
theorem wrapN (x : U32) : IntKind.u32.wrap (x.toNat : Int) = wi x := wrapW x

theorem wrap_add (x y : U32) : IntKind.u32.wrap (wi x + wi y) = wi (x + y) := by
  rw [wrapU32, wi, wi, wi, BitVec.toNat_add]; omega
theorem bits_xor (x y : U32) : bits .xor .u32 (wi x) (wi y) = wi (x ^^^ y) := by
  show IntKind.u32.wrap ((BitVec.ofInt 32 (wi x) ^^^ BitVec.ofInt 32 (wi y)).toNat : Int) = _
  rw [ofInt_W, ofInt_W, wrapN]
theorem bits_and (x y : U32) : bits .and .u32 (wi x) (wi y) = wi (x &&& y) := by
  show IntKind.u32.wrap ((BitVec.ofInt 32 (wi x) &&& BitVec.ofInt 32 (wi y)).toNat : Int) = _
  rw [ofInt_W, ofInt_W, wrapN]
theorem bits_or (x y : U32) : bits .or .u32 (wi x) (wi y) = wi (x ||| y) := by
  show IntKind.u32.wrap ((BitVec.ofInt 32 (wi x) ||| BitVec.ofInt 32 (wi y)).toNat : Int) = _
  rw [ofInt_W, ofInt_W, wrapN]
theorem unary_W (x : U32) : Op.unary .xor (.int .u32 (wi x)) = pure (W (~~~x)) := by
  show (pure (Value.int .u32 (IntKind.u32.wrap ((BitVec.ofInt 32 (if IntKind.u32.signed then -1 else IntKind.u32.max) ^^^ BitVec.ofInt 32 (wi x)).toNat : Int))) : Sem Value) = _
  have e : BitVec.ofInt 32 (if IntKind.u32.signed then -1 else IntKind.u32.max) = BitVec.allOnes 32 := by decide
  rw [ofInt_W, e, BitVec.allOnes_xor, wrapN]

theorem shl_num (x : U32) (n : Nat) : IntKind.u32.wrap (wi x * 2 ^ n) = wi (x <<< n) := by
  rw [wrapU32, wi, wi, BitVec.toNat_shiftLeft, Nat.shiftLeft_eq]
  have : ((x.toNat : Int) * 2 ^ n) = ((x.toNat * 2 ^ n : Nat) : Int) := by simp
  rw [this]
  omega
theorem shr_num (x : U32) (n : Nat) : wi x / 2 ^ n = wi (x >>> n) := by
  rw [wi, wi, BitVec.toNat_ushiftRight, Nat.shiftRight_eq_div_pow]
  simp

theorem shl_big (x : U32) (n : Nat) : x <<< (min n 32) = x <<< n := by
  rcases Nat.le_total n 32 with h | h
  · rw [Nat.min_eq_left h]
  · rw [Nat.min_eq_right h]
    apply BitVec.eq_of_toNat_eq
    rw [BitVec.toNat_shiftLeft, BitVec.toNat_shiftLeft, Nat.shiftLeft_eq, Nat.shiftLeft_eq]
    obtain ⟨d, rfl⟩ := Nat.exists_eq_add_of_le h
    rw [Nat.pow_add, ← Nat.mul_assoc, Nat.mul_right_comm, Nat.mul_mod_left, Nat.mul_mod_left]
theorem shr_big (x : U32) (n : Nat) : x >>> (min n 32) = x >>> n := by
  rcases Nat.le_total n 32 with h | h
  · rw [Nat.min_eq_left h]
  · rw [Nat.min_eq_right h]
    have hx := x.isLt
    apply BitVec.eq_of_toNat_eq
    rw [BitVec.toNat_ushiftRight, BitVec.toNat_ushiftRight, Nat.shiftRight_eq_div_pow, Nat.shiftRight_eq_div_pow, Nat.div_eq_of_lt hx]
    have : 2 ^ 32 ≤ 2 ^ n := Nat.pow_le_pow_right (by omega) h
    rw [Nat.div_eq_of_lt (by omega)]

/-- Shifts by a number that is not below 0. -/
theorem shift_shl_W (x : U32) (yk : IntKind) (y : Int) (h : 0 ≤ y) : Op.shift .shl .u32 (wi x) yk y = pure (W (x <<< y.toNat)) := by
  rw [shift_shl_any _ _ _ _ h]
  show (pure (Value.int .u32 (IntKind.u32.wrap (wi x * 2 ^ min y.toNat 32))) : Sem Value) = _
  rw [shl_num, shl_big]
theorem shift_shr_W (x : U32) (yk : IntKind) (y : Int) (h : 0 ≤ y) : Op.shift .shr .u32 (wi x) yk y = pure (W (x >>> y.toNat)) := by
  rw [shift_shr_any _ _ _ _ h]
  show (pure (Value.int .u32 (wi x / 2 ^ min y.toNat 32)) : Sem Value) = _
  rw [shr_num, shr_big]

/-- A byte made a word; a word's lowest byte. -/
theorem wrap_B (b : UInt8) : IntKind.u32.wrap (b.toNat : Int) = wi (wb b) := by
  have := b.toNat_lt
  rw [wrapU32, wi, wb, BitVec.toNat_ofNat]
  omega
theorem wrap_toB (x : U32) : IntKind.u8.wrap (wi x) = ((UInt8.ofNat x.toNat).toNat : Int) := by
  simp [IntKind.wrap, IntKind.bits, IntKind.signed, wi]

theorem shl_mod (x : U32) (n : Nat) : wi x * 2 ^ n % 4294967296 = wi (x <<< n) := by rw [← wrapU32]; exact shl_num x n
attribute [go_sem] shl_mod shr_num
/-- A string's byte, whatever the place. -/
def bt (s : ByteArray) (i : Nat) : UInt8 := s.data.toList.getD i 0
theorem bt_get (s : ByteArray) (i : Nat) (h : i < s.size) : s[i] = bt s i := by
  have h' : i < s.data.toList.length := by simpa using h
  unfold bt
  rw [List.getD, List.getElem?_eq_getElem h']
  rfl
theorem run_index_bt {P : Program} (w : World) (t : TypeId) (s : ByteArray) (k : IntKind) (i : Int) (h : P.underlying t = some .string) :
    (Instr.index t (.string s) (.int k i)).run P w =
      if 0 ≤ i ∧ i < s.size then .ok (.int .u8 ((bt s i.toNat).toNat : Int)) w
      else (boundsPanic k i s.size .index).run P w := by
  rw [run_index_string w t s k i h]
  by_cases hi : 0 ≤ i ∧ i < s.size
  · rw [dif_pos hi, if_pos hi, bt_get]
  · rw [dif_neg hi, if_neg hi]
attribute [go_sem high] run_index_bt
attribute [go_sem] wrapW wrap_add bits_xor bits_and bits_or wrap_B wrap_toB
attribute [go_sem high] unary_W shift_shl_W shift_shr_W
end Go.Proofs.YtmhbkilpllgchaaGreatDoor
