/- What a tag's digest is of, in plain Lean. -/
import Derived.Test.YtmhbkilpllgchaaGreatDoorSha
namespace Go.Proofs.YtmhbkilpllgchaaGreatDoor

def partL (p : ByteArray) : List UInt8 := beL 4 p.size ++ p.data.toList
/-- The bytes of which a tag's digest is one. -/
def tagL (t : Nat) (ss : List ByteArray) : List UInt8 := UInt8.ofNat t :: ss.flatMap partL
def total (ss : List ByteArray) : Nat := (ss.map (·.size)).sum

theorem total_take_succ (ss : List ByteArray) (k : Nat) (h : k < ss.length) : total (ss.take (k + 1)) = total (ss.take k) + (ss.getD k ByteArray.empty).size := by
  rw [List.take_succ_eq_append_getElem h, List.getD, List.getElem?_eq_getElem h]
  simp only [total, List.map_append, List.sum_append, List.map_cons, List.map_nil, List.sum_cons, List.sum_nil, Nat.add_zero, Option.getD_some]
theorem total_take_le (ss : List ByteArray) (k : Nat) : total (ss.take k) ≤ total ss := by
  have h : total ss = total (ss.take k) + total (ss.drop k) := by
    conv => lhs; rw [← List.take_append_drop k ss]
    simp only [total, List.map_append, List.sum_append]
  omega
theorem total_take_mono (ss : List ByteArray) {j k : Nat} (h : j ≤ k) : total (ss.take j) ≤ total (ss.take k) := by
  have := total_take_le (ss.take k) j
  rwa [List.take_take, Nat.min_eq_left h] at this
theorem size_le_total (ss : List ByteArray) (k : Nat) (h : k < ss.length) : (ss.getD k ByteArray.empty).size ≤ total ss := by
  have h1 := total_take_succ ss k h
  have h2 := total_take_le ss (k + 1)
  omega
theorem tagL_take_succ (t : Nat) (ss : List ByteArray) (k : Nat) (h : k < ss.length) : tagL t (ss.take (k + 1)) = tagL t (ss.take k) ++ partL (ss.getD k ByteArray.empty) := by
  rw [List.take_succ_eq_append_getElem h, List.getD, List.getElem?_eq_getElem h]
  simp only [tagL, List.flatMap_append, List.flatMap_cons, List.flatMap_nil, List.append_nil, Option.getD_some, List.cons_append]
theorem flat_len (ss : List ByteArray) : (ss.flatMap partL).length = 4 * ss.length + total ss := by
  induction ss with
  | nil => rfl
  | cons a ss ih =>
    rw [List.flatMap_cons, List.length_append, ih]
    simp only [partL, List.length_append, beL_length, total, List.map_cons, List.sum_cons, List.length_cons]
    have : a.data.toList.length = a.size := rfl
    omega
theorem tagL_length (t : Nat) (ss : List ByteArray) : (tagL t ss).length = 1 + 4 * ss.length + total ss := by
  rw [tagL, List.length_cons, flat_len]; omega

/-- A piece: no longer than may be. -/
abbrev Piece := { s : ByteArray // s.size ≤ 65536 }
def clip (s : ByteArray) : Piece := if h : s.size ≤ 65536 then ⟨s, h⟩ else ⟨⟨#[]⟩, by decide⟩
theorem clip_of {s : ByteArray} (h : s.size ≤ 65536) : (clip s).1 = s := by unfold clip; rw [dif_pos h]
def cat (l : List Piece) : List UInt8 := l.flatMap fun x => x.1.data.toList
theorem cat_snoc (l : List Piece) (x : Piece) : cat (l ++ [x]) = cat l ++ x.1.data.toList := by simp [cat]
theorem cat_length (l : List Piece) : (cat l).length ≤ l.length * 65536 := by
  induction l with
  | nil => simp [cat]
  | cons a l ih =>
    have : (cat (a :: l)).length = a.1.data.toList.length + (cat l).length := by simp [cat]
    have h2 := a.2
    have h3 : a.1.data.toList.length = a.1.size := rfl
    rw [this, List.length_cons]
    omega
/-- The pieces: the tag, then each part's length and the part. -/
def pieces (t : Nat) (ss : List ByteArray) : List Piece := clip ⟨#[UInt8.ofNat t]⟩ :: ss.flatMap fun p => [clip ⟨(beL 4 p.size).toArray⟩, clip p]
theorem pieces_take_succ (t : Nat) (ss : List ByteArray) (k : Nat) (h : k < ss.length) :
    pieces t (ss.take (k + 1)) = (pieces t (ss.take k) ++ [clip ⟨(beL 4 (ss.getD k ByteArray.empty).size).toArray⟩]) ++ [clip (ss.getD k ByteArray.empty)] := by
  rw [List.take_succ_eq_append_getElem h, List.getD, List.getElem?_eq_getElem h]
  simp only [pieces, List.flatMap_append, List.flatMap_cons, List.flatMap_nil, List.append_nil, Option.getD_some, List.cons_append, List.append_assoc, List.nil_append]
theorem pieces_length (t : Nat) (ss : List ByteArray) : (pieces t ss).length = 1 + 2 * ss.length := by
  rw [pieces, List.length_cons]
  induction ss with
  | nil => rfl
  | cons a ss ih => simp only [List.flatMap_cons, List.length_append, List.length_cons, List.length_nil] at ih ⊢; omega
theorem be4_size (n : Nat) : (⟨(beL 4 n).toArray⟩ : ByteArray).size = 4 := by
  show (beL 4 n).toArray.size = 4
  rw [List.size_toArray, beL_length]
theorem clip_tag (t : Nat) : (clip ⟨#[UInt8.ofNat t]⟩).1 = ⟨#[UInt8.ofNat t]⟩ := clip_of (by show (1 : Nat) ≤ _; omega)
theorem clip_be (n : Nat) : (clip ⟨(beL 4 n).toArray⟩).1 = ⟨(beL 4 n).toArray⟩ := clip_of (by rw [be4_size]; omega)
theorem cat_pieces (t : Nat) (ss : List ByteArray) (h : ∀ k, k < ss.length → (ss.getD k ByteArray.empty).size ≤ 65536) : cat (pieces t ss) = tagL t ss := by
  have h2 : ∀ p ∈ ss, p.size ≤ 65536 := fun p hp => by
    obtain ⟨k, hk, rfl⟩ := List.mem_iff_getElem.1 hp
    have := h k hk
    rwa [List.getD, List.getElem?_eq_getElem hk] at this
  clear h
  simp only [cat, pieces, tagL, List.flatMap_cons, clip_tag]
  refine congrArg (UInt8.ofNat t :: ·) ?_
  show (List.flatMap _ _) = _
  induction ss with
  | nil => rfl
  | cons a ss ih =>
    have h3 := ih (fun p hp => h2 p (by simp [hp]))
    simp only [List.flatMap_cons, List.flatMap_append, List.flatMap_nil, List.append_nil, clip_be, clip_of (h2 a (by simp)), h3, partL]
/-- A number's four bytes, one by one. -/
theorem beL_4 (n : Nat) : beL 4 n = [UInt8.ofNat (n / 16777216), UInt8.ofNat (n / 65536), UInt8.ofNat (n / 256), UInt8.ofNat n] := by
  simp [beL, List.range, List.range.loop]
end Go.Proofs.YtmhbkilpllgchaaGreatDoor
