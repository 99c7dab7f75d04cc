/- Paths in plain Lean: what stands between slashes, and which texts are paths. -/
import Derived.Test.YtmhbkilpllgchaaNm
namespace Go.Proofs.Ytmhbkilpllgchaa
open Go.RowKit

/-- What stands between slashes. -/
def splitL : List UInt8 → List (List UInt8)
  | [] => [[]]
  | b :: l => if b = 47 then [] :: splitL l else match splitL l with
    | [] => [[b]]
    | x :: xs => (b :: x) :: xs
theorem splitL_ne : ∀ l, splitL l ≠ []
  | [] => by simp [splitL]
  | b :: l => by
    unfold splitL
    split
    · simp
    · split <;> simp
/-- No slash in it: one piece. -/
theorem splitL_one : ∀ (l : List UInt8), (∀ b ∈ l, b ≠ 47) → splitL l = [l]
  | [], _ => rfl
  | b :: l, h => by
    have hb := h b (by simp)
    have ih := splitL_one l (fun x hx => h x (by simp [hx]))
    unfold splitL
    rw [if_neg hb, ih]
/-- A slash behind a text that has none. -/
theorem splitL_cut : ∀ (x l : List UInt8), (∀ b ∈ x, b ≠ 47) → splitL (x ++ 47 :: l) = x :: splitL l
  | [], l, _ => by
    show splitL (47 :: l) = _
    conv => lhs; unfold splitL
    rw [if_pos rfl]
  | b :: x, l, h => by
    have hb := h b (by simp)
    have ih := splitL_cut x l (fun y hy => h y (by simp [hy]))
    show splitL (b :: (x ++ 47 :: l)) = _
    conv => lhs; unfold splitL
    rw [if_neg hb, ih]
/-- By the index of the first slash. -/
theorem splitL_idx (l : List UInt8) : splitL l = if 0 ≤ Lib.indexByte l 47 then l.take (Lib.indexByte l 47).toNat :: splitL (l.drop ((Lib.indexByte l 47).toNat + 1)) else [l] := by
  have hge := Lib.indexByte_ge l 47
  split
  · rename_i h
    obtain ⟨o, ho⟩ : ∃ o : Nat, Lib.indexByte l 47 = o := ⟨(Lib.indexByte l 47).toNat, by omega⟩
    obtain ⟨h1, h2⟩ := Lib.indexByte_some ho
    rw [ho, Int.toNat_natCast]
    have hlt := (List.getElem?_eq_some_iff.1 h1).1
    have e : l = l.take o ++ 47 :: l.drop (o + 1) := by
      conv => lhs; rw [← List.take_append_drop o l]
      congr 1
      rw [List.drop_eq_getElem_cons hlt]
      congr 1
      exact (List.getElem?_eq_some_iff.1 h1).2
    conv => lhs; rw [e]
    refine splitL_cut _ _ (fun b hb => ?_)
    obtain ⟨k, hk⟩ := List.getElem?_of_mem hb
    rw [List.getElem?_take] at hk
    split at hk
    · rename_i hko
      rintro rfl
      exact h2 k hko hk
    · cases hk
  · rename_i h
    refine splitL_one l (fun b hb => ?_)
    rintro rfl
    exact h ((idx_mem l 47).2 hb)

def bs (l : List UInt8) : ByteArray := ⟨l.toArray⟩
theorem bs_list (l : List UInt8) : (bs l).data.toList = l := by simp [bs]
theorem bs_size (l : List UInt8) : (bs l).size = l.length := by simp [bs, ByteArray.size]
theorem bs_of (s : ByteArray) : bs s.data.toList = s := by cases s; simp [bs]

/-- A path's names; none: it is no path. -/
def namesL (l : List UInt8) : Option (List (List UInt8)) :=
  if l.length ≤ 128 ∧ l.head? = some 47 then
    if l = [47] then some []
    else if (splitL (l.drop 1)).all nameL = true ∧ (splitL (l.drop 1)).length ≤ 8 then some (splitL (l.drop 1)) else none
  else none
end Go.Proofs.Ytmhbkilpllgchaa
