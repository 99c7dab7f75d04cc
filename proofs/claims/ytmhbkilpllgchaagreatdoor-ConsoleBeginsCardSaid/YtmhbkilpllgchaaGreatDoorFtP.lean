/- Files as trees, in plain Lean: blocks, rows of hashes, objects, the root. -/
import Derived.Test.YtmhbkilpllgchaaGreatDoorFtA
namespace Go.Proofs.YtmhbkilpllgchaaGreatDoor
open Go.RowKit
set_option linter.unusedVariables false

/-- A list in rows of k. -/
def cutF {α : Type} (k : Nat) : Nat → List α → List (List α)
  | 0, _ => []
  | f + 1, l => if l.isEmpty then [] else l.take k :: cutF k f (l.drop k)
def cutL {α : Type} (k : Nat) (l : List α) : List (List α) := cutF k l.length l
section
variable {α : Type} {k : Nat} (hk : 0 < k)
include hk
theorem cutF_eq : ∀ (f g : Nat) (l : List α), l.length ≤ f → l.length ≤ g → cutF k f l = cutF k g l
  | 0, 0, _, _, _ => rfl
  | 0, g + 1, l, h, _ => by
    have : l = [] := List.length_eq_zero_iff.1 (by omega)
    subst this; rfl
  | f + 1, 0, l, _, h => by
    have : l = [] := List.length_eq_zero_iff.1 (by omega)
    subst this; rfl
  | f + 1, g + 1, [], _, _ => rfl
  | f + 1, g + 1, a :: l, h1, h2 => by
    simp only [List.length_cons] at h1 h2
    have : ((a :: l).drop k).length ≤ l.length := by rw [List.length_drop, List.length_cons]; omega
    show (if (a :: l).isEmpty then [] else _) = (if (a :: l).isEmpty then [] else _)
    rw [cutF_eq f g ((a :: l).drop k) (by omega) (by omega)]
theorem cutL_cons (l : List α) (h : l ≠ []) : cutL k l = l.take k :: cutL k (l.drop k) := by
  cases l with
  | nil => exact absurd rfl h
  | cons a l =>
    have h1 : cutF k l.length ((a :: l).drop k) = cutF k ((a :: l).drop k).length ((a :: l).drop k) := cutF_eq hk _ _ _ (by rw [List.length_drop, List.length_cons]; omega) (Nat.le_refl _)
    have h2 : cutF k (l.length + 1) (a :: l) = (a :: l).take k :: cutF k l.length ((a :: l).drop k) := rfl
    show cutF k (l.length + 1) (a :: l) = _
    rw [h2, h1]
    rfl
end
theorem cutL_nil {α : Type} (k : Nat) : cutL k ([] : List α) = [] := rfl
theorem cutL_len {α : Type} {k : Nat} (hk : 0 < k) : ∀ (f : Nat) (l : List α), l.length ≤ f → (∀ c ∈ cutL k l, c.length ≤ k ∧ c ≠ []) ∧ (cutL k l).length ≤ l.length ∧ (cutL k l).length * k < l.length + k
  | 0, l, h => by
    have : l = [] := List.length_eq_zero_iff.1 (by omega)
    subst this
    rw [cutL_nil]
    exact ⟨fun c hc => (by cases hc), Nat.le_refl _, by simp only [List.length_nil]; omega⟩
  | f + 1, l, h => by
    by_cases e : l = []
    · subst e
      rw [cutL_nil]
      exact ⟨fun c hc => (by cases hc), Nat.le_refl _, by simp only [List.length_nil]; omega⟩
    · have hl : 0 < l.length := List.length_pos_iff.2 e
      obtain ⟨h1, h2, h3⟩ := cutL_len hk f (l.drop k) (by rw [List.length_drop]; omega)
      rw [List.length_drop] at h2 h3
      rw [cutL_cons hk l e]
      refine ⟨fun c hc => ?_, ?_, ?_⟩
      · rcases List.mem_cons.1 hc with rfl | hc
        · refine ⟨by rw [List.length_take]; omega, fun e2 => ?_⟩
          have := congrArg List.length e2
          rw [List.length_take, List.length_nil] at this
          omega
        · exact h1 c hc
      · rw [List.length_cons]; omega
      · rw [List.length_cons, Nat.add_mul]
        by_cases g : k ≤ l.length
        · omega
        · have : (cutL k (l.drop k)).length = 0 := by omega
          rw [this]; omega

def bT (c : List UInt8) : ByteArray := ⟨(66 :: c).toArray⟩
def nodeT (kind : UInt8) (hs : List (List UInt8)) : ByteArray := ⟨(kind :: UInt8.ofNat hs.length :: hs.flatten).toArray⟩
def buildB (L : List UInt8) : List ByteArray := (cutL 64 L).map bT
def buildH (L : List UInt8) : List (List UInt8) := (buildB L).map objH
def buildI (L : List UInt8) : List ByteArray := (cutL 8 (buildH L)).map (nodeT 73)
def buildJ (L : List UInt8) : List (List UInt8) := (buildI L).map objH
def buildR (L : List UInt8) : ByteArray := nodeT 82 (buildJ L)
def buildO (L : List UInt8) : List ByteArray := onceA ((buildI L).foldl onceA ((buildB L).foldl onceA [])) (buildR L)
def rootH (L : List UInt8) : List UInt8 := objH (buildR L)

/-- A slice that reads as these hashes. -/
def hcells (hs : List (List UInt8)) : List Value := hs.flatMap fun L => (bcells L).toList
def HashAt (w : World) (p : Option Addr) (hs : List (List UInt8)) : Prop := hs = [] ∨ ∃ b o, p = some ⟨b, o, none⟩ ∧ b < w.heap.size ∧ w.rangeAt b o (hcells hs)
theorem hcells_length : ∀ hs : List (List UInt8), (∀ L ∈ hs, L.length = 32) → (hcells hs).length = hs.length * 32
  | [], _ => rfl
  | L :: hs, h => by
    rw [hcells, List.flatMap_cons, List.length_append, Array.length_toList, bcells_size, h L (by simp)]
    have := hcells_length hs (fun q hq => h q (List.mem_cons_of_mem _ hq))
    rw [hcells] at this
    rw [this, List.length_cons]
    omega
theorem hcells_get : ∀ (hs : List (List UInt8)) (hl : ∀ L ∈ hs, L.length = 32) (j : Nat) (hj : j < hs.length) (i : Nat) (hi : i < 32), (hcells hs)[j * 32 + i]? = (bcells hs[j]).toList[i]?
  | [], _, j, hj, _, _ => by cases hj
  | L :: hs, h, 0, _, i, hi => by
    rw [hcells, List.flatMap_cons, List.getElem?_append_left (by rw [Array.length_toList, bcells_size, h L (by simp)]; omega)]
    simp
  | L :: hs, h, j + 1, hj, i, hi => by
    rw [hcells, List.flatMap_cons, List.getElem?_append_right (by rw [Array.length_toList, bcells_size, h L (by simp)]; omega), Array.length_toList, bcells_size, h L (by simp), show (j + 1) * 32 + i - 32 = j * 32 + i by omega]
    exact hcells_get hs (fun q hq => h q (List.mem_cons_of_mem _ hq)) j (by simpa using hj) i hi
theorem HashAt.below {w w' : World} {p : Option Addr} {hs : List (List UInt8)} (h : HashAt w p hs) (hb : Below w.heap.size w w') : HashAt w' p hs := by
  rcases h with h | ⟨b, o, e, hl, hr⟩
  · exact .inl h
  · exact .inr ⟨b, o, e, Nat.lt_of_lt_of_le hl hb.size, fun i v hv => (hb.cell (p := ⟨b, _, none⟩) hl).trans (hr i v hv)⟩
theorem HashAt.at {w : World} {p : Option Addr} {hs : List (List UInt8)} (h : HashAt w p hs) (hl : ∀ L ∈ hs, L.length = 32) {j : Nat} (hj : j < hs.length) :
    ∃ b o, p = some ⟨b, o, none⟩ ∧ b < w.heap.size ∧ w.rangeAt b (o + j * 32) (bcells hs[j]).toList := by
  rcases h with h | ⟨b, o, e, hb, hr⟩
  · rw [h] at hj; cases hj
  · refine ⟨b, o, e, hb, fun i v hv => ?_⟩
    have hi : i < 32 := by
      have := (List.getElem?_eq_some_iff.1 hv).1
      rwa [Array.length_toList, bcells_size, hl _ (List.getElem_mem hj)] at this
    rw [Nat.add_assoc]
    exact hr (j * 32 + i) v (by rw [hcells_get hs hl j hj i hi]; exact hv)
end Go.Proofs.YtmhbkilpllgchaaGreatDoor
