/- ObjectRoom in plain Lean: sixteen texts whose hashes are unlike; a store that holds some of them. -/
import Derived.Test.YtmhbkilpllgchaaObjG
namespace Go.Proofs.Ytmhbkilpllgchaa
open Go.RowKit BigFrame
set_option linter.unusedVariables false
set_option linter.unusedSimpArgs false

def oT (b : UInt8) : ByteArray := ⟨#[111, b]⟩
def oAll : List ByteArray := (List.range 16).map fun i => oT (UInt8.ofNat i)
def kvOf (hs : List UInt8) : KV := hs.map fun b => (objH (oT b), oT b)
theorem oT_inj {b c : UInt8} (h : oT b = oT c) : b = c := by
  unfold oT at h
  injection h with h
  injection h with h
  injection h with _ h
  injection h
theorem oT_size (b : UInt8) : (oT b).size = 2 := rfl
theorem oAll_length : oAll.length = 16 := by simp [oAll]
theorem oAll_get (b : UInt8) (h : b.toNat < 16) : oAll.getD b.toNat ByteArray.empty = oT b := by
  simp [oAll, List.getD, h]
theorem oAll_getN (j : Nat) (h : j < 16) : oAll.getD j ByteArray.empty = oT (UInt8.ofNat j) := by
  simp [oAll, List.getD, h]
theorem apart_inj (H : Apart oAll 16) {b c : UInt8} (hb : b.toNat < 16) (hc : c.toNat < 16) (e : objH (oT b) = objH (oT c)) : b = c := by
  rcases Nat.lt_trichotomy b.toNat c.toNat with g | g | g
  · have := H c.toNat hc b.toNat g
    rw [oAll_get b hb, oAll_get c hc] at this
    exact (oT_inj (this e.symm)).symm
  · exact UInt8.toNat_inj.1 g
  · have := H b.toNat hb c.toNat g
    rw [oAll_get b hb, oAll_get c hc] at this
    exact oT_inj (this e)
theorem find_of (H : Apart oAll 16) (b : UInt8) (hb : b.toNat < 16) : ∀ hs : List UInt8, (∀ c ∈ hs, c.toNat < 16) → findL (kvOf hs) (objH (oT b)) = if b ∈ hs then some (oT b) else none
  | [], _ => rfl
  | c :: hs, h => by
    have ih := find_of H b hb hs (fun d hd => h d (List.mem_cons_of_mem _ hd))
    rw [kvOf, List.map_cons, findL_cons]
    by_cases g : c = b
    · subst g; rw [if_pos rfl, if_pos (by simp)]
    · rw [if_neg (fun e => g (apart_inj H (h c (by simp)) hb e))]
      have : findL (List.map (fun b => (objH (oT b), oT b)) hs) (objH (oT b)) = findL (kvOf hs) (objH (oT b)) := rfl
      rw [this, ih]
      have e : (b ∈ c :: hs) ↔ b ∈ hs := by
        rw [List.mem_cons]
        exact ⟨fun h => h.elim (fun e => absurd e.symm g) id, .inr⟩
      by_cases k : b ∈ hs
      · rw [if_pos k, if_pos (e.2 k)]
      · rw [if_neg k, if_neg (fun h => k (e.1 h))]
theorem kvOf_length (hs : List UInt8) : (kvOf hs).length = hs.length := by simp [kvOf]
theorem put_has {k : Nat} {kv : KV} {s t : ByteArray} (n : ¬ 4096 < s.size) (f : findL kv (objH s) = some t) : putH k kv s = objH s ∧ putE k kv s = 0 ∧ putK k kv s = kv := by
  unfold putH putE putK
  obtain ⟨O, eO⟩ : ∃ O, O = objH s := ⟨_, rfl⟩
  rw [← eO] at f ⊢
  rw [if_neg n, if_neg n, if_neg n, f]
  exact ⟨rfl, rfl, rfl⟩
theorem put_adds {k : Nat} {kv : KV} {s : ByteArray} (n : ¬ 4096 < s.size) (f : findL kv (objH s) = none) (m : ¬ k ≤ kv.length) : putH k kv s = objH s ∧ putE k kv s = 0 ∧ putK k kv s = kv ++ [(objH s, s)] := by
  unfold putH putE putK
  obtain ⟨O, eO⟩ : ∃ O, O = objH s := ⟨_, rfl⟩
  rw [← eO] at f ⊢
  rw [if_neg n, if_neg n, if_neg n, f, if_neg m, if_neg m, if_neg m]
  exact ⟨rfl, rfl, rfl⟩
theorem put_none {k : Nat} {kv : KV} {s : ByteArray} (n : ¬ 4096 < s.size) (f : findL kv (objH s) = none) (m : k ≤ kv.length) : putH k kv s = zeros32 ∧ putE k kv s = 1102 ∧ putK k kv s = kv := by
  unfold putH putE putK
  obtain ⟨O, eO⟩ : ∃ O, O = objH s := ⟨_, rfl⟩
  rw [← eO] at f ⊢
  rw [if_neg n, if_neg n, if_neg n, f, if_pos m, if_pos m, if_pos m]
  exact ⟨rfl, rfl, rfl⟩
theorem get_has {kv : KV} {L : List UInt8} {t : ByteArray} (f : findL kv L = some t) : getS kv L = t ∧ getE kv L = 0 := by
  unfold getS getE
  rw [f]
  exact ⟨rfl, rfl⟩
theorem kvOf_snoc (hs : List UInt8) (b : UInt8) : kvOf (hs ++ [b]) = kvOf hs ++ [(objH (oT b), oT b)] := by
  rw [kvOf, List.map_append, List.map_singleton, ← kvOf]
section
variable (H : Apart oAll 16) (b : UInt8) (hb : b.toNat < 16) (hs : List UInt8) (hh : ∀ c ∈ hs, c.toNat < 16) (k : Nat)
include H hb hh
theorem put_old (h : b ∈ hs) : putH k (kvOf hs) (oT b) = objH (oT b) ∧ putE k (kvOf hs) (oT b) = 0 ∧ putK k (kvOf hs) (oT b) = kvOf hs := by
  have f := find_of H b hb hs hh
  rw [if_pos h] at f
  exact put_has (by rw [oT_size]; omega) f
theorem put_new (h : ¬ b ∈ hs) (hl : hs.length < k) : putH k (kvOf hs) (oT b) = objH (oT b) ∧ putE k (kvOf hs) (oT b) = 0 ∧ putK k (kvOf hs) (oT b) = kvOf (hs ++ [b]) := by
  have f := find_of H b hb hs hh
  rw [if_neg h] at f
  rw [kvOf_snoc]
  exact put_adds (by rw [oT_size]; omega) f (by rw [kvOf_length]; omega)
theorem put_full (h : ¬ b ∈ hs) (hl : k ≤ hs.length) : putH k (kvOf hs) (oT b) = zeros32 ∧ putE k (kvOf hs) (oT b) = 1102 ∧ putK k (kvOf hs) (oT b) = kvOf hs := by
  have f := find_of H b hb hs hh
  rw [if_neg h] at f
  exact put_none (by rw [oT_size]; omega) f (by rw [kvOf_length]; omega)
theorem get_held (h : b ∈ hs) : getS (kvOf hs) (objH (oT b)) = oT b ∧ getE (kvOf hs) (objH (oT b)) = 0 := by
  have f := find_of H b hb hs hh
  rw [if_pos h] at f
  exact get_has f
end
theorem and_15 (x : Int) : ∃ b : UInt8, bits .and .i64 x 15 = (b.toNat : Int) ∧ b.toNat < 16 := by
  have h : bits .and .i64 x 15 = IntKind.i64.wrap ((BitVec.ofInt 64 x &&& BitVec.ofInt 64 15).toNat : Int) := rfl
  have h2 : (BitVec.ofInt 64 x &&& BitVec.ofInt 64 15).toNat ≤ 15 := by
    rw [BitVec.toNat_and]
    exact Nat.le_trans Nat.and_le_right (by decide)
  refine ⟨UInt8.ofNat (BitVec.ofInt 64 x &&& BitVec.ofInt 64 15).toNat, ?_, ?_⟩
  · rw [h, IntKind.wrap_i64, UInt8.toNat_ofNat']
    omega
  · rw [UInt8.toNat_ofNat']
    omega
theorem and_7n (x : Int) : ∃ y : Nat, bits .and .i64 x 7 = (y : Int) ∧ y ≤ 7 := by
  have h : bits .and .i64 x 7 = IntKind.i64.wrap ((BitVec.ofInt 64 x &&& BitVec.ofInt 64 7).toNat : Int) := rfl
  have h2 : (BitVec.ofInt 64 x &&& BitVec.ofInt 64 7).toNat ≤ 7 := by
    rw [BitVec.toNat_and]
    exact Nat.le_trans Nat.and_le_right (by decide)
  refine ⟨(BitVec.ofInt 64 x &&& BitVec.ofInt 64 7).toNat, ?_, h2⟩
  rw [h, IntKind.wrap_i64]
  omega
theorem o_text (b : UInt8) : (⟨#[111]⟩ : ByteArray) ++ (⟨#[b]⟩ : ByteArray) = oT b := by
  apply ByteArray.ext
  rw [ByteArray.data_append]
  rfl
/-- An own row of texts reads as them. -/
theorem strs_own {w : World} {base : Nat} {p : Option Addr} {n c : Nat} {ss : List ByteArray} (h : w.ownsRow base 9 1 (.slice p n c) n (ss.map SV)) : Strs w p ss := by
  refine ⟨fun e => ?_, fun a ha j hj => ?_⟩
  · subst e
    rcases h.2 with ⟨e1, e2⟩ | ⟨g, cap, cur, e1, _⟩
    · have := h.1
      simp only [Value.slice.injEq] at e1
      rw [e1.2.1] at this
      simpa using this
    · simp at e1
  · subst ha
    rcases h.2 with ⟨e1, e2⟩ | ⟨g, cap, cur, e1, hb, hh, h1, h2, h3, h4⟩
    · simp at e1
    · simp only [Value.slice.injEq, Option.some.injEq] at e1
      obtain ⟨rfl, -, rfl⟩ := e1
      have := h.cells (g := g) rfl j (SV ss[j]) (by rw [List.getElem?_map, List.getElem?_eq_getElem hj]; rfl)
      refine ⟨by rw [Addr.add_mid]; exact (Array.getElem?_eq_some_iff.1 hh).1, ?_⟩
      rw [this, List.getD, List.getElem?_eq_getElem hj]
      rfl
end Go.Proofs.Ytmhbkilpllgchaa
