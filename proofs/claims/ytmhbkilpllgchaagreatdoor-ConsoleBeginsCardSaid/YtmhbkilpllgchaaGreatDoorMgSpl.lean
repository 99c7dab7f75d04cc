/- Names: which may be, by the program and by the reference; lists of texts compared. Paths in plain Lean: what stands between slashes, and which texts are paths. A range over a function whose iterator keeps a state of its own in a cell: what it does between two rounds is a relation 'Cl' of the iterator's choosing, which the caller's invariant must abide. strings.Cut at a slash; the iterator of what stands between slashes. The iterator of what stands between slashes. path.Split. -/
import Derived.Test.YtmhbkilpllgchaaGreatDoorStr
import Derived.Test.YtmhbkilpllgchaaGreatDoorRow
import Derived.WalkLawsBesides
import Derived.Lib.Strings
import Derived.Lib.IndexLaws
import Derived.Outline
import Derived.Lib.Hide
import Derived.RangeFuncFrom
import Derived.RangeFuncNested
import Derived.Test.YtmhbkilpllgchaaGreatDoorMem
import Derived.Deep.QuietTactic
import Derived.BigQuiet
import Derived.RangeFuncBound
import Derived.RangeFuncCalls
import Derived.RangeFuncLeaves
import Derived.Shelf.Abstract
import Derived.Shelf.RegionOpen
import Derived.OwnWalkIn
import Derived.TacticsInMore
import Derived.LoopNIn
import Derived.LoopIn
import Derived.Test.YtmhbkilpllgchaaGreatDoorLend
import Derived.Maps.AppendAt
namespace Go.Proofs.YtmhbkilpllgchaaGreatDoor
open Go.RowKit
set_option linter.unusedVariables false
set_option linter.unusedSimpArgs false

def plainB (b : UInt8) : Bool := b != 47 && b != 0
def nameL (l : List UInt8) : Bool := decide (1 ≤ l.length) && decide (l.length ≤ 24) && !(l == [46]) && !(l == [46, 46]) && l.all plainB
/-- May a name be? -/
def nameB (s : ByteArray) : Bool := nameL s.data.toList

theorem idx_mem (l : List UInt8) (c : UInt8) : 0 ≤ Lib.indexByte l c ↔ c ∈ l := by
  have hge := Lib.indexByte_ge l c
  constructor
  · intro h
    obtain ⟨o, ho⟩ : ∃ o : Nat, Lib.indexByte l c = o := ⟨(Lib.indexByte l c).toNat, by omega⟩
    exact List.mem_of_getElem? (Lib.indexByte_some ho).1
  · intro h
    rcases Int.lt_or_le (Lib.indexByte l c) 0 with hlt | hle
    · obtain ⟨k, hk⟩ := List.getElem?_of_mem h
      exact absurd hk (Lib.indexByte_none (by omega) k)
    · exact hle
theorem all_plain (l : List UInt8) : l.all plainB = (!decide (0 ≤ Lib.indexByte l 47) && !decide (0 ≤ Lib.indexByte l 0)) := by
  rw [Bool.eq_iff_iff]
  simp only [List.all_eq_true, Bool.and_eq_true, Bool.not_eq_true', decide_eq_false_iff_not, idx_mem, plainB, bne_iff_ne, ne_eq]
  constructor
  · intro h
    exact ⟨fun hm => (h _ hm).1 rfl, fun hm => (h _ hm).2 rfl⟩
  · intro h x hx
    exact ⟨fun e => h.1 (e ▸ hx), fun e => h.2 (e ▸ hx)⟩
theorem nameB_eq (s : ByteArray) : nameB s = (decide (1 ≤ (s.size : Int)) && decide ((s.size : Int) ≤ 24) && !(s.toList == [46]) && !(s.toList == [46, 46]) && (!decide (0 ≤ Lib.indexByte s.data.toList 47) && !decide (0 ≤ Lib.indexByte s.data.toList 0))) := by
  rw [nameB, nameL, all_plain, Lib.toList_data]
  have e : s.data.toList.length = s.size := rfl
  have e1 : decide (1 ≤ s.data.toList.length) = decide (1 ≤ (s.size : Int)) := by rw [e]; exact decide_eq_decide.2 (by omega)
  have e2 : decide (s.data.toList.length ≤ 24) = decide ((s.size : Int) ≤ 24) := by rw [e]; exact decide_eq_decide.2 (by omega)
  rw [e1, e2]

set_option maxRecDepth 100000 in
set_option maxHeartbeats 400000 in
theorem dname_any (s : ByteArray) (w : World) : Calls Tryz.prog 98 #[.string s] w fun e w' => e = .returned (.bool (nameB s)) ∧ w = w' := by
  have HN := Lib.hid (nameB_eq s)
  go_enter Tryz.func98, Tryz.ntmps98
  go_wp2_with (go_at_call 110; refine (t_strings_Contains_one s _ _).mono ?_; rintro e w' ⟨rfl, rfl⟩)
  all_goals
    go_ret
    refine ⟨congrArg (fun b => Ending.returned (.bool b)) ?_, rfl⟩
    rw [HN.out]
    first | (simp [*]; done) | (simp_all; done) | (simp_all; intros; omega) | (rw [decide_eq_true ‹1 ≤ (s.size : Int)›, decide_eq_true ‹(s.size : Int) ≤ 24›]; simp [Bool.and_assoc])
set_option maxRecDepth 100000 in
theorem pname_any (s : ByteArray) (w : World) : Calls Tryz.prog 83 #[.string s] w fun e w' => e = .returned (.bool (nameB s)) ∧ w = w' := by
  go_enter Tryz.func83, Tryz.ntmps83
  go_wp2_with (go_at_call 98; refine (dname_any s _).mono ?_; rintro e w' ⟨rfl, rfl⟩)
  go_ret
  exact ⟨rfl, rfl⟩

theorem bt_mem (s : ByteArray) (k : Nat) (h : k < s.size) : bt s k ∈ s.data.toList := by
  have h' : k < s.data.toList.length := h
  rw [bt, List.getD, List.getElem?_eq_getElem h']
  exact List.getElem_mem h'
theorem u8_ne (b c : UInt8) : ((b.toNat : Int) = (c.toNat : Int)) ↔ b = c := by
  rw [Int.natCast_inj]; exact UInt8.toNat_inj

set_option maxRecDepth 100000 in
set_option maxHeartbeats 400000 in
theorem rname_any (s : ByteArray) (w : World) (hs : s.size ≤ 140737488351232) : Calls Tryz.prog 73 #[.string s] w fun e w' => e = .returned (.bool (nameB s)) ∧ w = w' := by
  by_cases hh : 1 ≤ s.size ∧ s.size ≤ 24 ∧ s.toList ≠ [46] ∧ s.toList ≠ [46, 46]
  · obtain ⟨h1, h2, h3, h4⟩ := hh
    have hn0 : nameB s = s.data.toList.all plainB := by
      have e : s.data.toList.length = s.size := rfl
      rw [Lib.toList_data] at h3 h4
      simp [nameB, nameL, h3, h4, h1, h2]
    have HN := Lib.hid hn0
    clear hn0
    have hlt1 : ¬ (s.size : Int) < 1 := by omega
    have hlt2 : (s.size : Int) ≤ 24 := by omega
    have hq3 : (s.toList == [46]) = false := by simpa using h3
    have hq4 : (s.toList == [46, 46]) = false := by simpa using h4
    go_enter Tryz.func73, Tryz.ntmps73
    go_wp2
    go_loop [3] (fun i => ∃ k : Nat, k ≤ s.size ∧ i = .int .i64 k ∧ ∀ j, j < k → plainB (bt s j) = true) (fun i => s.size - (intOf i).toNat)
    case atStart => exact ⟨0, Nat.zero_le _, rfl, fun j hj => by omega⟩
    case round =>
      obtain ⟨k, hk, rfl, hall⟩ := hrel
      have HA := Lib.hid hall
      clear hall
      by_cases hlt : k < s.size
      · have HK := Lib.hid (bt_mem s k hlt)
        obtain ⟨b, hb⟩ : ∃ b, b = bt s k := ⟨_, rfl⟩
        have hb' := hb.symm
        have HB := Lib.hid hb
        clear hb
        by_cases h47 : b = 47
        · subst h47
          go_wp2
          go_ret
          refine ⟨congrArg (fun b => Ending.returned (.bool b)) ?_, rfl⟩
          rw [HN.out]; symm; rw [Bool.eq_false_iff]; intro h; have := (List.all_eq_true.1 h) _ HK.out; rw [← HB.out] at this; revert this; decide
        · by_cases h0 : b = 0
          · subst h0
            go_wp2
            go_ret
            refine ⟨congrArg (fun b => Ending.returned (.bool b)) ?_, rfl⟩
            rw [HN.out]; symm; rw [Bool.eq_false_iff]; intro h; have := (List.all_eq_true.1 h) _ HK.out; rw [← HB.out] at this; revert this; decide
          · have n47 : ((b.toNat : Int) == 47) = false := by
              rw [beq_eq_false_iff_ne]; exact fun e => h47 ((u8_ne b 47).1 e)
            have n0 : ((b.toNat : Int) == 0) = false := by
              rw [beq_eq_false_iff_ne]; exact fun e => h0 ((u8_ne b 0).1 e)
            have hp0 : plainB b = true := by simp [plainB, h47, h0]
            have HP := Lib.hid hp0
            clear hp0
            clear h47 h0
            go_wp2
            go_round
            case rel => exact ⟨k + 1, by omega, by go_num, fun j hj => by
              rcases Nat.lt_or_ge j k with h | h
              · exact HA.out j h
              · obtain rfl : j = k := by omega
                rw [← HB.out]; exact HP.out⟩
            case measure => simp [intOf]; omega
      · go_wp2
        go_ret
        refine ⟨congrArg (fun b => Ending.returned (.bool b)) ?_, rfl⟩
        rw [HN.out]; symm; rw [List.all_eq_true]
        intro x hx
        obtain ⟨j, hj, rfl⟩ := List.mem_iff_getElem.1 hx
        have hj' : j < s.size := hj
        have := HA.out j (by omega)
        rwa [bt, List.getD, List.getElem?_eq_getElem hj] at this
  · have hn0 : nameB s = false := by
      rw [nameB_eq, Bool.eq_false_iff]
      intro h
      apply hh
      simp only [Bool.and_eq_true, decide_eq_true_eq, Bool.not_eq_true', beq_eq_false_iff_ne] at h
      exact ⟨by omega, by omega, h.1.1.2, h.1.2⟩
    have HN := Lib.hid hn0
    clear hn0
    by_cases h1 : s.size < 1
    · have h1' : (s.size : Int) < 1 := by omega
      clear hh h1
      go_enter Tryz.func73, Tryz.ntmps73
      go_wp2
      go_ret
      exact ⟨by rw [HN.out]; rfl, rfl⟩
    · by_cases h2 : 24 < s.size
      · have h2' : (24 : Int) < (s.size : Int) := by omega
        have h1' : ¬ (s.size : Int) < 1 := by omega
        clear hh h1 h2
        go_enter Tryz.func73, Tryz.ntmps73
        go_wp2
        go_ret
        exact ⟨by rw [HN.out]; rfl, rfl⟩
      · by_cases h3 : s.toList = [46]
        · clear hh
          have hlt1 : ¬ (s.size : Int) < 1 := by omega
          have hlt2 : (s.size : Int) ≤ 24 := by omega
          go_enter Tryz.func73, Tryz.ntmps73
          go_wp2
          go_ret
          exact ⟨by rw [HN.out]; rfl, rfl⟩
        · have h4 : s.toList = [46, 46] := by
            rcases Decidable.em (s.toList = [46, 46]) with h | h
            · exact h
            · exact absurd ⟨by omega, by omega, h3, h⟩ hh
          clear hh h3
          have hlt1 : ¬ (s.size : Int) < 1 := by omega
          have hlt2 : (s.size : Int) ≤ 24 := by omega
          go_enter Tryz.func73, Tryz.ntmps73
          go_wp2
          go_ret
          exact ⟨by rw [HN.out]; rfl, rfl⟩
end Go.Proofs.YtmhbkilpllgchaaGreatDoor
namespace Go.Proofs.YtmhbkilpllgchaaGreatDoor
open Go.RowKit

/-- What stands between slashes. -/
def splitL : List UInt8 → List (List UInt8)
  | [] => [[]]
  | b :: l => if b = 47 then [] :: splitL l else match splitL l with
    | [] => [[b]]
    | x :: xs => (b :: x) :: xs
theorem splitL_ne : ∀ l, splitL l ≠ []
  | [] => by simp [splitL]
  | b :: l => by
    unfold splitL
    split
    · simp
    · split <;> simp
/-- No slash in it: one piece. -/
theorem splitL_one : ∀ (l : List UInt8), (∀ b ∈ l, b ≠ 47) → splitL l = [l]
  | [], _ => rfl
  | b :: l, h => by
    have hb := h b (by simp)
    have ih := splitL_one l (fun x hx => h x (by simp [hx]))
    unfold splitL
    rw [if_neg hb, ih]
/-- A slash behind a text that has none. -/
theorem splitL_cut : ∀ (x l : List UInt8), (∀ b ∈ x, b ≠ 47) → splitL (x ++ 47 :: l) = x :: splitL l
  | [], l, _ => by
    show splitL (47 :: l) = _
    conv => lhs; unfold splitL
    rw [if_pos rfl]
  | b :: x, l, h => by
    have hb := h b (by simp)
    have ih := splitL_cut x l (fun y hy => h y (by simp [hy]))
    show splitL (b :: (x ++ 47 :: l)) = _
    conv => lhs; unfold splitL
    rw [if_neg hb, ih]
/-- By the index of the first slash. -/
theorem splitL_idx (l : List UInt8) : splitL l = if 0 ≤ Lib.indexByte l 47 then l.take (Lib.indexByte l 47).toNat :: splitL (l.drop ((Lib.indexByte l 47).toNat + 1)) else [l] := by
  have hge := Lib.indexByte_ge l 47
  split
  · rename_i h
    obtain ⟨o, ho⟩ : ∃ o : Nat, Lib.indexByte l 47 = o := ⟨(Lib.indexByte l 47).toNat, by omega⟩
    obtain ⟨h1, h2⟩ := Lib.indexByte_some ho
    rw [ho, Int.toNat_natCast]
    have hlt := (List.getElem?_eq_some_iff.1 h1).1
    have e : l = l.take o ++ 47 :: l.drop (o + 1) := by
      conv => lhs; rw [← List.take_append_drop o l]
      congr 1
      rw [List.drop_eq_getElem_cons hlt]
      congr 1
      exact (List.getElem?_eq_some_iff.1 h1).2
    conv => lhs; rw [e]
    refine splitL_cut _ _ (fun b hb => ?_)
    obtain ⟨k, hk⟩ := List.getElem?_of_mem hb
    rw [List.getElem?_take] at hk
    split at hk
    · rename_i hko
      rintro rfl
      exact h2 k hko hk
    · cases hk
  · rename_i h
    refine splitL_one l (fun b hb => ?_)
    rintro rfl
    exact h ((idx_mem l 47).2 hb)

def bs (l : List UInt8) : ByteArray := ⟨l.toArray⟩
theorem bs_list (l : List UInt8) : (bs l).data.toList = l := by simp [bs]
theorem bs_size (l : List UInt8) : (bs l).size = l.length := by simp [bs, ByteArray.size]
theorem bs_of (s : ByteArray) : bs s.data.toList = s := by cases s; simp [bs]

/-- A path's names; none: it is no path. -/
def namesL (l : List UInt8) : Option (List (List UInt8)) :=
  if l.length ≤ 128 ∧ l.head? = some 47 then
    if l = [47] then some []
    else if (splitL (l.drop 1)).all nameL = true ∧ (splitL (l.drop 1)).length ≤ 8 then some (splitL (l.drop 1)) else none
  else none
end Go.Proofs.YtmhbkilpllgchaaGreatDoor
namespace Go.Proofs.YtmhbkilpllgchaaGreatDoor
open Go Go.RowKit
set_option linter.unusedVariables false
set_option linter.unusedSimpArgs false

section
variable {α : Type} {P : Program} {n : Nat}

/-- The iterator's word. -/
def SeqAt (n : Nat) (P : Program) (gf : Nat) (lb : Array Value) (enc : α → Value) (Cl Kp : World → World → Prop) (S Sp : List α → Prop) (N : Nat) (w : World) : Prop :=
  ∀ (l : Nat) (J Jx : List α → World → Prop) (W : World), Below w.heap.size w W → (∀ s A B, J s A → Cl A B → J s B) →
    (∀ pre x W1, J pre W1 → pre.length < N → YieldAt Fence.wide (n - 1) P l #[enc x] W1 fun e W' =>
      (e = .returned (.bool true) ∧ J (pre ++ [x]) W' ∧ Kp W1 W') ∨ (e = .returned (.bool false) ∧ Jx (pre ++ [x]) W')) →
    J [] W →
    CallsIn Fence.wide n P gf (#[.func (.yield l) #[] #[]] ++ lb) W fun e W' => (∃ v, e = .returned v) ∧ ((∃ xs, S xs ∧ J xs W') ∨ ∃ pre, Sp pre ∧ Jx pre W')

/-- What the loop lays for itself: its record at l, and the block for deferred calls at D. -/
def Kept2 (D l : Nat) (r : Loop) (W : World) : Prop := W.heap[l]? = some (.loop r) ∧ W.heap[D]? = some (.deferred (some []))
theorem Kept2.put {D l : Nat} {r : Loop} {W : World} (h : Kept2 D l r W) (r' : Loop) (hne : l ≠ D) : Kept2 D l r' (W.putObj l (.loop r')) :=
  ⟨World.putObj_heap_same (Array.getElem?_eq_some_iff.1 h.1).1, (World.putObj_heap_other hne.symm).trans h.2⟩
theorem Kept2.others {D l : Nat} {r : Loop} {W W' : World} (h : Kept2 D l r W) (k : KeepsOthers W W') : Kept2 D l r W' := ⟨k.same _ _ h.1 rfl, k.same _ _ h.2 rfl⟩

/-- How a round's body may end: it goes on, or it returns. -/
def bodyEnd (Kp : World → World → Prop) (I Ix : List α → World → Prop) (xs : List α) (W : World) : Exit → Act → World → Prop
  | .normal, _, W' => KeepsOthers W W' ∧ Kp W W' ∧ I xs W'
  | .ret, _, W' => KeepsOthers W W' ∧ Ix xs W'
  | _, _, _ => False

theorem range_cell {g : Operand} {p : Tmp} {assign body : Code} {Q : Exit → Act → World → Prop} {a : Act} {w : World} {gf : Nat} {lb : Array Value}
    (hg : a.eval g = .func (.func gf) #[] lb) (eg : ∀ args w, (callFunc gf args).run P w = .ok (.enter gf args) w)
    {enc : α → Value} {Cl Kp : World → World → Prop} {S Sp : List α → Prop} {N : Nat} (hseq : SeqAt (n - 1) P gf lb enc Cl Kp S Sp N w)
    (hKt : ∀ {A B C : World}, Kp A B → Kp B C → Kp A C) (hKp : ∀ (W : World) (l : Nat) (o : Obj), w.heap.size ≤ l → l < W.heap.size → Kp W (W.putObj l o))
    (hCl : ∀ (A B : World) (l : Nat) (o : Obj), Cl A B → w.heap.size ≤ l → A.heap[l]? = some o → B.heap[l]? = some o)
    (I Ix : List α → World → Prop) (hIp : ∀ s W l o' o, I s W → w.heap.size ≤ l → W.heap[l]? = some o → o.isCells = false → I s (W.putObj l o'))
    (hXp : ∀ s W l o' o, Ix s W → w.heap.size ≤ l → W.heap[l]? = some o → o.isCells = false → Ix s (W.putObj l o'))
    (hIa : ∀ s W o, I s W → I s (W.alloc o)) (hIc : ∀ s A B, I s A → Cl A B → I s B) (h0 : I [] w) (a₁ : α → Act)
    (hassign : ∀ (l : Nat) (x : α) (W : World) (K : Act → World → Prop), K (a₁ x) W →
      assign.wpIn (Fence.wide.inRound l) (n - 1 - 1) P (Exit.then K (fun _ _ _ => False)) { tmps := a.tmps.setIfInBounds p (enc x), defers := [] } W)
    (hbody : ∀ (l : Nat) (pre : List α) (x : α) (W : World), I pre W → pre.length < N → body.wpIn (Fence.wide.inRound l) (n - 1 - 1) P (bodyEnd Kp I Ix (pre ++ [x]) W) (a₁ x) W)
    (hdone : ∀ (D : Nat) (xs : List α) (W : World), w.heap.size ≤ D → S xs → I xs W → W.heap[D]? = some (.deferred (some [])) → Q .normal { a with defers := { target := .collected D, args := #[] } :: a.defers } W)
    (hstop : ∀ (D : Nat) (pre : List α) (W : World), w.heap.size ≤ D → Sp pre → Ix pre W → W.heap[D]? = some (.deferred (some [])) → Code.ret.wpIn Fence.wide n P Q { a with defers := { target := .collected D, args := #[] } :: a.defers } W) :
    (Code.rangeFunc g #[p] assign body).wpIn Fence.wide n P Q a w := by
  refine wpIn_rangeFunc fun fn hfn => ?_
  obtain ⟨D, hD⟩ : ∃ D, D = w.heap.size := ⟨_, rfl⟩
  obtain ⟨l, hl⟩ : ∃ l, l = w.heap.size + 1 := ⟨_, rfl⟩
  have hne : l ≠ D := by omega
  have hDw : w.heap.size ≤ D := by omega
  have hlw : w.heap.size ≤ l := by omega
  obtain ⟨r0, hr0⟩ : ∃ r0 : Loop, r0 = { state := .ready, pending := none, fn, tmps := a.tmps, params := #[p], assign, body, defers := w.heap.size } := ⟨_, rfl⟩
  obtain ⟨W1, hW1⟩ : ∃ W1, W1 = (w.alloc (.deferred (some []))).alloc (.loop r0) := ⟨_, rfl⟩
  have hI1 : I [] W1 := hW1 ▸ hIa _ _ _ (hIa _ _ _ h0)
  have hB1 : Below w.heap.size w W1 := hW1 ▸ ((Below.refl _ w).alloc (Nat.le_refl _) _).alloc (by simp) _
  have hk1 : Kept2 D l r0 W1 := by
    rw [hW1, hD, hl]
    refine ⟨?_, (Below.heap_alloc _ _ _ (by simp)).trans (World.alloc_heap_new w _)⟩
    have := World.alloc_heap_new (w.alloc (.deferred (some []))) (.loop r0)
    rwa [World.size_alloc] at this
  refine ⟨l, [{ target := .collected D, args := #[] }], W1, { target := .fn (.func gf) lb, args := #[.func (.yield l) #[] #[]] }, W1, gf, #[.func (.yield l) #[] #[]] ++ lb, W1, ?_, ?_, fun _ _ => trivial, ?_, (fun h => by cases h), ?_⟩
  · rw [hW1, hD, hl, hr0]
    exact run_enterLoop_outer _ _ _ _ _
  · simp only [resolve, hg]
    simp [go_sem]
  · simp [invoke, go_sem, eg]
  · refine (hseq l (fun pre W => I pre W ∧ Kept2 D l r0 W) (fun pre W => Ix pre W ∧ Kept2 D l { r0 with state := .done, pending := some .ret } W) W1 hB1
      (fun s A B h hc => ⟨hIc s A B h.1 hc, hCl A B l _ hc hlw h.2.1, hCl A B D _ hc hDw h.2.2⟩) ?_ ⟨hI1, hk1⟩).mono ?_
    · rintro pre x W ⟨hi, hk⟩ hlen
      have hlt := (Array.getElem?_eq_some_iff.1 hk.1).1
      have hpar : r0.params = #[p] := by rw [hr0]
      have hy := run_yield (P := P) (args := #[enc x]) hk.1 (by rw [hpar]; rfl)
      have ht : (r0.params.zip #[enc x]).foldl (fun t (q, v) => t.setIfInBounds q v) r0.tmps = a.tmps.setIfInBounds p (enc x) := by rw [hr0]; simp [Array.zip]
      rw [ht, show r0.assign = assign by rw [hr0], show r0.body = body by rw [hr0], show r0.fn = fn by rw [hr0]] at hy
      refine ⟨fn, _, assign, body, hy, roundIn_of_wpIn hfn (hassign l x W _ ⟨_, run_beginRound hk.1 (by rw [hr0]), ?_⟩)⟩
      obtain ⟨W2, hW2⟩ : ∃ W2, W2 = W.putObj l (.loop { r0 with state := .busy }) := ⟨_, rfl⟩
      have hk2 : Kept2 D l { r0 with state := .busy } W2 := hW2 ▸ hk.put _ hne
      have hp2 : Kp W W2 := hW2 ▸ hKp W l _ hlw hlt
      have hi2 : I pre W2 := hW2 ▸ hIp _ _ _ _ _ hi hlw hk.1 rfl
      rw [← hW2]
      refine wpIn_mono (hbody l pre x W2 hi2 hlen) ?_
      rintro e a3 W3 hend
      cases e with
      | normal =>
        obtain ⟨ho, hp3, hi3⟩ := hend
        have hk3 := hk2.others ho
        have hr : ({ ({ r0 with state := .busy } : Loop) with state := if (none : Option Code).isNone then .ready else .done, pending := none } : Loop) = r0 := by rw [hr0]; rfl
        have he := run_endRound (P := P) none hk3.1
        rw [hr] at he
        exact ⟨_, _, he, .inl ⟨rfl, ⟨hIp _ _ _ _ _ hi3 hlw hk3.1 rfl, hk3.put _ hne⟩, hKt (hKt hp2 hp3) (hKp W3 l _ hlw (Array.getElem?_eq_some_iff.1 hk3.1).1)⟩⟩
      | ret =>
        obtain ⟨ho, hx3⟩ := hend
        have hk3 := hk2.others ho
        exact ⟨_, _, run_endRound (P := P) (some .ret) hk3.1, .inr ⟨rfl, hXp _ _ _ _ _ hx3 hlw hk3.1 rfl, hk3.put _ hne⟩⟩
      | exit id => exact hend.elim
      | goto t => exact hend.elim
      | panic c => exact hend.elim
      | outgrown => exact hend.elim
    · rintro e W2 ⟨⟨v, rfl⟩, h | h⟩
      · obtain ⟨xs, hS, hi, hk⟩ := h
        have he := run_endLoop (P := P) hk.1 (by rw [hr0]; simp)
        rw [show r0.pending = none by rw [hr0]] at he
        exact ⟨none, _, he, hdone D xs _ hDw hS (hIp _ _ _ _ _ hi hlw hk.1 rfl) ((World.putObj_heap_other hne.symm).trans hk.2)⟩
      · obtain ⟨pre, hsp, hx, hk⟩ := h
        exact ⟨some .ret, _, run_endLoop (P := P) hk.1 (by simp), hstop D pre _ hDw hsp (hXp _ _ _ _ _ hx hlw hk.1 rfl) ((World.putObj_heap_other hne.symm).trans hk.2)⟩
end
end Go.Proofs.YtmhbkilpllgchaaGreatDoor
namespace Go.Proofs.YtmhbkilpllgchaaGreatDoor
open Go.RowKit
set_option linter.unusedVariables false
set_option linter.unusedSimpArgs false

theorem idx_lt (s : ByteArray) (o : Nat) (h : Lib.indexByte s.data.toList 47 = (o : Int)) : o < s.size := by
  have := (List.getElem?_eq_some_iff.1 (Lib.indexByte_some h).1).1
  simpa using this

set_option maxRecDepth 100000 in
set_option maxHeartbeats 1000000 in
theorem icut_yes (s : ByteArray) (o : Nat) (w : World) (hs : s.size ≤ 140737488351232) (h : Lib.indexByte s.data.toList 47 = (o : Int)) :
    Calls Tryz.prog 109 #[.string s, .string ⟨#[47]⟩] w fun e w' => e = .returned (.tuple #[.string (bs (s.data.toList.take o)), .string (bs (s.data.toList.drop (o + 1))), .bool true]) ∧ ∃ m, w' = w.drewN m := by
  have hlt := idx_lt s o h
  have hi := t_stringslite_Index_one s 47 w
  rw [h] at hi
  have e1 : s.extract 0 o = bs (s.data.toList.take o) := by
    rw [← bs_of (s.extract 0 o), ByteArray.data_extract, Array.toList_extract, List.extract_eq_take_drop]; simp
  have e2 : s.extract (o + 1) s.size = bs (s.data.toList.drop (o + 1)) := by
    rw [← bs_of (s.extract (o + 1) s.size), ByteArray.data_extract, Array.toList_extract, List.extract_eq_take_drop, List.take_of_length_le (by rw [List.length_drop]; exact Nat.le_refl _)]
  have hsl1 : ∀ w', (Instr.slice 9 (.string s) none (some (.int .i64 (o : Int))) none).run Tryz.prog w' = .ok (.string (bs (s.data.toList.take o))) w' := fun w' => by
    rw [run_slice_string_to_if w' 9 s .i64 (o : Int) Tryz.underlying9, if_pos (by omega), ← e1]; rfl
  have hsl2 : ∀ w', (Instr.slice 9 (.string s) (some (.int .i64 ((o : Int) + 1))) none none).run Tryz.prog w' = .ok (.string (bs (s.data.toList.drop (o + 1)))) w' := fun w' => by
    rw [run_slice_string_from_if w' 9 s .i64 ((o : Int) + 1) Tryz.underlying9, if_pos (by omega), ← e2, show ((o : Int) + 1).toNat = o + 1 by omega]
  obtain ⟨X, eX⟩ : ∃ X, X = bs (s.data.toList.take o) := ⟨_, rfl⟩
  obtain ⟨Y, eY⟩ : ∃ Y, Y = bs (s.data.toList.drop (o + 1)) := ⟨_, rfl⟩
  rw [← eX] at hsl1
  rw [← eY] at hsl2
  rw [← eX, ← eY]
  have hw : IntKind.i64.wrap ((o : Int) + 1) = (o : Int) + 1 := by rw [IntKind.wrap_i64]; omega
  have HI := Lib.hid (show Calls Tryz.prog 88 #[.string s, .string ⟨#[47]⟩] w fun e w' => e = .returned (.int .i64 (o : Int)) ∧ w = w' from hi.mono fun _ _ h => ⟨h.1, h.2.symm⟩)
  clear h hi e1 e2 eX eY
  go_enter Tryz.func109, Tryz.ntmps109
  go_wp2_with fail
  refine HI.out.mono ?_
  rintro e _ ⟨rfl, rfl⟩
  go_wp2
  go_quiet (fail)
  go_wp2
  go_ret3
  exact ⟨rfl, _, rfl⟩

set_option maxRecDepth 100000 in
set_option maxHeartbeats 1000000 in
theorem icut_no (s : ByteArray) (w : World) (h : Lib.indexByte s.data.toList 47 < 0) :
    Calls Tryz.prog 109 #[.string s, .string ⟨#[47]⟩] w fun e w' => e = .returned (.tuple #[.string s, .string ⟨#[]⟩, .bool false]) ∧ ∃ m, w' = w.drewN m := by
  have hge := Lib.indexByte_ge s.data.toList 47
  have h1 : Lib.indexByte s.data.toList 47 = -1 := by omega
  have hi := t_stringslite_Index_one s 47 w
  rw [h1] at hi
  have HI := Lib.hid (show Calls Tryz.prog 88 #[.string s, .string ⟨#[47]⟩] w fun e w' => e = .returned (.int .i64 (-1)) ∧ w = w' from hi.mono fun _ _ h => ⟨h.1, h.2.symm⟩)
  clear h hge h1 hi
  go_enter Tryz.func109, Tryz.ntmps109
  go_wp2_with fail
  refine HI.out.mono ?_
  rintro e _ ⟨rfl, rfl⟩
  go_wp2
  go_ret3
  exact ⟨rfl, 0, rfl⟩

/-- What strings.Cut at a slash answers. -/
def cutP (s : ByteArray) : ByteArray := if 0 ≤ Lib.indexByte s.data.toList 47 then bs (s.data.toList.take (Lib.indexByte s.data.toList 47).toNat) else s
def cutQ (s : ByteArray) : ByteArray := if 0 ≤ Lib.indexByte s.data.toList 47 then bs (s.data.toList.drop ((Lib.indexByte s.data.toList 47).toNat + 1)) else ⟨#[]⟩
def cutB (s : ByteArray) : Bool := decide (0 ≤ Lib.indexByte s.data.toList 47)
theorem icut_any (s : ByteArray) (w : World) (hs : s.size ≤ 140737488351232) :
    Calls Tryz.prog 109 #[.string s, .string ⟨#[47]⟩] w fun e w' => e = .returned (.tuple #[.string (cutP s), .string (cutQ s), .bool (cutB s)]) ∧ ∃ m, w' = w.drewN m := by
  by_cases h : 0 ≤ Lib.indexByte s.data.toList 47
  · obtain ⟨o, ho⟩ : ∃ o : Nat, Lib.indexByte s.data.toList 47 = o := ⟨(Lib.indexByte s.data.toList 47).toNat, by omega⟩
    rw [cutP, cutQ, cutB, if_pos h, if_pos h, decide_eq_true h, ho, Int.toNat_natCast]
    exact icut_yes s o w hs ho
  · rw [cutP, cutQ, cutB, if_neg h, if_neg h, decide_eq_false h]
    exact icut_no s w (by omega)

set_option maxRecDepth 100000 in
set_option maxHeartbeats 1000000 in
/-- strings.Cut at a slash. -/
theorem cut_any (s : ByteArray) (w : World) (hs : s.size ≤ 140737488351232) :
    Calls Tryz.prog 97 #[.string s, .string ⟨#[47]⟩] w fun e w' => e = .returned (.tuple #[.string (cutP s), .string (cutQ s), .bool (cutB s)]) ∧ ∃ m, w' = w.drewN m := by
  have hc := icut_any s w hs
  obtain ⟨X, eX⟩ : ∃ X, X = cutP s := ⟨_, rfl⟩
  obtain ⟨Y, eY⟩ : ∃ Y, Y = cutQ s := ⟨_, rfl⟩
  obtain ⟨b, eb⟩ : ∃ b, b = cutB s := ⟨_, rfl⟩
  rw [← eX, ← eY, ← eb] at hc ⊢
  have HC := Lib.hid hc
  clear eX eY eb hc
  go_enter Tryz.func97, Tryz.ntmps97
  go_wp2_with fail
  refine HC.out.mono ?_
  rintro e _ ⟨rfl, m, rfl⟩
  go_wp2
  go_ret3
  exact ⟨rfl, m, rfl⟩
theorem split_cut (s : ByteArray) : splitL s.data.toList = if cutB s then (cutP s).data.toList :: splitL (cutQ s).data.toList else [(cutP s).data.toList] := by
  rw [splitL_idx, cutB, cutP, cutQ]
  by_cases h : 0 ≤ Lib.indexByte s.data.toList 47
  · simp only [h, if_true, decide_true, bs_list]
  · simp only [h, if_false, decide_false, Bool.false_eq_true]
theorem cutQ_le (s : ByteArray) : (cutQ s).size ≤ s.size := by
  unfold cutQ
  split
  · rw [bs_size, List.length_drop]; have : s.data.toList.length = s.size := rfl; omega
  · exact Nat.zero_le _
theorem cutP_le (s : ByteArray) : (cutP s).size ≤ s.size := by
  unfold cutP
  split
  · rw [bs_size, List.length_take]; have : s.data.toList.length = s.size := rfl; omega
  · exact Nat.le_refl _
theorem cutQ_lt (s : ByteArray) (h : cutB s = true) : (cutQ s).size < s.size := by
  have h0 : 0 ≤ Lib.indexByte s.data.toList 47 := by simpa [cutB] using h
  obtain ⟨o, ho⟩ : ∃ o : Nat, Lib.indexByte s.data.toList 47 = o := ⟨(Lib.indexByte s.data.toList 47).toNat, by omega⟩
  have hlt := idx_lt s o ho
  rw [cutQ, if_pos h0, ho, bs_size, List.length_drop, Int.toNat_natCast]
  have : s.data.toList.length = s.size := rfl
  omega
end Go.Proofs.YtmhbkilpllgchaaGreatDoor
namespace Go.Proofs.YtmhbkilpllgchaaGreatDoor
open Go.RowKit Go.Shelf
set_option linter.unusedVariables false
set_option linter.unusedSimpArgs false
attribute [local go_sem] Oper.semAt_some

set_option maxRecDepth 100000 in
theorem names_any (p : ByteArray) (w : World) : Calls Tryz.prog 82 #[.string p] w fun e w' =>
    e = .returned (.func (.func 96) #[] #[.pointer (some ⟨w.heap.size, 0, none⟩)]) ∧ w' = w.alloc (.cells #[.string p] 9) := by
  go_enter Tryz.func82, Tryz.ntmps82
  go_wp2
  go_ret
  exact ⟨rfl, rfl⟩

/-- How much is left. -/
def leftN (Bp : Nat) (m : Value) (wr : World) : Nat :=
  match m with
  | .bool true => match wr.cell? ⟨Bp, 0, none⟩ with
    | some (.string p) => p.size + 2
    | _ => 1
  | _ => 0
theorem leftN_true {Bp : Nat} {wr : World} {p : ByteArray} (h : wr.cell? ⟨Bp, 0, none⟩ = some (.string p)) : leftN Bp (.bool true) wr = p.size + 2 := by simp [leftN, h]
theorem leftN_false {Bp : Nat} {wr : World} : leftN Bp (.bool false) wr = 0 := rfl

def piecesP (p : ByteArray) : List ByteArray := (splitL p.data.toList).map bs
theorem piecesP_cut (p : ByteArray) : piecesP p = if cutB p then cutP p :: piecesP (cutQ p) else [cutP p] := by
  rw [piecesP, split_cut]
  by_cases h : cutB p = true
  · rw [if_pos h, if_pos h, List.map_cons, bs_of, piecesP]
  · rw [if_neg h, if_neg h, List.map_cons, bs_of, List.map_nil]

set_option maxRecDepth 100000 in
set_option maxHeartbeats 1000000 in
theorem names1_in (n l Bp N : Nat) (p0 : ByteArray) (hp0 : p0.size ≤ 140737488351232) (J Jx : List ByteArray → World → Prop) (W : World)
    (hJ : ∀ s A B, J s A → A.grownBy B (some Bp) → J s B)
    (hY : ∀ pre x W1, J pre W1 → pre.length < N → YieldAt Fence.wide (n - 1) Tryz.prog l #[.string x] W1 fun e W' =>
      (e = .returned (.bool true) ∧ J (pre ++ [x]) W' ∧ W'.heap[Bp]? = W1.heap[Bp]?) ∨ (e = .returned (.bool false) ∧ Jx (pre ++ [x]) W'))
    (hB : Blk W Bp 9 #[.string p0]) (hN : (piecesP p0).length ≤ N) (h0 : J [] W) :
    CallsIn Fence.wide n Tryz.prog 96 #[.func (.yield l) #[] #[], .pointer (some ⟨Bp, 0, none⟩)] W fun e W' => (∃ v, e = .returned v) ∧
      ((∃ ys, ys = piecesP p0 ∧ J ys W') ∨ (∃ pre, pre <+: piecesP p0 ∧ Jx pre W')) := by
  refine callsIn_of_wp Tryz.func96 rfl trivial ?_ rfl
  simp only [Tryz.ntmps96, List.size_toArray, List.length_cons, List.length_nil, Nat.reduceAdd, Nat.reduceSub, Array.replicate_succ, Array.replicate_zero, List.push_toArray, List.append_toArray, List.nil_append, List.cons_append]
  gi_wp2
  gi_loopw [3] (fun m wr => ∃ (pre : List ByteArray) (p : ByteArray) (b : Bool), m = .bool b ∧ J pre wr ∧ Hid (piecesP p0 = pre ++ if b then piecesP p else []) ∧ Blk wr Bp 9 #[.string p] ∧ p.size ≤ 140737488351232) (fun m wr => leftN Bp m wr)
  case atStart => exact ⟨[], p0, true, rfl, h0, Lib.hid rfl, hB, hp0⟩
  case round =>
    clear hB h0
    obtain ⟨pre, p, b, rfl, hJr, HP, hB, hp⟩ := hrel
    cases b with
    | false =>
      have hP := HP.out
      simp only [Bool.false_eq_true, if_false, List.append_nil] at hP
      gi_wp2
      go_end0
      exact ⟨⟨_, rfl⟩, .inl ⟨pre, hP.symm, hJr⟩⟩
    | true =>
      have hc : wr.cell? ⟨Bp, 0, none⟩ = some (.string p) := by rw [hB.cell]; rfl
      have hf := hB.frozen 0
      have hcut := cut_any p wr hp
      obtain ⟨x, ex⟩ : ∃ x, x = cutP p := ⟨_, rfl⟩
      obtain ⟨q, eq⟩ : ∃ q, q = cutQ p := ⟨_, rfl⟩
      obtain ⟨b, eb⟩ : ∃ b, b = cutB p := ⟨_, rfl⟩
      rw [← ex, ← eq, ← eb] at hcut
      have HC := Lib.hid hcut
      have EX := Lib.hid (And.intro ex (And.intro eq eb))
      have HJ := Lib.hid hJ
      have HY := Lib.hid hY
      clear hcut ex eq eb hJ hY
      gi_wp2_with fail
      refine ⟨trivial, (fun h => by cases h), ?_⟩
      refine (callsIn_wide.2 HC.out).mono ?_
      rintro e _ ⟨rfl, m, rfl⟩
      have hg1 : wr.grownBy ((wr.drewN m).setCell ⟨Bp, 0, none⟩ (.string q)) (some Bp) := grown_setCell (grown_drewN (World.grownBy.refl _ _) m) rfl _
      have hJ5 := HJ.out _ _ _ hJr hg1
      have hB5 : Blk ((wr.drewN m).setCell ⟨Bp, 0, none⟩ (.string q)) Bp 9 #[.string q] := (hB.drewN m).set_ 0 (.string q)
      have hnx : piecesP p0 = (pre ++ [x]) ++ if b then piecesP q else [] := by
        have h1 : piecesP p0 = pre ++ piecesP p := by have := HP.out; simpa using this
        rw [piecesP_cut p, ← EX.out.1, ← EX.out.2.1, ← EX.out.2.2] at h1
        rw [h1]
        cases b <;> simp
      have hlen : pre.length < N := by
        have := congrArg List.length hnx
        simp only [List.length_append, List.length_cons, List.length_nil] at this
        omega
      have hq : q.size ≤ 140737488351232 := by rw [EX.out.2.1]; exact Nat.le_trans (cutQ_le p) hp
      have HNX := Lib.hid hnx
      have HQ := Lib.hid (show b = true → q.size < p.size from fun h => by rw [EX.out.2.1]; exact cutQ_lt p (by rw [← EX.out.2.2]; exact h))
      obtain ⟨fn, tmps, assign, body, hy, hR⟩ := HY.out pre x _ hJ5 hlen
      clear hJ5 hnx hlen hg1
      gi_wp2
      refine ⟨(fun h => by cases h), ?_⟩
      refine hR.mono ?_
      rintro e W3 (⟨rfl, hJ3, hk3⟩ | ⟨rfl, hx3⟩)
      · have hB3 : Blk W3 Bp 9 #[.string q] := hk3.trans hB5
        gi_wp2
        go_roundw
        case rel => exact ⟨pre ++ [x], q, b, rfl, hJ3, HNX, hB3, hq⟩
        case measure =>
          rw [leftN_true (p := p) (by rw [hB.cell]; rfl)]
          cases b with
          | true => rw [leftN_true (p := q) (by rw [hB3.cell]; rfl)]; have := HQ.out rfl; omega
          | false => rw [leftN_false]; omega
      · gi_wp2
        refine bodyPost_ret (results_none rfl _ _ _) rfl ?_
        exact ⟨⟨_, rfl⟩, .inr ⟨_, ⟨_, HNX.out.symm⟩, hx3⟩⟩

/-- **The iterator of what stands between slashes.** -/
theorem names_at (n Bp : Nat) (p0 : ByteArray) (hp0 : p0.size ≤ 140737488351232) (w : World) (hB : Blk w Bp 9 #[.string p0]) :
    SeqAt n Tryz.prog 96 #[.pointer (some ⟨Bp, 0, none⟩)] (fun x : ByteArray => Value.string x) (fun A B => A.grownBy B (some Bp)) (fun W W' => W'.heap[Bp]? = W.heap[Bp]?) (fun ys => ys = piecesP p0) (fun ys => ys <+: piecesP p0) ((piecesP p0).length) w := by
  intro l J Jx W hb hJ hY h0
  exact names1_in n l Bp _ p0 hp0 J Jx W hJ hY (hB.below hb hB.lt) (Nat.le_refl _) h0
end Go.Proofs.YtmhbkilpllgchaaGreatDoor
namespace Go.Proofs.YtmhbkilpllgchaaGreatDoor
open Go.RowKit Go.Shelf
set_option linter.unusedVariables false
set_option linter.unusedSimpArgs false
attribute [local go_sem] Oper.semAt_some

/-- The names that Split gives, and its error. -/
def okN (l : List UInt8) : List ByteArray := ((namesL l).getD []).map bs
def okE (l : List UInt8) : Int := match namesL l with | some _ => 0 | none => 1600
theorem rowS_cap {W : World} {base : Nat} {p : Option Addr} {k c : Nat} {xs : List Value} (h : W.ownsRow base 9 1 (.slice p k c) k xs) : k ≤ c := by
  rcases h.2 with ⟨e, rfl⟩ | ⟨g, cap, cur, e, _, _, hc, _⟩
  · exact Nat.zero_le _
  · injection e with _ _ e; omega
/-- What Split answers. -/
def SplitPost (l : List UInt8) (w : World) (e : Ending) (w' : World) : Prop :=
  ∃ p c, e = .returned (.tuple #[.slice p (okN l).length c, .int .i64 (okE l)]) ∧ Strs w' p (okN l) ∧ Below w.heap.size w w' ∧ (okN l).length ≤ c

theorem split_no {l : List UInt8} (h : namesL l = none) {w w' : World} {e : Ending} (he : e = .returned (.tuple #[.slice none 0 0, .int .i64 1600])) (hb : Below w.heap.size w w') : SplitPost l w e w' := by
  refine ⟨none, 0, ?_, ?_, hb, by rw [okN, h]; exact Nat.le_refl _⟩
  · rw [he, okN, okE, h]; rfl
  · rw [okN, h]; exact ⟨fun _ => rfl, fun a e => by cases e⟩

theorem hasPrefix_slash (l : List UInt8) : Lib.hasPrefix l [47] = decide (l.head? = some 47) := by
  cases l with
  | nil => rfl
  | cons b l =>
    by_cases hb : b = 47
    · subst hb; rfl
    · have h1 : ((47 : UInt8) == b) = false := by rw [beq_eq_false_iff_ne]; exact fun e => hb e.symm
      show (((47 : UInt8) == b) && _) = _
      rw [h1, Bool.false_and]
      symm
      rw [decide_eq_false_iff_not]
      intro e
      injection e with e
      exact hb e

set_option maxRecDepth 100000 in
set_option maxHeartbeats 1000000 in
theorem split_bad (s : ByteArray) (w : World) (hs : s.size ≤ 140737488351232) (h : 128 < s.size ∨ s.data.toList.head? ≠ some 47) :
    Calls Tryz.prog 65 #[.string s] w (SplitPost s.data.toList w) := by
  have hn : namesL s.data.toList = none := by
    rw [namesL, if_neg]
    rintro ⟨h1, h2⟩
    have e : s.data.toList.length = s.size := rfl
    rcases h with h | h
    · omega
    · exact h h2
  have HN := Lib.hid hn
  have hb : Below w.heap.size w ((w.alloc (.cells #[.slice none 0 0] 28)).alloc (.cells #[.int .i64 1600] 22)) := ((Below.refl _ _).alloc (Nat.le_refl _) _).alloc (by simp) _
  by_cases h1 : 128 < s.size
  · have h1' : (128 : Int) < (s.size : Int) := by omega
    clear h h1 hn
    go_enter Tryz.func65, Tryz.ntmps65
    go_wp2
    exact bodyPost_ret (v := .tuple #[.slice none 0 0, .int .i64 1600]) (by simp [results, Tryz.f65, go_sem]) rfl (split_no HN.out rfl hb)
  · have h1' : (s.size : Int) ≤ 128 := by omega
    have hp : Lib.hasPrefix s.data.toList [47] = false := by
      rw [hasPrefix_slash, decide_eq_false]
      rcases h with h | h
      · omega
      · exact h
    have hc := t_strings_HasPrefix s ⟨#[47]⟩ w
    have hl : (⟨#[47]⟩ : ByteArray).data.toList = [47] := rfl
    rw [hl, hp] at hc
    have HC := Lib.hid (show Calls Tryz.prog 81 #[.string s, .string ⟨#[47]⟩] w fun e w' => e = .returned (.bool false) ∧ w = w' from hc.mono fun _ _ h => ⟨h.1, h.2.symm⟩)
    have HC2 := Lib.hid (fun (o1 o2 : Obj) => show Calls Tryz.prog 81 #[.string s, .string ⟨#[47]⟩] ((w.alloc o1).alloc o2) fun e w' => e = .returned (.bool false) ∧ ((w.alloc o1).alloc o2) = w' from by
      have hc := t_strings_HasPrefix s ⟨#[47]⟩ ((w.alloc o1).alloc o2)
      rw [hl, hp] at hc
      exact hc.mono fun _ _ h => ⟨h.1, h.2.symm⟩)
    clear hp hc hl h h1 hn
    go_enter Tryz.func65, Tryz.ntmps65
    go_wp2_with (go_at_call 81; refine (HC2.out _ _).mono ?_; rintro e _ ⟨rfl, rfl⟩)
    exact bodyPost_ret (v := .tuple #[.slice none 0 0, .int .i64 1600]) (by simp [results, Tryz.f65, go_sem]) rfl (split_no HN.out rfl hb)

set_option maxRecDepth 100000 in
set_option maxHeartbeats 1000000 in
theorem split_root (s : ByteArray) (w : World) (h : s.data.toList = [47]) : Calls Tryz.prog 65 #[.string s] w (SplitPost s.data.toList w) := by
  have hn : namesL s.data.toList = some [] := by rw [h]; rfl
  have h1 : (s.size : Int) ≤ 128 := by
    have e : s.data.toList.length = s.size := rfl
    rw [h] at e
    simp at e
    omega
  have heq : (s.toList == [47]) = true := by rw [Lib.toList_data, h]; rfl
  have heq2 : s.toList = [47] := by rw [Lib.toList_data, h]
  have hp : Lib.hasPrefix s.data.toList [47] = true := by rw [h]; rfl
  have hl : (⟨#[47]⟩ : ByteArray).data.toList = [47] := rfl
  have HC2 := Lib.hid (fun (o1 o2 : Obj) => show Calls Tryz.prog 81 #[.string s, .string ⟨#[47]⟩] ((w.alloc o1).alloc o2) fun e w' => e = .returned (.bool true) ∧ ((w.alloc o1).alloc o2) = w' from by
    have hc := t_strings_HasPrefix s ⟨#[47]⟩ ((w.alloc o1).alloc o2)
    rw [hl, hp] at hc
    exact hc.mono fun _ _ h => ⟨h.1, h.2.symm⟩)
  have HN := Lib.hid hn
  have hb : Below w.heap.size w ((w.alloc (.cells #[.slice none 0 0] 28)).alloc (.cells #[.int .i64 0] 22)) := ((Below.refl _ _).alloc (Nat.le_refl _) _).alloc (by simp) _
  clear hp hl h hn
  go_enter Tryz.func65, Tryz.ntmps65
  go_wp2_with (go_at_call 81; refine (HC2.out _ _).mono ?_; rintro e _ ⟨rfl, rfl⟩)
  refine bodyPost_ret (v := .tuple #[.slice none 0 0, .int .i64 0]) (by simp [results, Tryz.f65, go_sem]) rfl ⟨none, 0, ?_, ?_, hb, by rw [okN, HN.out]; exact Nat.le_refl _⟩
  · rw [okN, okE, HN.out]; rfl
  · rw [okN, HN.out]; exact ⟨fun _ => rfl, fun a e => by cases e⟩

theorem own_kept {w w' : World} {base : Nat} {v : Value} {n : Nat} {xs : List Value} {row : Option Nat} (h : w.ownsRow base 9 1 v n xs) (hg : w.grownBy w' row) (hr : ∀ r, row = some r → r < base ∨ ∃ o : Obj, w.heap[r]? = some o ∧ o.isCells = false) : w'.ownsRow base 9 1 v n xs := by
  refine ⟨h.1, ?_⟩
  rcases h.2 with h2 | ⟨g, cap, cur, hv, hb, hh, rest⟩
  · exact .inl h2
  · refine .inr ⟨g, cap, cur, hv, hb, (hg.block g (Array.getElem?_eq_some_iff.1 hh).1 ?_).trans hh, rest⟩
    intro e
    rcases hr g e.symm with h3 | ⟨o, ho, hc⟩
    · omega
    · rw [hh] at ho
      injection ho with ho
      subst ho
      cases hc
theorem blk_kept2 {w w' : World} {g : Nat} {t : TypeId} {cs : Array Value} {row : Option Nat} (h : Blk w g t cs) (hg : w.grownBy w' row) (hr : ∀ r, row = some r → r ≠ g ∨ ∃ o : Obj, w.heap[r]? = some o ∧ o.isCells = false) : Blk w' g t cs := by
  refine (hg.block g h.lt ?_).trans h
  intro e
  rcases hr g e.symm with h3 | ⟨o, ho, hc⟩
  · exact h3 rfl
  · unfold Blk at h
    rw [h] at ho
    injection ho with ho
    subst ho
    cases hc

/-- What path.Split's loop holds between two rounds. -/
structure SplI (L : Nat) (w : World) (pre : List ByteArray) (W : World) : Prop where
  out : ∃ p c, Blk W (L + 2) 28 #[.slice p pre.length c] ∧ W.ownsRow (L + 4) 9 1 (.slice p pre.length c) pre.length (pre.map Value.string)
  res : Blk W L 28 #[.slice none 0 0]
  err : Blk W (L + 1) 22 #[.int .i64 0]
  few : pre.length ≤ 8
  all : ∀ x ∈ pre, nameB x = true
  below : Below L w W
  size : L + 4 ≤ W.heap.size
/-- Where it says no. -/
structure SplX (L : Nat) (w : World) (pre : List ByteArray) (W : World) : Prop where
  bad : (∃ x ∈ pre, nameB x = false) ∨ 8 < pre.length
  res : Blk W L 28 #[.slice none 0 0]
  err : Blk W (L + 1) 22 #[.int .i64 1600]
  below : Below L w W
theorem SplI.grown {L : Nat} {w : World} {pre : List ByteArray} {W W' : World} {row : Option Nat} (h : SplI L w pre W) (hg : W.grownBy W' row) (hr : ∀ r, row = some r → r = L + 3 ∨ (L + 4 ≤ r ∧ ∃ o : Obj, W.heap[r]? = some o ∧ o.isCells = false)) (hL : L ≤ w.heap.size) : SplI L w pre W' := by
  have h1 : ∀ g, g ≠ L + 3 → ∀ r, row = some r → r ≠ g ∨ ∃ o : Obj, W.heap[r]? = some o ∧ o.isCells = false := fun g hne r e => by
    rcases hr r e with h | h
    · exact .inl (by omega)
    · exact .inr h.2
  obtain ⟨p, c, ho, hw⟩ := h.out
  exact ⟨⟨p, c, blk_kept2 ho hg (h1 _ (by omega)), own_kept hw hg (fun r e => by
    rcases hr r e with h | h
    · exact .inl (by omega)
    · exact .inr h.2)⟩, blk_kept2 h.res hg (h1 _ (by omega)), blk_kept2 h.err hg (h1 _ (by omega)), h.few, h.all, h.below.grown hg (by have := h.size; omega) (fun k e => by rcases hr k e with h | h <;> omega), Nat.le_trans h.size hg.size⟩
theorem SplX.grown {L : Nat} {w : World} {pre : List ByteArray} {W W' : World} {row : Option Nat} (h : SplX L w pre W) (hg : W.grownBy W' row) (hr : ∀ r, row = some r → L + 4 ≤ r ∧ ∃ o : Obj, W.heap[r]? = some o ∧ o.isCells = false) : SplX L w pre W' := by
  have h1 : ∀ g, ∀ r, row = some r → r ≠ g ∨ ∃ o : Obj, W.heap[r]? = some o ∧ o.isCells = false := fun g r e => .inr (hr r e).2
  exact ⟨h.bad, blk_kept2 h.res hg (h1 _), blk_kept2 h.err hg (h1 _), h.below.grown hg (by have := h.res.lt; omega) (fun k e => by have := (hr k e).1; omega)⟩
theorem strs_of_row {W : World} {base : Nat} {p : Option Addr} {c : Nat} {ns : List ByteArray} (h : W.ownsRow base 9 1 (.slice p ns.length c) ns.length (ns.map Value.string)) : Strs W p ns := by
  rcases h.2 with ⟨e, _⟩ | ⟨g, cap, cur, e, hb, hh, _⟩
  · simp only [Value.slice.injEq] at e
    exact ⟨fun _ => List.length_eq_zero_iff.1 e.2.1, fun a ha => by rw [e.1] at ha; cases ha⟩
  · simp only [Value.slice.injEq] at e
    obtain ⟨rfl, -, -⟩ := e
    refine ⟨(fun e => by cases e), fun a e j hj => ?_⟩
    injection e with e
    subst e
    refine ⟨by rw [Addr.add_mid]; exact (Array.getElem?_eq_some_iff.1 hh).1, ?_⟩
    have := h.cells (g := g) rfl j (.string ns[j]) (by rw [List.getElem?_map, List.getElem?_eq_getElem hj]; rfl)
    rw [this, List.getD, List.getElem?_eq_getElem hj]
    rfl

set_option maxRecDepth 100000 in
set_option maxHeartbeats 4000000 in
theorem split_main (s : ByteArray) (w : World) (hs : s.size ≤ 128) (h47 : s.data.toList.head? = some 47) (hne : s.data.toList ≠ [47]) : Calls Tryz.prog 65 #[.string s] w (SplitPost s.data.toList w) := by
  obtain ⟨L, eL⟩ : ∃ L, L = w.heap.size := ⟨_, rfl⟩
  obtain ⟨i0, hi0, hz0, hz1, hz2⟩ := info_parts info9
  have h1 : (s.size : Int) ≤ 128 := by omega
  have heq : (s.toList == [47]) = false := by rw [Lib.toList_data, beq_eq_false_iff_ne]; exact hne
  have heq2 : ¬ s.toList = [47] := by rw [Lib.toList_data]; exact hne
  have hp : Lib.hasPrefix s.data.toList [47] = true := by rw [hasPrefix_slash, decide_eq_true h47]
  have hl : (⟨#[47]⟩ : ByteArray).data.toList = [47] := rfl
  have hpos : 1 ≤ s.size := by
    have e : s.data.toList.length = s.size := rfl
    cases hs2 : s.data.toList with
    | nil => rw [hs2] at h47; cases h47
    | cons b l => rw [hs2] at e; simp at e; omega
  have HC2 := Lib.hid (fun (w : World) => show Calls Tryz.prog 81 #[.string s, .string ⟨#[47]⟩] w fun e w' => e = .returned (.bool true) ∧ w = w' from by
    have hc := t_strings_HasPrefix s ⟨#[47]⟩ w
    rw [hl, hp] at hc
    exact hc.mono fun _ _ h => ⟨h.1, h.2.symm⟩)
  obtain ⟨p1, ep⟩ : ∃ p1, p1 = s.extract 1 s.size := ⟨_, rfl⟩
  have hpl : p1.data.toList = s.data.toList.drop 1 := by
    rw [ep, ByteArray.data_extract, Array.toList_extract, List.extract_eq_take_drop, List.take_of_length_le (by rw [List.length_drop]; exact Nat.le_refl _)]
  have hps : p1.size ≤ 128 := by rw [ep, ByteArray.size_extract]; omega
  have hsl : ∀ w', (Instr.slice 9 (.string s) (some (.int .i64 1)) none none).run Tryz.prog w' = .ok (.string p1) w' := fun w' => by
    have := run_slice_string_from_if (P := Tryz.prog) w' 9 s .i64 1 Tryz.underlying9
    rw [this, if_pos (by omega), ep]
    rfl
  have hnl : namesL s.data.toList = if (splitL (s.data.toList.drop 1)).all nameL = true ∧ (splitL (s.data.toList.drop 1)).length ≤ 8 then some (splitL (s.data.toList.drop 1)) else none := by
    have e : s.data.toList.length = s.size := rfl
    rw [namesL, if_pos ⟨by omega, h47⟩, if_neg hne]
  have HNL := Lib.hid (And.intro hnl (And.intro hpl ep))
  have EL := Lib.hid eL
  have hLs : L ≤ w.heap.size := by omega
  clear hp hl h47 hne hnl hpl ep eL
  refine (callsIn_wide (n := 6)).1 ?_
  refine callsIn_of_wp_marks Tryz.func65 rfl trivial ?_ rfl
  simp only [Tryz.ntmps65, List.size_toArray, List.length_cons, List.length_nil, Nat.reduceAdd, Nat.reduceSub, Array.replicate_succ, Array.replicate_zero, List.push_toArray, List.append_toArray, List.nil_append, List.cons_append]
  gi_wp2_with fail
  refine ⟨trivial, ?_⟩
  refine (callsIn_wide.2 (HC2.out _)).mono ?_
  rintro e _ ⟨rfl, rfl⟩
  gi_wp2_with fail
  refine ⟨trivial, ?_⟩
  refine (callsIn_wide.2 (names_any p1 _)).mono ?_
  rintro e _ ⟨rfl, rfl⟩
  have b0 : Blk (w.alloc (.cells #[.slice none 0 0] 28)) L 28 #[.slice none 0 0] := by rw [EL.out]; exact Blk.new _ _ _
  have s0 : (w.alloc (.cells #[.slice none 0 0] 28)).heap.size = L + 1 := by simp [EL.out]
  have b1 : Blk ((w.alloc (.cells #[.slice none 0 0] 28)).alloc (.cells #[.int .i64 0] 22)) (L + 1) 22 #[.int .i64 0] := by rw [← s0]; exact Blk.new _ _ _
  have s1 : ((w.alloc (.cells #[.slice none 0 0] 28)).alloc (.cells #[.int .i64 0] 22)).heap.size = L + 2 := by rw [World.size_alloc, s0]
  have b2 : Blk (((w.alloc (.cells #[.slice none 0 0] 28)).alloc (.cells #[.int .i64 0] 22)).alloc (.cells #[.slice none 0 0] 28)) (L + 2) 28 #[.slice none 0 0] := by rw [← s1]; exact Blk.new _ _ _
  have s2 : (((w.alloc (.cells #[.slice none 0 0] 28)).alloc (.cells #[.int .i64 0] 22)).alloc (.cells #[.slice none 0 0] 28)).heap.size = L + 3 := by rw [World.size_alloc, s1]
  have b3 : Blk ((((w.alloc (.cells #[.slice none 0 0] 28)).alloc (.cells #[.int .i64 0] 22)).alloc (.cells #[.slice none 0 0] 28)).alloc (.cells #[.string p1] 9)) (L + 3) 9 #[.string p1] := by rw [← s2]; exact Blk.new _ _ _
  have s3 : ((((w.alloc (.cells #[.slice none 0 0] 28)).alloc (.cells #[.int .i64 0] 22)).alloc (.cells #[.slice none 0 0] 28)).alloc (.cells #[.string p1] 9)).heap.size = L + 4 := by rw [World.size_alloc, s2]
  have hb : Below L w ((((w.alloc (.cells #[.slice none 0 0] 28)).alloc (.cells #[.int .i64 0] 22)).alloc (.cells #[.slice none 0 0] 28)).alloc (.cells #[.string p1] 9)) := ((((Below.refl _ _).alloc hLs _).alloc (by omega) _).alloc (by omega) _).alloc (by omega) _
  have b0' := ((b0.alloc (.cells #[.int .i64 0] 22)).alloc (.cells #[.slice none 0 0] 28)).alloc (.cells #[.string p1] 9)
  have b1' := (b1.alloc (.cells #[.slice none 0 0] 28)).alloc (.cells #[.string p1] 9)
  have b2' := b2.alloc (.cells #[.string p1] 9)
  obtain ⟨W0, eW0⟩ : ∃ W0, W0 = (((w.alloc (.cells #[.slice none 0 0] 28)).alloc (.cells #[.int .i64 0] 22)).alloc (.cells #[.slice none 0 0] 28)).alloc (.cells #[.string p1] 9) := ⟨_, rfl⟩
  rw [s2]
  rw [← eW0] at b3 s3 hb b0' b1' b2' ⊢
  have hI0 : SplI L w [] W0 := ⟨⟨none, 0, b2', World.ownsRow_nil _ _ _ _⟩, b0', b1', by simp, (fun x hx => by cases hx), hb, by omega⟩
  have S3 := Lib.hid s3
  clear eW0 b0 b1 b2 s0 s1 s2 s3 b0' b1' b2' hb
  rw [← EL.out]
  gi_wp2_with fail
  refine range_cell (gf := 96) (lb := #[.pointer (some ⟨L + 3, 0, none⟩)]) rfl (enters_of Tryz.func96 (by kernel_rfl) rfl) (names_at _ (L + 3) p1 (by omega) W0 b3)
    (fun h k => k.trans h) (fun W l o hl hlt => World.putObj_heap_other (by rw [S3.out] at hl; omega))
    (fun A B l o hg hl ho => (hg.block l (Array.getElem?_eq_some_iff.1 ho).1 (fun e => by cases e; rw [S3.out] at hl; omega)).trans ho)
    (SplI L w) (SplX L w) (fun s W l o' o h hl ho hc => h.grown (grownBy_putObj' W l o') (fun r e => by cases e; rw [S3.out] at hl; exact .inr ⟨hl, o, ho, hc⟩) hLs)
    (fun s W l o' o h hl ho hc => h.grown (grownBy_putObj' W l o') (fun r e => by cases e; rw [S3.out] at hl; exact ⟨hl, o, ho, hc⟩))
    (fun s W o h => h.grown (World.grownBy_alloc W o none) (fun r e => by cases e) hLs)
    (fun s A B h hg => h.grown hg (fun r e => by cases e; exact .inl rfl) hLs) hI0
    (fun x => { tmps := #[.string s, undef, .pointer (some ⟨L, 0, none⟩), .pointer (some ⟨L + 1, 0, none⟩), .pointer (some ⟨L + 1 + 1, 0, none⟩), .string x, .bool (decide (128 < (s.size : Int))), .string s, .int .i64 (s.size : Int), .bool (decide (128 < (s.size : Int))), .bool (decide (128 < (s.size : Int))), .string s, .bool true, .bool false, .bool (decide (128 < (s.size : Int))), .bool false, .string s, .bool false, .string s, .string p1, .func (.func 96) #[] #[.pointer (some ⟨L + 3, 0, none⟩)], .string x, undef, undef, undef, undef, undef, undef, undef, undef, undef, undef, undef, undef, undef], defers := [] }) ?assign ?body ?done ?stop
  case assign =>
    intro l x W K hK
    gi_wp2
    exact hK
  case body =>
    intro l pre x W hI hlen
    obtain ⟨p, c, ho, hw⟩ := hI.out
    obtain ⟨k, ek⟩ : ∃ k, k = pre.length := ⟨_, rfl⟩
    have hk8 : k ≤ 8 := by rw [ek]; exact hI.few
    rw [← ek] at ho hw
    have EK := Lib.hid ek
    have c0 : W.cell? ⟨L, 0, none⟩ = some (.slice none 0 0) := by rw [hI.res.cell]; rfl
    have f0 := hI.res.frozen 0
    have c1 : W.cell? ⟨L + 1, 0, none⟩ = some (.int .i64 0) := by rw [hI.err.cell]; rfl
    have f1 := hI.err.frozen 0
    have c2 : W.cell? ⟨L + 1 + 1, 0, none⟩ = some (.slice p k c) := by rw [show L + 1 + 1 = L + 2 from rfl, ho.cell]; rfl
    have f2 : W.frozen? ⟨L + 1 + 1, 0, none⟩ = false := ho.frozen 0
    have hn := pname_any x W
    have hsz := hI.size
    have HI := Lib.hid hI
    clear ek hlen hI
    have no : SplX L w (pre ++ [x]) ((W.setCell ⟨L, 0, none⟩ (.slice none 0 0)).setCell ⟨L + 1, 0, none⟩ (.int .i64 1600)) ∨ ((∀ y ∈ pre ++ [x], nameB y = true) ∧ k < 8) := by
      by_cases hb : nameB x = true ∧ k < 8
      · refine .inr ⟨fun y hy => ?_, hb.2⟩
        rcases List.mem_append.1 hy with h | h
        · exact HI.out.all y h
        · simp at h; rw [h]; exact hb.1
      · refine .inl ⟨?_, ?_, ?_, ?_⟩
        · rcases Decidable.em (nameB x = true) with h | h
          · refine .inr ?_
            rw [List.length_append, ← EK.out]
            have : ¬ k < 8 := fun h2 => hb ⟨h, h2⟩
            simp; omega
          · exact .inl ⟨x, by simp, by simpa using h⟩
        · exact (HI.out.res.set_ 0 _).far (p := ⟨L + 1, 0, none⟩) (by show L ≠ L + 1; omega) _
        · exact (HI.out.err.far (p := ⟨L, 0, none⟩) (by show L + 1 ≠ L; omega) _).set_ 0 _
        · exact (HI.out.below.setCell (p := ⟨L, 0, none⟩) (Nat.le_refl _) _).setCell (p := ⟨L + 1, 0, none⟩) (by show L ≤ L + 1; omega) _
    have NO := Lib.hid no
    clear no
    cases hb : nameB x with
    | false =>
      rw [hb] at hn
      have HN := Lib.hid hn
      have HX : SplX L w (pre ++ [x]) ((W.setCell ⟨L, 0, none⟩ (.slice none 0 0)).setCell ⟨L + 1, 0, none⟩ (.int .i64 1600)) := by
        rcases NO.out with h | h
        · exact h
        · have := h.1 x (by simp); rw [hb] at this; cases this
      have HX := Lib.hid HX
      clear hn hb
      gi_wp2_with fail
      refine ⟨trivial, ?_⟩
      refine (CallsIn.inRound l (callsIn_wide.2 HN.out)).mono ?_
      rintro e _ ⟨rfl, rfl⟩
      gi_wp2
      exact ⟨(KeepsOthers.setCell _ _ _).trans (KeepsOthers.setCell _ _ _), HX.out⟩
    | true =>
      rw [hb] at hn
      have HN := Lib.hid hn
      have HB := Lib.hid hb
      clear hn hb
      by_cases hk : k = 8
      · have HX : SplX L w (pre ++ [x]) ((W.setCell ⟨L, 0, none⟩ (.slice none 0 0)).setCell ⟨L + 1, 0, none⟩ (.int .i64 1600)) := by
          rcases NO.out with h | h
          · exact h
          · have := h.2; omega
        have HX := Lib.hid HX
        have hk1 : ((k : Int) == 8) = true := by rw [hk]; rfl
        clear hk hk8
        gi_wp2_with fail
        refine ⟨trivial, ?_⟩
        refine (CallsIn.inRound l (callsIn_wide.2 HN.out)).mono ?_
        rintro e _ ⟨rfl, rfl⟩
        gi_wp2
        exact ⟨(KeepsOthers.setCell _ _ _).trans (KeepsOthers.setCell _ _ _), HX.out⟩
      · have hk1 : ((k : Int) == 8) = false := by rw [beq_eq_false_iff_ne]; omega
        have hkl : k + 1 ≤ 8 := by omega
        have hR2 : (W.alloc (.cells #[.string x] 9)).ownsRow (L + 4) 9 1 (.slice p k c) k (pre.map Value.string) := own_kept hw (World.grownBy_alloc W _ none) (fun r e => by cases e)
        have b1 : k + 1 ≤ maxLen := by simp only [maxLen]; omega
        have b2 : (k + 1) * 16 ≤ 140737488355328 := by omega
        have b3 : L + 4 ≤ (W.alloc (.cells #[.string x] 9)).heap.size := by rw [World.size_alloc]; omega
        have ho2 : Blk (W.alloc (.cells #[.string x] 9)) (L + 2) 28 #[.slice p k c] := ho.alloc _
        have hrow : ∀ r, (Value.slice p k c).ownBlock = some r → L + 4 ≤ r ∧ ∃ o : Obj, (W.alloc (.cells #[.string x] 9)).heap[r]? = some o ∧ o.isCells = true := fun r e => by
          rcases hR2.2 with ⟨hv, _⟩ | ⟨g, cap, cur, hv, hbg, hh, _⟩
          · rw [hv] at e; cases e
          · rw [hv] at e
            injection e with e
            have e : g = r := e
            subst e
            exact ⟨hbg, _, hh, rfl⟩
        have HROW := Lib.hid hrow
        clear hk hk8 hrow
        gi_wp2_with fail
        refine ⟨trivial, ?_⟩
        refine (CallsIn.inRound l (callsIn_wide.2 HN.out)).mono ?_
        rintro e _ ⟨rfl, rfl⟩
        gi_wp2_with (gi_at_builtin; refine wpListIn_append_own _ rfl _ _ 28 rfl (L + 4) 9 i0 (.string ⟨#[]⟩) 1 16 Tryz.underlying28 hi0 hz0 hz1 hz2 rfl (by decide) (.slice p k c) k (pre.map Value.string) rfl hR2 ⟨_, 0, none⟩ 1 1 [.string x] rfl rfl (cell_one_new _ _ _) (by simp [Value.oneCell']) b1 b2 b3 ?_)
        intro v5 w5 hR5 hg5 hnn5
        obtain ⟨p5, c5, rfl⟩ := row_slice hR5
        have hO5 : Blk w5 (L + 2) 28 #[.slice p k c] := ho2.grown hg5 (fun e => by have := (HROW.out _ e.symm).1; omega)
        have d2 : w5.cell? ⟨L + 1 + 1, 0, none⟩ = some (.slice p k c) := by rw [show L + 1 + 1 = L + 2 from rfl, hO5.cell]; rfl
        have g2 : w5.frozen? ⟨L + 1 + 1, 0, none⟩ = false := hO5.frozen 0
        gi_wp2
        have hlt : ∀ g, g < L + 4 → some g ≠ (Value.slice p k c).ownBlock := fun g hg e => by have := (HROW.out _ e.symm).1; omega
        have hlen : (pre ++ [x]).length = k + 1 := by rw [List.length_append, ← EK.out]; rfl
        have hne5 : (Value.slice p5 (k + 1) c5).ownBlock ≠ some (L + 2) := fun e => by have := (hR5.lt _ e).1; omega
        have hBA : Below L w (W.alloc (.cells #[.string x] 9)) := HI.out.below.alloc (by omega) _
        refine ⟨(KeepsOthers.alloc W _).trans ((KeepsOthers.of_grownBy hg5 (fun j o e ho => ?_)).trans (KeepsOthers.setCell _ _ _)),
          (Below.heap_setCell w5 ⟨L + 1 + 1, 0, none⟩ _ (L + 3) (by show L + 3 ≠ L + 1 + 1; omega)).trans ((hg5.block (L + 3) (by rw [World.size_alloc]; omega) (hlt _ (by omega))).trans (Below.heap_alloc W _ _ (by omega))), ?_⟩
        · obtain ⟨_, o', ho', hc'⟩ := HROW.out j e
          rw [ho'] at ho
          injection ho with ho
          rw [← ho]
          exact hc'
        · refine ⟨⟨p5, c5, ?_, ?_⟩, ?_, ?_, by rw [hlen]; exact hkl, ?_, ?_, ?_⟩
          · rw [hlen]; exact hO5.set_ 0 _
          · rw [hlen, List.map_append]; exact row_setCell (p := ⟨L + 2, 0, none⟩) hR5 hne5 _
          · exact ((HI.out.res.alloc _).grown hg5 (hlt _ (by omega))).far (p := ⟨L + 1 + 1, 0, none⟩) (by show L ≠ L + 1 + 1; omega) _
          · exact ((HI.out.err.alloc _).grown hg5 (hlt _ (by omega))).far (p := ⟨L + 1 + 1, 0, none⟩) (by show L + 1 ≠ L + 1 + 1; omega) _
          · intro y hy
            rcases List.mem_append.1 hy with h | h
            · exact HI.out.all y h
            · simp at h; rw [h]; exact HB.out
          · exact (hBA.grown hg5 (by rw [World.size_alloc]; omega) (fun g e => by have := (HROW.out _ e).1; omega)).setCell (p := ⟨L + 1 + 1, 0, none⟩) (by show L ≤ L + 1 + 1; omega) _
          · have := hg5.size
            rw [World.size_alloc] at this
            show L + 4 ≤ (w5.setCell _ _).heap.size
            simp only [World.setCell, Array.size_modify]
            omega
  case done =>
    rintro D ys W hD rfl hI hK
    obtain ⟨p, c, ho, hw⟩ := hI.out
    have hD4 : L + 4 ≤ D := by rw [← S3.out]; exact hD
    have hgood : namesL s.data.toList = some (splitL (s.data.toList.drop 1)) := by
      rw [HNL.out.1, if_pos]
      refine ⟨?_, ?_⟩
      · rw [List.all_eq_true]
        intro n hn
        have := hI.all (bs n) (List.mem_map.2 ⟨n, by rw [HNL.out.2.1]; exact hn, rfl⟩)
        rwa [nameB, bs_list] at this
      · have := hI.few
        rw [piecesP, List.length_map, HNL.out.2.1] at this
        exact this
    have hokN : okN s.data.toList = piecesP p1 := by rw [okN, hgood, piecesP, HNL.out.2.1]; rfl
    have hokE : okE s.data.toList = 0 := by rw [okE, hgood]
    obtain ⟨ys, eys⟩ : ∃ ys, ys = piecesP p1 := ⟨_, rfl⟩
    rw [← eys] at ho hw hokN
    obtain ⟨k, ek⟩ : ∃ k, k = ys.length := ⟨_, rfl⟩
    have c0 : W.cell? ⟨L, 0, none⟩ = some (.slice none 0 0) := by rw [hI.res.cell]; rfl
    have f0 := hI.res.frozen 0
    have c1 : W.cell? ⟨L + 1, 0, none⟩ = some (.int .i64 0) := by rw [hI.err.cell]; rfl
    have f1 := hI.err.frozen 0
    rw [← ek] at ho hw
    have c2 : W.cell? ⟨L + 1 + 1, 0, none⟩ = some (.slice p k c) := by rw [show L + 1 + 1 = L + 2 from rfl, ho.cell]; rfl
    have HI := Lib.hid (And.intro hI (And.intro hokN (And.intro hokE (And.intro ek hK))))
    clear hI hokN hokE hgood eys ek hK hD ho
    gi_wp2
    obtain ⟨hI, hokN, hokE, ek, hK⟩ := HI.out
    have hK' : ((W.setCell ⟨L, 0, none⟩ (.slice p k c)).setCell ⟨L + 1, 0, none⟩ (.int .i64 0)).heap[D]? = some (.deferred (some [])) :=
      (KeepsOthers.setCell _ _ _).same D _ ((KeepsOthers.setCell _ _ _).same D _ hK rfl) rfl
    have hb0 : Blk ((W.setCell ⟨L, 0, none⟩ (.slice p k c)).setCell ⟨L + 1, 0, none⟩ (.int .i64 0)) L 28 #[.slice p k c] := (hI.res.set_ 0 _).far (p := ⟨L + 1, 0, none⟩) (by show L ≠ L + 1; omega) _
    have hb1 : Blk ((W.setCell ⟨L, 0, none⟩ (.slice p k c)).setCell ⟨L + 1, 0, none⟩ (.int .i64 0)) (L + 1) 22 #[.int .i64 0] := (hI.err.far (p := ⟨L, 0, none⟩) (by show L + 1 ≠ L; omega) _).set_ 0 _
    have hlt : ∀ g, g < L + 4 → (Value.slice p k c).ownBlock ≠ some g := fun g hg e => by have := (hw.lt g e).1; omega
    have hw2 := row_setCell (p := ⟨L + 1, 0, none⟩) (row_setCell (p := ⟨L, 0, none⟩) hw (hlt L (by omega)) (.slice p k c)) (hlt (L + 1) (by omega)) (.int .i64 0)
    have hB2 : Below L w ((W.setCell ⟨L, 0, none⟩ (.slice p k c)).setCell ⟨L + 1, 0, none⟩ (.int .i64 0)) := (hI.below.setCell (p := ⟨L, 0, none⟩) (Nat.le_refl _) _).setCell (p := ⟨L + 1, 0, none⟩) (by show L ≤ L + 1; omega) _
    obtain ⟨W2, eW2⟩ : ∃ W2, W2 = (W.setCell ⟨L, 0, none⟩ (.slice p k c)).setCell ⟨L + 1, 0, none⟩ (.int .i64 0) := ⟨_, rfl⟩
    rw [← eW2] at hK' hb0 hb1 hw2 hB2 ⊢
    refine ⟨by simp, .inl ⟨_, _, rfl, run_takeDeferred hK', ?_⟩⟩
    have hg := grownBy_putObj' W2 D (.deferred none)
    have hr : ∀ r, some D = some r → ∃ o : Obj, W2.heap[r]? = some o ∧ o.isCells = false := fun r e => by cases e; exact ⟨_, hK', rfl⟩
    have hc0 : (W2.putObj D (.deferred none)).cell? ⟨L, 0, none⟩ = some (.slice p k c) := by rw [(blk_kept2 hb0 hg (fun r e => .inr (hr r e))).cell]; rfl
    have hc1 : (W2.putObj D (.deferred none)).cell? ⟨L + 1, 0, none⟩ = some (.int .i64 0) := by rw [(blk_kept2 hb1 hg (fun r e => .inr (hr r e))).cell]; rfl
    have hw3 := own_kept hw2 hg (fun r e => .inr (hr r e))
    rw [ek] at hw3
    refine ⟨.tuple #[.slice p k c, .int .i64 0], by simp [results, Tryz.f65, go_sem, hc0, hc1], p, c, ?_, ?_, ?_, by rw [hokN]; exact rowS_cap hw3⟩
    · rw [hokN, hokE, ← ek]
    · rw [hokN]; exact strs_of_row hw3
    · rw [← EL.out]
      exact hB2.grown hg (by have := hb0.lt; omega) (fun g e => by cases e; omega)
  case stop =>
    rintro D pre W hD hpre hX hK
    have hD4 : L + 4 ≤ D := by rw [← S3.out]; exact hD
    have hn : namesL s.data.toList = none := by
      rw [HNL.out.1, if_neg]
      rintro ⟨h1, h2⟩
      rcases hX.bad with ⟨x, hx, hb⟩ | h8
      · have hx2 := hpre.subset hx
        rw [piecesP, HNL.out.2.1] at hx2
        obtain ⟨n, hn, rfl⟩ := List.mem_map.1 hx2
        have := List.all_eq_true.1 h1 n hn
        rw [nameB, bs_list, this] at hb
        cases hb
      · have := hpre.length_le
        rw [piecesP, List.length_map, HNL.out.2.1] at this
        omega
    have HX := Lib.hid (And.intro hX (And.intro hn hK))
    clear hX hn hK hD hpre
    gi_wp2
    obtain ⟨hX, hn, hK⟩ := HX.out
    refine ⟨by simp, .inl ⟨_, _, rfl, run_takeDeferred hK, ?_⟩⟩
    have hg := grownBy_putObj' W D (.deferred none)
    have hr : ∀ r, some D = some r → ∃ o : Obj, W.heap[r]? = some o ∧ o.isCells = false := fun r e => by cases e; exact ⟨_, hK, rfl⟩
    have hc0 : (W.putObj D (.deferred none)).cell? ⟨L, 0, none⟩ = some (.slice none 0 0) := by rw [(blk_kept2 hX.res hg (fun r e => .inr (hr r e))).cell]; rfl
    have hc1 : (W.putObj D (.deferred none)).cell? ⟨L + 1, 0, none⟩ = some (.int .i64 1600) := by rw [(blk_kept2 hX.err hg (fun r e => .inr (hr r e))).cell]; rfl
    refine ⟨.tuple #[.slice none 0 0, .int .i64 1600], by simp [results, Tryz.f65, go_sem, hc0, hc1], split_no hn rfl ?_⟩
    rw [← EL.out]
    exact hX.below.grown hg (by have := hX.res.lt; omega) (fun g e => by cases e; omega)

/-- **path.Split.** -/
theorem split_any (s : ByteArray) (w : World) (hs : s.size ≤ 140737488351232) : Calls Tryz.prog 65 #[.string s] w (SplitPost s.data.toList w) := by
  by_cases h1 : 128 < s.size ∨ s.data.toList.head? ≠ some 47
  · exact split_bad s w hs h1
  · by_cases h2 : s.data.toList = [47]
    · exact split_root s w h2
    · exact split_main s w (by omega) (Decidable.byContradiction fun h => h1 (.inr h)) h2
end Go.Proofs.YtmhbkilpllgchaaGreatDoor
