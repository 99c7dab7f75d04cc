/- A range over a function whose iterator keeps a state of its own in a cell: what it does between two rounds is a relation 'Cl' of the iterator's choosing, which the caller's invariant must abide. -/
import Derived.RangeFuncFrom
import Derived.RangeFuncNested
import Derived.Lib.Hide
import Derived.Test.YtmhbkilpllgchaaMem
namespace Go.Proofs.Ytmhbkilpllgchaa
open Go Go.RowKit
set_option linter.unusedVariables false
set_option linter.unusedSimpArgs false

section
variable {α : Type} {P : Program} {n : Nat}

/-- The iterator's word. -/
def SeqAt (n : Nat) (P : Program) (gf : Nat) (lb : Array Value) (enc : α → Value) (Cl Kp : World → World → Prop) (S Sp : List α → Prop) (N : Nat) (w : World) : Prop :=
  ∀ (l : Nat) (J Jx : List α → World → Prop) (W : World), Below w.heap.size w W → (∀ s A B, J s A → Cl A B → J s B) →
    (∀ pre x W1, J pre W1 → pre.length < N → YieldAt Fence.wide (n - 1) P l #[enc x] W1 fun e W' =>
      (e = .returned (.bool true) ∧ J (pre ++ [x]) W' ∧ Kp W1 W') ∨ (e = .returned (.bool false) ∧ Jx (pre ++ [x]) W')) →
    J [] W →
    CallsIn Fence.wide n P gf (#[.func (.yield l) #[] #[]] ++ lb) W fun e W' => (∃ v, e = .returned v) ∧ ((∃ xs, S xs ∧ J xs W') ∨ ∃ pre, Sp pre ∧ Jx pre W')

/-- What the loop lays for itself: its record at l, and the block for deferred calls at D. -/
def Kept2 (D l : Nat) (r : Loop) (W : World) : Prop := W.heap[l]? = some (.loop r) ∧ W.heap[D]? = some (.deferred (some []))
theorem Kept2.put {D l : Nat} {r : Loop} {W : World} (h : Kept2 D l r W) (r' : Loop) (hne : l ≠ D) : Kept2 D l r' (W.putObj l (.loop r')) :=
  ⟨World.putObj_heap_same (Array.getElem?_eq_some_iff.1 h.1).1, (World.putObj_heap_other hne.symm).trans h.2⟩
theorem Kept2.others {D l : Nat} {r : Loop} {W W' : World} (h : Kept2 D l r W) (k : KeepsOthers W W') : Kept2 D l r W' := ⟨k.same _ _ h.1 rfl, k.same _ _ h.2 rfl⟩

/-- How a round's body may end: it goes on, or it returns. -/
def bodyEnd (Kp : World → World → Prop) (I Ix : List α → World → Prop) (xs : List α) (W : World) : Exit → Act → World → Prop
  | .normal, _, W' => KeepsOthers W W' ∧ Kp W W' ∧ I xs W'
  | .ret, _, W' => KeepsOthers W W' ∧ Ix xs W'
  | _, _, _ => False

theorem range_cell {g : Operand} {p : Tmp} {assign body : Code} {Q : Exit → Act → World → Prop} {a : Act} {w : World} {gf : Nat} {lb : Array Value}
    (hg : a.eval g = .func (.func gf) #[] lb) (eg : ∀ args w, (callFunc gf args).run P w = .ok (.enter gf args) w)
    {enc : α → Value} {Cl Kp : World → World → Prop} {S Sp : List α → Prop} {N : Nat} (hseq : SeqAt (n - 1) P gf lb enc Cl Kp S Sp N w)
    (hKt : ∀ {A B C : World}, Kp A B → Kp B C → Kp A C) (hKp : ∀ (W : World) (l : Nat) (o : Obj), w.heap.size ≤ l → l < W.heap.size → Kp W (W.putObj l o))
    (hCl : ∀ (A B : World) (l : Nat) (o : Obj), Cl A B → w.heap.size ≤ l → A.heap[l]? = some o → B.heap[l]? = some o)
    (I Ix : List α → World → Prop) (hIp : ∀ s W l o' o, I s W → w.heap.size ≤ l → W.heap[l]? = some o → o.isCells = false → I s (W.putObj l o'))
    (hXp : ∀ s W l o' o, Ix s W → w.heap.size ≤ l → W.heap[l]? = some o → o.isCells = false → Ix s (W.putObj l o'))
    (hIa : ∀ s W o, I s W → I s (W.alloc o)) (hIc : ∀ s A B, I s A → Cl A B → I s B) (h0 : I [] w) (a₁ : α → Act)
    (hassign : ∀ (l : Nat) (x : α) (W : World) (K : Act → World → Prop), K (a₁ x) W →
      assign.wpIn (Fence.wide.inRound l) (n - 1 - 1) P (Exit.then K (fun _ _ _ => False)) { tmps := a.tmps.setIfInBounds p (enc x), defers := [] } W)
    (hbody : ∀ (l : Nat) (pre : List α) (x : α) (W : World), I pre W → pre.length < N → body.wpIn (Fence.wide.inRound l) (n - 1 - 1) P (bodyEnd Kp I Ix (pre ++ [x]) W) (a₁ x) W)
    (hdone : ∀ (D : Nat) (xs : List α) (W : World), w.heap.size ≤ D → S xs → I xs W → W.heap[D]? = some (.deferred (some [])) → Q .normal { a with defers := { target := .collected D, args := #[] } :: a.defers } W)
    (hstop : ∀ (D : Nat) (pre : List α) (W : World), w.heap.size ≤ D → Sp pre → Ix pre W → W.heap[D]? = some (.deferred (some [])) → Code.ret.wpIn Fence.wide n P Q { a with defers := { target := .collected D, args := #[] } :: a.defers } W) :
    (Code.rangeFunc g #[p] assign body).wpIn Fence.wide n P Q a w := by
  refine wpIn_rangeFunc fun fn hfn => ?_
  obtain ⟨D, hD⟩ : ∃ D, D = w.heap.size := ⟨_, rfl⟩
  obtain ⟨l, hl⟩ : ∃ l, l = w.heap.size + 1 := ⟨_, rfl⟩
  have hne : l ≠ D := by omega
  have hDw : w.heap.size ≤ D := by omega
  have hlw : w.heap.size ≤ l := by omega
  obtain ⟨r0, hr0⟩ : ∃ r0 : Loop, r0 = { state := .ready, pending := none, fn, tmps := a.tmps, params := #[p], assign, body, defers := w.heap.size } := ⟨_, rfl⟩
  obtain ⟨W1, hW1⟩ : ∃ W1, W1 = (w.alloc (.deferred (some []))).alloc (.loop r0) := ⟨_, rfl⟩
  have hI1 : I [] W1 := hW1 ▸ hIa _ _ _ (hIa _ _ _ h0)
  have hB1 : Below w.heap.size w W1 := hW1 ▸ ((Below.refl _ w).alloc (Nat.le_refl _) _).alloc (by simp) _
  have hk1 : Kept2 D l r0 W1 := by
    rw [hW1, hD, hl]
    refine ⟨?_, (Below.heap_alloc _ _ _ (by simp)).trans (World.alloc_heap_new w _)⟩
    have := World.alloc_heap_new (w.alloc (.deferred (some []))) (.loop r0)
    rwa [World.size_alloc] at this
  refine ⟨l, [{ target := .collected D, args := #[] }], W1, { target := .fn (.func gf) lb, args := #[.func (.yield l) #[] #[]] }, W1, gf, #[.func (.yield l) #[] #[]] ++ lb, W1, ?_, ?_, fun _ _ => trivial, ?_, (fun h => by cases h), ?_⟩
  · rw [hW1, hD, hl, hr0]
    exact run_enterLoop_outer _ _ _ _ _
  · simp only [resolve, hg]
    simp [go_sem]
  · simp [invoke, go_sem, eg]
  · refine (hseq l (fun pre W => I pre W ∧ Kept2 D l r0 W) (fun pre W => Ix pre W ∧ Kept2 D l { r0 with state := .done, pending := some .ret } W) W1 hB1
      (fun s A B h hc => ⟨hIc s A B h.1 hc, hCl A B l _ hc hlw h.2.1, hCl A B D _ hc hDw h.2.2⟩) ?_ ⟨hI1, hk1⟩).mono ?_
    · rintro pre x W ⟨hi, hk⟩ hlen
      have hlt := (Array.getElem?_eq_some_iff.1 hk.1).1
      have hpar : r0.params = #[p] := by rw [hr0]
      have hy := run_yield (P := P) (args := #[enc x]) hk.1 (by rw [hpar]; rfl)
      have ht : (r0.params.zip #[enc x]).foldl (fun t (q, v) => t.setIfInBounds q v) r0.tmps = a.tmps.setIfInBounds p (enc x) := by rw [hr0]; simp [Array.zip]
      rw [ht, show r0.assign = assign by rw [hr0], show r0.body = body by rw [hr0], show r0.fn = fn by rw [hr0]] at hy
      refine ⟨fn, _, assign, body, hy, roundIn_of_wpIn hfn (hassign l x W _ ⟨_, run_beginRound hk.1 (by rw [hr0]), ?_⟩)⟩
      obtain ⟨W2, hW2⟩ : ∃ W2, W2 = W.putObj l (.loop { r0 with state := .busy }) := ⟨_, rfl⟩
      have hk2 : Kept2 D l { r0 with state := .busy } W2 := hW2 ▸ hk.put _ hne
      have hp2 : Kp W W2 := hW2 ▸ hKp W l _ hlw hlt
      have hi2 : I pre W2 := hW2 ▸ hIp _ _ _ _ _ hi hlw hk.1 rfl
      rw [← hW2]
      refine wpIn_mono (hbody l pre x W2 hi2 hlen) ?_
      rintro e a3 W3 hend
      cases e with
      | normal =>
        obtain ⟨ho, hp3, hi3⟩ := hend
        have hk3 := hk2.others ho
        have hr : ({ ({ r0 with state := .busy } : Loop) with state := if (none : Option Code).isNone then .ready else .done, pending := none } : Loop) = r0 := by rw [hr0]; rfl
        have he := run_endRound (P := P) none hk3.1
        rw [hr] at he
        exact ⟨_, _, he, .inl ⟨rfl, ⟨hIp _ _ _ _ _ hi3 hlw hk3.1 rfl, hk3.put _ hne⟩, hKt (hKt hp2 hp3) (hKp W3 l _ hlw (Array.getElem?_eq_some_iff.1 hk3.1).1)⟩⟩
      | ret =>
        obtain ⟨ho, hx3⟩ := hend
        have hk3 := hk2.others ho
        exact ⟨_, _, run_endRound (P := P) (some .ret) hk3.1, .inr ⟨rfl, hXp _ _ _ _ _ hx3 hlw hk3.1 rfl, hk3.put _ hne⟩⟩
      | exit id => exact hend.elim
      | goto t => exact hend.elim
      | panic c => exact hend.elim
      | outgrown => exact hend.elim
    · rintro e W2 ⟨⟨v, rfl⟩, h | h⟩
      · obtain ⟨xs, hS, hi, hk⟩ := h
        have he := run_endLoop (P := P) hk.1 (by rw [hr0]; simp)
        rw [show r0.pending = none by rw [hr0]] at he
        exact ⟨none, _, he, hdone D xs _ hDw hS (hIp _ _ _ _ _ hi hlw hk.1 rfl) ((World.putObj_heap_other hne.symm).trans hk.2)⟩
      · obtain ⟨pre, hsp, hx, hk⟩ := h
        exact ⟨some .ret, _, run_endLoop (P := P) hk.1 (by simp), hstop D pre _ hDw hsp (hXp _ _ _ _ _ hx hlw hk.1 rfl) ((World.putObj_heap_other hne.symm).trans hk.2)⟩
end
end Go.Proofs.Ytmhbkilpllgchaa
