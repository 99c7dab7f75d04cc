/- What every claim of this seat needs between the row and the walk: arguments read, results told, what stays. -/
import Derived.Test.YtmhbkilpllgchaaGreatDoorRows
import Derived.Test.YtmhbkilpllgchaaGreatDoorMem
import Derived.ChangeSlices
import Derived.SliceStrings
import Derived.Carry
import Derived.ProofKit
import Derived.OpenShut
import Derived.SizedLaws
import Derived.ChangeMaps5
import Derived.ChangeArms
import Derived.Below
import Derived.ChangeSame
namespace Go.Proofs.YtmhbkilpllgchaaGreatDoor
open Go.ChangeShapes Go.WideShapes Go.ChangeAt Go.RowKit
set_option linter.unusedVariables false

theorem own : ownKnob Tryz.prog.godebug = none := by kernel_rfl
theorem laidOut : laidOutB Tryz.prog = true := by kernel_rfl
theorem cells3 : Tryz.prog.cellsOf 3 = 1 := by kernel_rfl
theorem cells9 : Tryz.prog.cellsOf 9 = 1 := by kernel_rfl
theorem bytes3 : Tryz.prog.bytesOf 3 = 8 := by kernel_rfl
theorem bytes9 : Tryz.prog.bytesOf 9 = 16 := by kernel_rfl

/-- A slice that reads as these strings. -/
def Strs (w : World) (pa : Option Addr) (ss : List ByteArray) : Prop :=
  (pa = none → ss = []) ∧ ∀ a, pa = some a → ∀ j, j < ss.length → (a.add j).block < w.heap.size ∧ w.cell? (a.add j) = some (.string (ss.getD j ByteArray.empty))
theorem Strs.below {w w' : World} {pa : Option Addr} {ss : List ByteArray} (h : Strs w pa ss) (hb : Below w.heap.size w w') : Strs w' pa ss :=
  ⟨h.1, fun a ha j hj => ⟨Nat.lt_of_lt_of_le (h.2 a ha j hj).1 hb.size, (hb.cell (h.2 a ha j hj).1).trans (h.2 a ha j hj).2⟩⟩
theorem Strs.at {w : World} {pa : Option Addr} {ss : List ByteArray} (h : Strs w pa ss) {j : Nat} (hj : j < ss.length) : ∃ a, pa = some a ∧ (a.add j).block < w.heap.size ∧ w.cell? (a.add j) = some (.string (ss.getD j ByteArray.empty)) := by
  cases pa with
  | none => have := h.1 rfl; rw [this] at hj; cases hj
  | some a => exact ⟨a, rfl, h.2 a rfl j hj⟩

/-- A slice that reads as these numbers. -/
def Ints (w : World) (pa : Option Addr) (zs : List Int) : Prop :=
  (pa = none → zs = []) ∧ ∀ a, pa = some a → ∀ j, j < zs.length → (a.add j).block < w.heap.size ∧ w.cell? (a.add j) = some (.int .i64 (zs.getD j 0))
theorem Ints.below {w w' : World} {pa : Option Addr} {ss : List Int} (h : Ints w pa ss) (hb : Below w.heap.size w w') : Ints w' pa ss :=
  ⟨h.1, fun a ha j hj => ⟨Nat.lt_of_lt_of_le (h.2 a ha j hj).1 hb.size, (hb.cell (h.2 a ha j hj).1).trans (h.2 a ha j hj).2⟩⟩
theorem Ints.at {w : World} {pa : Option Addr} {ss : List Int} (h : Ints w pa ss) {j : Nat} (hj : j < ss.length) : ∃ a, pa = some a ∧ (a.add j).block < w.heap.size ∧ w.cell? (a.add j) = some (.int .i64 (ss.getD j 0)) := by
  cases pa with
  | none => have := h.1 rfl; rw [this] at hj; cases hj
  | some a => exact ⟨a, rfl, h.2 a rfl j hj⟩

section
variable {H : Type} {enc : TypeId × Value → H} {P : Program}
theorem post_of_below {f : Func} {s : ChangeSpec} {apart fresh handsOn again : Bool} {W W' : World} {args : Array Value} {v : Value} {ds gs : List (DataW H)} {before pa pv : List MemPlace}
    (hW : DataW.Whole enc P f.params.toList s.vars apart W args.toList ds gs before)
    (hres : ∀ (b : Nat) (sp : Nat → Bool) (hd : Bool), DataW.TrodAll enc P W' b sp hd f.resultTypes.toList (v.resultList f.resultTypes.size) (s.fn H (ds ++ gs)).results [])
    (hargs : ∀ sp : Nat → Bool, (∀ p ∈ before, sp p.block = true) → DataW.TrodAll enc P W' 0 sp true f.params.toList args.toList (s.fn H (ds ++ gs)).args pa)
    (hvars : ∀ sp : Nat → Bool, (∀ p ∈ before, sp p.block = true) → DataW.TrodVars enc P W' sp s.vars (s.fn H (ds ++ gs)).vars pv)
    (hps : before = pa ++ pv) (hb : Below W.heap.size W W')
    (hok : ∀ (j : Nat) (t : TypeId) (r : Value), f.resultTypes[j]? = some t → (v.resultList f.resultTypes.size)[j]? = some r → Value.okWide P W' .any 0 t r) :
    s.post enc P f apart fresh handsOn again W args v W' := by
  have hlt : ∀ p ∈ before, p.block < W.heap.size := fun p hp => hW.lt p hp
  have hold : ∀ p ∈ before, (fun b => decide (b < W.heap.size)) p.block = true := fun p hp => by simpa using hlt p hp
  refine ⟨ds, gs, before, [], pa, pv, hW, hres _ _ _, hargs _ hold, hvars _ hold, World.keptBut_mono (fun p hp => ⟨hp, ?_⟩) (hb.frame (· ∈ before)), fun _ => ?_⟩
  · rw [hps, List.mem_append] at hp
    exact Or.inr hp
  · obtain ⟨_, _, _, _, _, hz, hn⟩ := hW
    refine ⟨hok, _, _, ([] ++ pa) ++ pv, ⟨[] ++ pa, pv, trodAll_append (hargs _ (fun _ _ => rfl)) (hres _ _ _), hvars _ (fun _ _ => rfl), rfl, ?_, ?_⟩, ?_⟩
    · intro b off hp
      have hin : MemPlace.cell b off ∈ before := by rw [hps]; simpa using hp
      rw [hb.frozen (hlt _ hin)]
      exact hz b off hin
    · intro ha
      have := hn ha
      rw [hps] at this
      simpa using this
    · intro p hp _
      rw [hps]
      simpa using hp
theorem open_text {r : Reach} {b0 base : Nat} {spare : Nat → Bool} {held : Bool} {w : World} {t : TypeId} {v : Value} {d : DataW H} {ps : List MemPlace} (ht : P.underlying t = some .string) (hval : Value.okWide P w r b0 t v) (hd : DataW.Trod enc P w base spare held t v d ps) :
    ∃ s : ByteArray, v = .string s ∧ d = .lit (.string s.data.toList) ∧ ps = [] ∧ s.size ≤ maxLen := by
  obtain ⟨s, rfl⟩ := okWide_string ht hval
  obtain ⟨fuel, hf⟩ := hd
  obtain ⟨s', h, hx, hw⟩ := DataW.trod_string ht hf
  simp only [Value.cells, List.cons.injEq, Value.string.injEq, and_true] at h
  subst h
  simp only [Prod.mk.injEq] at hx
  exact ⟨s, rfl, hx.1, hx.2, hw⟩
theorem shut_text {base : Nat} {sp : Nat → Bool} {held : Bool} {w : World} {t : TypeId} {s : ByteArray} (ht : P.underlying t = some .string) (hs : s.size ≤ maxLen) : DataW.Trod enc P w base sp held t (.string s) (.lit (.string s.data.toList)) [] :=
  ⟨1, by simp [DataW.trod, Value.cells, ht, hs]⟩
theorem int_in {n : Int} (h : (Lit.int .i64 n).wf = true) : -9223372036854775808 ≤ n ∧ n ≤ 9223372036854775807 := by
  simpa [Lit.wf, IntKind.min, IntKind.max, IntKind.signed, IntKind.bits] using h

theorem weights_strs (e : TypeId) (ss : List ByteArray) : ∀ s ∈ ss, s.size ∈ DataW.weightsAll (H := H) P e (strs ss) := by
  induction ss with
  | nil => intro s hs; cases hs
  | cons a ss ih =>
    intro s hs
    simp only [strs, List.map_cons, DataW.weightsAll, List.mem_append]
    rcases List.mem_cons.1 hs with rfl | hs
    · left; simp [DataW.weights]
    · right; exact ih s hs
/-- A []string among the arguments: the strings up to its length; its elements are no longer than may be. -/
theorem open_texts {ts : List TypeId} {ds : List (DataW H)} (hsz : (DataW.weightsEach P ts ds).all (· ≤ reachBytes) = true) {b0 : Nat} {r : Reach} {j : Nat} {t e : TypeId} {d : DataW H} {v : Value} {w : World} {ps : List MemPlace}
    (htj : ts[j]? = some t) (hdj : ds[j]? = some d) (ht : P.underlying t = some (.slice e)) (he : P.underlying e = some .string) (hc : P.cellsOf e = 1) (hby : P.bytesOf e = 16)
    (hval : Value.okWide P w r b0 t v) (h : DataW.Trod enc P w 0 (fun _ => true) true t v d ps) (hlt : ∀ p ∈ ps, p.block < w.heap.size) :
    ∃ pa ss c, v = .slice pa ss.length c ∧ Strs w pa ss ∧ ss.length * 16 ≤ 140737488351232 ∧ ∀ j, j < ss.length → (ss.getD j ByteArray.empty).size ≤ 140737488351232 := by
  obtain ⟨pa, n, c, rfl⟩ := okWide_slice ht hval
  obtain ⟨fuel, hf⟩ := h
  rcases open_strings ht he hc hf with ⟨hcs, hx⟩ | ⟨a, len', cap', ss, hcs, _, hl, hm, hz, hx, hcell, hsizes⟩
  · simp [Value.cells] at hcs
    obtain ⟨rfl, rfl, rfl⟩ := hcs
    exact ⟨none, [], 0, rfl, ⟨fun _ => rfl, fun a e => (by cases e)⟩, by simp, fun j hj => (by cases hj)⟩
  · simp [Value.cells] at hcs
    obtain ⟨rfl, rfl, rfl⟩ := hcs
    simp only [if_true] at hz
    have hd : d = .slice (strs (ss.take n)) (strs (ss.drop n)) := congrArg Prod.fst hx
    have htl : (ss.take n).length = n := by rw [List.length_take]; omega
    rw [hd] at hdj
    have hs := sized_slice hsz htj hdj ht
    rw [hby] at hs
    have hr : reachBytes = 140737488351232 := by decide
    have e1 : (strs (H := H) (ss.take n)).length = n := by simp only [strs, List.length_map]; exact htl
    rw [e1, hr] at hs
    refine ⟨some a, ss.take n, c, by rw [htl], ⟨(fun e => by cases e), fun b e j hj => ?_⟩, by rw [htl]; omega, fun j hj => ?_⟩
    · injection e with e
      subst e
      rw [htl] at hj
      have hc' := hcell j (by omega)
      rw [show (ss.take n).getD j ByteArray.empty = ss.getD j ByteArray.empty by simp [List.getD, hj]]
      exact ⟨World.block_lt_of_cell? w _ hc', hc'⟩
    · have hmem : (ss.take n).getD j ByteArray.empty ∈ ss.take n := by
        rw [List.getD, List.getElem?_eq_getElem hj]
        exact List.getElem_mem hj
      have := List.all_eq_true.1 hsz _ (DataW.weights_mem_each htj hdj ((ss.take n).getD j ByteArray.empty).size (by
        simp only [DataW.weights, ht, List.mem_cons, List.mem_append]
        exact Or.inr (Or.inl (weights_strs e _ _ hmem))))
      rw [← hr]
      simpa using this
/-- A []int among the arguments. -/
theorem open_nums {ts : List TypeId} {ds : List (DataW H)} (hsz : (DataW.weightsEach P ts ds).all (· ≤ reachBytes) = true) {b0 : Nat} {r : Reach} {j : Nat} {t e : TypeId} {d : DataW H} {v : Value} {w : World} {ps : List MemPlace}
    (htj : ts[j]? = some t) (hdj : ds[j]? = some d) (ht : P.underlying t = some (.slice e)) (he : P.underlying e = some (.int .i64)) (hc : P.cellsOf e = 1) (hby : P.bytesOf e = 8)
    (hval : Value.okWide P w r b0 t v) (h : DataW.Trod enc P w 0 (fun _ => true) true t v d ps) :
    ∃ pa zs c, v = .slice pa zs.length c ∧ Ints w pa zs ∧ zs.length * 8 ≤ 140737488351232 ∧ ∀ j, j < zs.length → -9223372036854775808 ≤ zs.getD j 0 ∧ zs.getD j 0 ≤ 9223372036854775807 := by
  obtain ⟨pa, n, c, rfl⟩ := okWide_slice ht hval
  obtain ⟨fuel, hf⟩ := h
  rcases open_ints ht he hc hf with ⟨hcs, hx⟩ | ⟨a, len', cap', zs, hcs, _, hl, hm, hz, hx, hcell, hwz⟩
  · simp [Value.cells] at hcs
    obtain ⟨rfl, rfl, rfl⟩ := hcs
    exact ⟨none, [], 0, rfl, ⟨fun _ => rfl, fun a e => (by cases e)⟩, by simp, fun j hj => (by cases hj)⟩
  · simp [Value.cells] at hcs
    obtain ⟨rfl, rfl, rfl⟩ := hcs
    simp only [if_true] at hz
    have htl : (zs.take n).length = n := by rw [List.length_take]; omega
    have hd := congrArg Prod.fst hx
    simp only at hd
    rw [hd] at hdj
    have hs := sized_slice hsz htj hdj ht
    rw [hby] at hs
    have hr : reachBytes = 140737488351232 := by decide
    rw [hr] at hs
    refine ⟨some a, zs.take n, c, by rw [htl], ⟨(fun e => by cases e), fun b e j hj => ?_⟩, ?_, fun j hj => ?_⟩
    · injection e with e
      subst e
      rw [htl] at hj
      have hc' := hcell j (by omega)
      rw [show (zs.take n).getD j 0 = zs.getD j 0 by simp [List.getD, hj]]
      exact ⟨World.block_lt_of_cell? w _ hc', hc'⟩
    · rw [htl]
      simp only [lits, List.length_map, List.length_take, List.length_drop] at hs
      omega
    · have hmem : (zs.take n).getD j 0 ∈ zs := by
        rw [List.getD, List.getElem?_eq_getElem hj]
        exact List.mem_of_mem_take (List.getElem_mem hj)
      exact int_in (hwz _ hmem)
end
end Go.Proofs.YtmhbkilpllgchaaGreatDoor
