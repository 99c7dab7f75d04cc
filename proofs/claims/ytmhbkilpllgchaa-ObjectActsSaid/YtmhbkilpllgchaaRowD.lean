/- A slice of structs of a number, a text, an array of 32 bytes among the arguments. -/
import Derived.Test.YtmhbkilpllgchaaRowC
import Derived.Deep.Slices
import Derived.Deep.MidRow
namespace Go.Proofs.Ytmhbkilpllgchaa
open Go.ChangeShapes Go.WideShapes Go.ChangeAt Go.RowKit
set_option linter.unusedVariables false

structure ActD where
  z : Int
  s : ByteArray
  L : List UInt8
instance : Inhabited ActD := ⟨⟨0, ⟨#[]⟩, []⟩⟩
def ActD.cells (a : ActD) : List Value := .int .i64 a.z :: .string a.s :: (bcells a.L).toList
/-- A slice that reads as these structs. -/
def Acts (w : World) (pa : Option Addr) (n : Nat) (f : Nat → ActD) : Prop :=
  (pa = none → n = 0) ∧ ∀ a, pa = some a → ∀ j, j < n → a.spot = none ∧ a.block < w.heap.size ∧ w.rangeAt a.block (a.off + j * 34) (f j).cells
theorem Acts.below {w w' : World} {pa : Option Addr} {n : Nat} {f : Nat → ActD} (h : Acts w pa n f) (hb : Below w.heap.size w w') : Acts w' pa n f :=
  ⟨h.1, fun a ha j hj => ⟨(h.2 a ha j hj).1, Nat.lt_of_lt_of_le (h.2 a ha j hj).2.1 hb.size, fun i v hv => (hb.cell (p := ⟨a.block, _, none⟩) (h.2 a ha j hj).2.1).trans ((h.2 a ha j hj).2.2 i v hv)⟩⟩

section
variable {H : Type} {enc : TypeId × Value → H}
set_option maxRecDepth 100000 in
theorem open_hash_cells {W : World} {base : Nat} {sp : Nat → Bool} {held : Bool} {cs : List Value} {x : DataW H × List MemPlace} {fuel : Nat}
    (hf : DataW.trod enc Try.prog W base sp held fuel 29 cs = some x) : ∃ L : List UInt8, cs = (bcells L).toList ∧ L.length = 32 := by
  refine ⟨cs.map byteOf, ?_⟩
  cases fuel with
  | zero => simp [DataW.trod] at hf
  | succ m =>
    rw [DataW.trod_step] at hf
    unfold DataW.trodStep at hf
    simp only [arr29.hu] at hf
    split at hf
    · rename_i hn
      rw [cells29] at hn
      refine ⟨?_, by simp [hn]⟩
      simp only [Option.map_eq_some_iff] at hf
      obtain ⟨ys, hy, e1⟩ := hf
      have each := mapM_each hy
      apply List.ext_getElem?
      intro i
      by_cases hi : i < 32
      · obtain ⟨z, hz⟩ := each i (by first | exact List.mem_range.2 hi | (rw [List.mem_range'_1]; omega))
        obtain ⟨a, ea, _, wa⟩ := DataW.trod_int Try.underlying5 hz
        have hxi : cs[i]? = some (.int .u8 a) := by
          rw [cells5, Nat.mul_one] at ea
          have h2 : i < cs.length := by omega
          rw [List.drop_eq_getElem_cons h2] at ea
          simp only [List.take_succ_cons, List.take_zero, List.cons.injEq, and_true] at ea
          rw [← ea]
          simp [h2]
        have hw : 0 ≤ a ∧ a ≤ 255 := by simpa [Lit.wf, IntKind.min, IntKind.max, IntKind.signed, IntKind.bits] using wa
        have hb : B (byteOf (.int .u8 a)) = .int .u8 a := by
          show Value.int .u8 _ = _
          rw [byteOf, UInt8.toNat_ofNat']
          congr 1
          omega
        rw [hxi, bcells]
        simp [hxi, hb]
      · rw [List.getElem?_eq_none (by omega), List.getElem?_eq_none (by simp [bcells, hn]; omega)]
    · cases hf

theorem weights_mem_all {P : Program} {e : TypeId} {l : List (DataW H)} {d : DataW H} (hd : d ∈ l) {n : Nat} (hn : n ∈ d.weights P e) : n ∈ DataW.weightsAll P e l := by
  induction l with
  | nil => cases hd
  | cons a l ih =>
    simp only [DataW.weightsAll, List.mem_append]
    rcases List.mem_cons.1 hd with rfl | hd
    · exact .inl hn
    · exact .inr (ih hd)

set_option maxRecDepth 100000 in
theorem open_acts {ts : List TypeId} {ds : List (DataW H)} (hsz : (DataW.weightsEach Try.prog ts ds).all (· ≤ reachBytes) = true) {b0 : Nat} {r : Reach} {j : Nat} {t e : TypeId} {f0 f1 f2 : Field} {d : DataW H} {v : Value} {w : World} {ps : List MemPlace}
    (htj : ts[j]? = some t) (hdj : ds[j]? = some d) (ht : Try.prog.underlying t = some (.slice e)) (he : Try.prog.underlying e = some (.struct #[f0, f1, f2])) (hce : Try.prog.cellsOf e = 34)
    (h0 : f0.offset = 0 ∧ f0.type = 3) (h1 : f1.offset = 1 ∧ f1.type = 9) (h2 : f2.offset = 2 ∧ f2.type = 29)
    (hval : Value.okWide Try.prog w r b0 t v) (h : DataW.Trod enc Try.prog w 0 (fun _ => true) true t v d ps) (hlt : ∀ p ∈ ps, p.block < w.heap.size) :
    ∃ pa n c f, v = .slice pa n c ∧ Acts w pa n f ∧ n ≤ maxLen ∧ ∀ j, j < n → (f j).L.length = 32 ∧ (f j).s.size ≤ 140737488351232 ∧ -9223372036854775808 ≤ (f j).z ∧ (f j).z ≤ 9223372036854775807 := by
  obtain ⟨pa, n, c, rfl⟩ := okWide_slice ht hval
  obtain ⟨fuel, hf⟩ := h
  rcases Deep.open_slice ht hf with ⟨hcs, hx⟩ | ⟨a, len', cap', m, k, D, Pl, hcs, _, hl, hm, hmm, hx, hcell⟩
  · simp [Value.cells] at hcs
    obtain ⟨rfl, rfl, rfl⟩ := hcs
    exact ⟨none, 0, 0, fun _ => default, rfl, ⟨fun _ => rfl, fun a e => (by cases e)⟩, by simp [maxLen], fun j hj => (by cases hj)⟩
  · simp [Value.cells] at hcs
    obtain ⟨rfl, rfl, rfl⟩ := hcs
    simp only [if_true] at hmm
    subst hmm
    rw [hce] at hx hcell
    have each : ∀ i, i < n → ∃ q : ActD, (a.spot = none ∧ a.block < w.heap.size ∧ w.rangeAt a.block (a.off + i * 34) q.cells) ∧ q.L.length = 32 ∧ q.s.size ≤ 140737488351232 ∧ -9223372036854775808 ≤ q.z ∧ q.z ≤ 9223372036854775807 := by
      intro i hi
      obtain ⟨cs', g1, g2⟩ := hcell i (by omega)
      obtain ⟨_, hlen, hc⟩ := World.cells?_some g1
      obtain ⟨xs, k', hk, hxy, _, hxl, hf⟩ := DataW.trod_struct he g2
      have e0 := hf 0 f0 rfl
      have e1 := hf 1 f1 rfl
      have e2 := hf 2 f2 rfl
      rw [h0.1, h0.2, cells3] at e0
      rw [h1.1, h1.2, cells9] at e1
      rw [h2.1, h2.2, cells29] at e2
      rw [List.getElem?_eq_getElem (by rw [hxl]; simp)] at e0 e1 e2
      obtain ⟨z, ez, ez2, wz⟩ := DataW.trod_int Try.underlying3 e0
      obtain ⟨s, es, es2, ws⟩ := DataW.trod_string Try.underlying9 e1
      obtain ⟨L, eL, hL⟩ := open_hash_cells e2
      have hcs : cs' = .int .i64 z :: .string s :: (bcells L).toList := by
        match cs', hlen with
        | c0 :: c1 :: rest, hlen =>
          simp only [List.drop_zero, List.take_succ_cons, List.take_zero, List.cons.injEq, and_true] at ez
          simp only [List.drop_succ_cons, List.drop_zero, List.take_succ_cons, List.take_zero, List.cons.injEq, and_true] at es
          simp only [List.drop_succ_cons, List.drop_zero] at eL
          rw [List.take_of_length_le (by simp only [List.length_cons] at hlen; omega)] at eL
          rw [ez, es, eL]
      have hspot : a.spot = none := by
        obtain ⟨cs0, g10, _⟩ := hcell 0 (by omega)
        obtain ⟨_, hlen0, hc0⟩ := World.cells?_some g10
        have h0' := hc0 0 (by omega)
        rw [Deep.add_add, List.getElem?_eq_getElem (by omega)] at h0'
        have h1' := World.cell?_spot h0'
        simpa [Addr.add] using h1'
      refine ⟨⟨z, s, L⟩, ⟨hspot, ?_, ?_⟩, hL, ?_, (int_in wz).1, (int_in wz).2⟩
      · have h0' := hc 1 (by omega)
        have : cs'[1]? = some (.string s) := by rw [hcs]; rfl
        rw [this] at h0'
        have := World.block_lt_of_cell? w _ h0'
        rw [Deep.add_add] at this
        unfold Addr.add at this
        simpa using this
      · intro q v hv
        have hq : q < 34 := by
          have := (List.getElem?_eq_some_iff.1 hv).1
          simp only [ActD.cells, List.length_cons, Array.length_toList, bcells_size, hL] at this
          omega
        have h0' := hc q hq
        rw [Deep.add_add] at h0'
        have e3 : a.add (i * 34 + q) = ⟨a.block, a.off + (i * 34 + q), none⟩ := by
          obtain ⟨b, o, sp⟩ := a
          have : sp = none := hspot
          subst this
          exact Addr.add_mid _ _ _
        rw [e3] at h0'
        rw [Nat.add_assoc, h0', hcs]
        exact hv
      · have hd : d = .slice ((List.range n).map D) ((List.range (m - n)).map fun j => D (n + j)) := congrArg Prod.fst hx
        rw [hd] at hdj
        have hr : reachBytes = 140737488351232 := by decide
        have hmem : D i ∈ (List.range n).map D := List.mem_map.2 ⟨i, List.mem_range.2 hi, rfl⟩
        have hDi : D i = .agg (xs.map (·.1)) := congrArg Prod.fst hxy
        have hw : s.size ∈ (D i).weights Try.prog e := by
          rw [hDi]
          simp only [DataW.weights, he]
          refine DataW.weights_mem_each (j := 1) (t := 9) (d := .lit (.string s.data.toList)) (by rw [List.getElem?_map]; show (some f1).map _ = some 9; rw [Option.map_some, h1.2]) (by
            rw [List.getElem?_map, List.getElem?_eq_getElem (by rw [hxl]; simp), es2]; rfl) _ ?_
          show s.size ∈ [s.data.toList.length]
          rw [Array.length_toList]
          exact List.mem_singleton.2 rfl
        have := List.all_eq_true.1 hsz _ (DataW.weights_mem_each htj hdj s.size (by
          simp only [DataW.weights, ht, List.mem_cons, List.mem_append]
          exact Or.inr (Or.inl (weights_mem_all hmem hw))))
        rw [← hr]
        exact of_decide_eq_true this
    obtain ⟨f, hf⟩ := Deep.choose_lt each
    exact ⟨some a, n, _, f, rfl, ⟨fun e => (by cases e), fun b e j hj => by injection e with e; subst e; exact (hf j hj).1⟩, by omega, fun j hj => (hf j hj).2⟩
end
end Go.Proofs.Ytmhbkilpllgchaa
