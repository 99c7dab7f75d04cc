/- The reference's store of objects: New, Len, Get. -/
import Derived.Test.YtmhbkilpllgchaaObjD
namespace Go.Proofs.Ytmhbkilpllgchaa
open Go.RowKit BigFrame
set_option linter.unusedVariables false
set_option linter.unusedSimpArgs false

def kcells (p : List UInt8 × ByteArray) : List Value := (bcells p.1).toList ++ [.string p.2]
theorem kcells_length {p : List UInt8 × ByteArray} (h : p.1.length = 32) : (kcells p).length = 33 := by
  rw [kcells, List.length_append, Array.length_toList, bcells_size, h]; rfl
theorem flat_length : ∀ kv : KV, (∀ p ∈ kv, p.1.length = 32) → (kv.flatMap kcells).length = kv.length * 33
  | [], _ => rfl
  | p :: kv, h => by
    rw [List.flatMap_cons, List.length_append, kcells_length (h p (by simp)), flat_length kv (fun q hq => h q (List.mem_cons_of_mem _ hq)), List.length_cons]
    omega
theorem flat_get : ∀ (kv : KV) (hl : ∀ p ∈ kv, p.1.length = 32) (j : Nat) (hj : j < kv.length) (i : Nat) (hi : i < 33), (kv.flatMap kcells)[j * 33 + i]? = (kcells kv[j])[i]?
  | [], _, j, hj, _, _ => by cases hj
  | p :: kv, h, 0, _, i, hi => by
    rw [List.flatMap_cons, List.getElem?_append_left (by rw [kcells_length (h p (by simp))]; omega)]
    simp
  | p :: kv, h, j + 1, hj, i, hi => by
    rw [List.flatMap_cons, List.getElem?_append_right (by rw [kcells_length (h p (by simp))]; omega), kcells_length (h p (by simp)), show (j + 1) * 33 + i - 33 = j * 33 + i by omega]
    exact flat_get kv (fun q hq => h q (List.mem_cons_of_mem _ hq)) j (by simpa using hj) i hi
theorem findL_append (a b : KV) (L : List UInt8) : findL (a ++ b) L = (findL a L).or (findL b L) := by
  unfold findL
  rw [List.find?_append]
  cases List.find? (fun p => decide (p.1 = L)) a <;> simp

/-- The reference's store, and what it holds. -/
structure RefAt (w : World) (base Br most : Nat) (kv : KV) : Prop where
  ex : ∃ p c, Blk w Br 102 #[.int .i64 (most : Int), .slice p kv.length c] ∧ w.ownsRow base 107 33 (.slice p kv.length c) kv.length (kv.flatMap kcells) ∧ (Value.slice p kv.length c).ownBlock ≠ some Br
  ge : base ≤ Br
  len : ∀ p ∈ kv, p.1.length = 32
  top : most ≤ 1024
  few : kv.length ≤ most
theorem RefAt.lt {w : World} {base Br most : Nat} {kv : KV} (h : RefAt w base Br most kv) : Br < w.heap.size := by
  obtain ⟨p, c, hB, _⟩ := h.ex
  exact hB.lt
theorem RefAt.below {w w' : World} {base Br most : Nat} {kv : KV} (h : RefAt w base Br most kv) (hb : Below w.heap.size w w') : RefAt w' base Br most kv := by
  obtain ⟨p, c, hB, hR, hne⟩ := h.ex
  exact ⟨⟨p, c, hB.below hb hB.lt, hR.kept (grown_below hb (Nat.le_refl _) none) (by cases (Value.slice p kv.length c).ownBlock <;> simp), hne⟩, h.ge, h.len, h.top, h.few⟩
theorem RefAt.grown {w w' : World} {base Br most Bm : Nat} {kv : KV} (h : RefAt w base Br most kv) (hg : w.grownBy w' (some Bm)) (hlt : Bm < base) : RefAt w' base Br most kv := by
  obtain ⟨p, c, hB, hR, hne⟩ := h.ex
  have hge := h.ge
  exact ⟨⟨p, c, hB.grown hg (fun e => by have := Option.some.inj e; omega), hR.kept hg (.inr (fun e => by have := (hR.lt Bm e).1; omega)), hne⟩, h.ge, h.len, h.top, h.few⟩

set_option maxRecDepth 100000 in
set_option maxHeartbeats 2000000 in
theorem rnew_no (m : Int) (w : World) (h : m < 1 ∨ 1024 < m) :
    Calls Try.prog 54 #[.int .i64 m] w fun e w' => e = .returned (.tuple #[.pointer none, .int .i64 1100]) ∧ w = w' := by
  rcases (show m < 1 ∨ (1 ≤ m ∧ 1024 < m) by omega) with h | ⟨h1, h2⟩
  all_goals
    go_enter Try.func54, Try.ntmps54
    go_wp2
    exact bodyPost_ret (v := .tuple #[.pointer none, .int .i64 1100]) (by simp [results, Try.f54, go_sem]) rfl ⟨rfl, rfl⟩
set_option maxRecDepth 100000 in
set_option maxHeartbeats 2000000 in
theorem rnew_yes (m : Nat) (w : World) (h1 : 1 ≤ m) (h2 : m ≤ 1024) :
    Calls Try.prog 54 #[.int .i64 (m : Int)] w fun e w' => ∃ Br, e = .returned (.tuple #[.pointer (some ⟨Br, 0, none⟩), .int .i64 0]) ∧ RefAt w' w.heap.size Br m [] ∧ Below w.heap.size w w' := by
  have g1 : (1 : Int) ≤ (m : Int) := by omega
  have g2 : (m : Int) ≤ 1024 := by omega
  go_enter Try.func54, Try.ntmps54
  go_wp2
  refine bodyPost_ret (v := .tuple #[.pointer (some ⟨w.heap.size, 0, none⟩), .int .i64 0]) (by simp [results, Try.f54, go_sem]) rfl ?_
  refine ⟨w.heap.size, rfl, ⟨⟨none, 0, Blk.new w 102 _, World.ownsRow_nil _ _ _ _, by simp [Value.ownBlock]⟩, Nat.le_refl _, fun p hp => (by cases hp), h2, by simp⟩, (Below.refl _ _).alloc (Nat.le_refl _) _⟩

set_option maxRecDepth 100000 in
set_option maxHeartbeats 2000000 in
theorem rlen_any {w : World} {base Br most : Nat} {kv : KV} (h : RefAt w base Br most kv) :
    Calls Try.prog 64 #[.pointer (some ⟨Br, 0, none⟩)] w fun e w' => e = .returned (.int .i64 (kv.length : Int)) ∧ w = w' := by
  obtain ⟨p, c, hB, hR, hne⟩ := h.ex
  have hc1 : w.cell? ⟨Br, 1, none⟩ = some (.slice p kv.length c) := hB.cell 1
  go_enter Try.func64, Try.ntmps64
  go_wp2
  go_ret
  exact ⟨rfl, rfl⟩

set_option maxRecDepth 100000 in
set_option maxHeartbeats 4000000 in
theorem rget_any {w : World} {base Br most : Nat} {kv : KV} (h : RefAt w base Br most kv) (L : List UInt8) (hL : L.length = 32) :
    Calls Try.prog 62 #[.pointer (some ⟨Br, 0, none⟩), .agg (bcells L)] w fun e w' => e = .returned (.tuple #[.string (getS kv L), .int .i64 (getE kv L)]) ∧ Below w.heap.size w w' := by
  have hb1 : Below w.heap.size w (w.alloc (.cells (bcells L) 29)) := (Below.refl _ _).alloc (Nat.le_refl _) _
  have hD : Blk (w.alloc (.cells (bcells L) 29)) w.heap.size 29 (bcells L) := Blk.new _ _ _
  have hr := h.below hb1
  obtain ⟨n, en⟩ : ∃ n, n = kv.length := ⟨_, rfl⟩
  have hn : n ≤ 1024 := by have := h.few; have := h.top; omega
  have H := Lib.hid (And.intro h.len (And.intro en hL))
  obtain ⟨p, c, hB, hR, hne⟩ := hr.ex
  rw [← en] at hB hR
  clear h hr hne en hL
  obtain ⟨VS, eVS⟩ : ∃ S, S = getS kv L := ⟨_, rfl⟩
  obtain ⟨VE, eVE⟩ : ∃ E, E = getE kv L := ⟨_, rfl⟩
  rw [← eVS, ← eVE]
  have EV := Lib.hid (And.intro eVS eVE)
  clear eVS eVE
  go_enter Try.func62, Try.ntmps62
  go_wp2
  obtain ⟨w1, e1⟩ : ∃ w1, w1 = w.alloc (.cells (bcells L) 29) := ⟨_, rfl⟩
  obtain ⟨G, eG⟩ : ∃ G, G = w.heap.size := ⟨_, rfl⟩
  rw [← e1] at hb1 hD hB hR ⊢
  rw [← eG] at hb1 hD ⊢
  have hGw : G ≤ w1.heap.size := by rw [eG]; exact hb1.size
  have EG := Lib.hid eG
  clear e1 eG
  go_loopw [6] (fun i wr => ∃ j : Nat, i = .int .i64 (j : Int) ∧ j ≤ n ∧ Hid (findL (kv.take j) L = none) ∧ Below w1.heap.size w1 wr) (fun i _ => n - (intOf i).toNat)
  case atStart => exact ⟨0, rfl, by omega, Lib.hid rfl, Below.refl _ _⟩
  case round =>
    obtain ⟨j, rfl, hj, HF, hbr⟩ := hrel
    have hc1 : wr.cell? ⟨Br, 1, none⟩ = some (.slice p n c) := ((hB.below hbr hB.lt).cell 1).trans rfl
    by_cases h1 : j < n
    · have hjl : j < kv.length := by rw [← H.out.2.1]; exact h1
      obtain ⟨g, c', e1, _, hgl, _, _⟩ := row_form hR (by intro e; injection e with _ e _; omega)
      injection e1 with e1 _ e2
      subst e1; subst e2
      obtain ⟨K, eK⟩ : ∃ K, K = kv[j].1 := ⟨_, rfl⟩
      obtain ⟨S, eS⟩ : ∃ S, S = kv[j].2 := ⟨_, rfl⟩
      have hKl : K.length = 32 := by rw [eK]; exact H.out.1 _ (List.getElem_mem hjl)
      have hat : ∀ i u, (kcells kv[j])[i]? = some u → w1.cell? ⟨g, j * 33 + i, none⟩ = some u := fun i u hu => by
        have hi : i < 33 := by
          have := (List.getElem?_eq_some_iff.1 hu).1
          rwa [kcells_length (H.out.1 _ (List.getElem_mem hjl))] at this
        have := hR.cells (g := g) rfl (j * 33 + i) u (by rw [flat_get kv H.out.1 j hjl i hi]; exact hu)
        rwa [Addr.add_mid, Nat.zero_add] at this
      have hrg : w1.rangeAt g (j * 33) (bcells K).toList := fun i v hv => hat i v (by
        have hi := (List.getElem?_eq_some_iff.1 hv).1
        rw [kcells, ← eK, List.getElem?_append_left hi]; exact hv)
      have hsc : w1.cell? ⟨g, j * 33 + 32, none⟩ = some (.string S) := hat 32 _ (by
        rw [kcells, ← eK, List.getElem?_append_right (by rw [Array.length_toList, bcells_size, hKl]; omega), Array.length_toList, bcells_size, hKl, eS]; rfl)
      have hrgx : ∀ x, (later wr x).rangeAt g (j * 33) (bcells K).toList := fun x i v hv => (((hbr.trans ((later_below wr x).mono hbr.size)).cell (p := ⟨g, _, none⟩) hgl)).trans (hrg i v hv)
      have hscx : ∀ x, (later wr x).cell? ⟨g, j * 33 + 32, none⟩ = some (.string S) := fun x => (((hbr.trans ((later_below wr x).mono hbr.size)).cell (p := ⟨g, _, none⟩) hgl)).trans hsc
      have hDx : ∀ x, (later wr x).rangeAt G 0 (bcells L).toList := fun x => range_of_blk (hD.below (hbr.trans ((later_below wr x).mono hbr.size)) hD.lt)
      have hcx : ∀ x, (later wr x).cell? ⟨Br, 1, none⟩ = some (.slice (some ⟨g, 0, none⟩) n c) := fun x => ((hB.below (hbr.trans ((later_below wr x).mono hbr.size)) hB.lt).cell 1).trans rfl
      have heq : ∀ w', (binOp .eql 29 (.agg (bcells K)) (.agg (bcells L))).run Try.prog w' = .ok (.bool (decide (K = L))) w' := fun w' => eql_bytes w' K L hKl H.out.2.2
      have heq2 : ∀ w', (Op.equalIn 10000 29 (.agg (bcells K)) (.agg (bcells L))).run Try.prog w' = .ok (decide (K = L)) w' := fun w' => run_equal_bytes w' K L hKl H.out.2.2
      have htk : findL (kv.take (j + 1)) L = if K = L then some S else none := by
        rw [List.take_succ_eq_append_getElem hjl, findL_append, HF.out, Option.none_or]
        rw [findL_cons, findL_nil, ← eK, ← eS]
      have hall : findL kv L = (findL (kv.take (j + 1)) L).or (findL (kv.drop (j + 1)) L) := by rw [← findL_append, List.take_append_drop]
      have HC := Lib.hid (And.intro hrgx (And.intro hDx (And.intro hKl (And.intro htk hall))))
      clear hat hrg hsc hrgx hDx hKl htk hall eK eS hjl
      by_cases hKL : K = L
      case' pos =>
        have hv : VS = S ∧ VE = 0 := by
          have h1 := HC.out.2.2.2.1
          have h2 := HC.out.2.2.2.2
          rw [if_pos hKL] at h1
          rw [h1, Option.some_or] at h2
          rw [EV.out.1, EV.out.2, getS, getE, h2]
          exact ⟨rfl, rfl⟩
        have HV := Lib.hid hv
        rw [decide_eq_true hKL] at heq heq2
        clear hv
      case' neg =>
        have hv : findL (kv.take (j + 1)) L = none := by rw [HC.out.2.2.2.1, if_neg hKL]
        have HV := Lib.hid hv
        rw [decide_eq_false hKL] at heq heq2
        clear hv
      all_goals
        clear hKL
        go_upto_region 4 with fail
        refine wp_region_later (by kernel_rfl) (by kernel_rfl) ?_
        repeat (first
          | (refine wpQuiet_ld_g (d := 23) g (j * 33) (bcells K).toList rfl rfl (by rintro _ ⟨x, rfl⟩; exact HC.out.1 x) Try.underlying29 rfl (by rw [size29, Array.length_toList, bcells_size, HC.out.2.2.1]) ?_; simp only [List.setIfInBounds_toArray, List.set_cons_succ, List.set_cons_zero, Array.toArray_toList])
          | (refine wpQuiet_ld_g (d := 24) G 0 (bcells L).toList rfl rfl (by rintro _ ⟨x, rfl⟩; exact HC.out.2.1 x) Try.underlying29 rfl (by rw [size29, Array.length_toList, bcells_size, H.out.2.2]) ?_; simp only [List.setIfInBounds_toArray, List.set_cons_succ, List.set_cons_zero, Array.toArray_toList])
          | (go_big_quiet_step (fail)))
        refine wpQuiet_nil ?_
        rintro _ ⟨x, rfl⟩
        have hbx := hbr.trans ((later_below wr x).mono hbr.size)
        have hcx' := hcx x
        have hscx' := hscx x
        go_wp2
      all_goals first
        | exact bodyPost_ret (v := .tuple #[.string S, .int .i64 0]) (by simp [results, Try.f62, go_sem]) rfl ⟨by rw [HV.out.1, HV.out.2], by rw [← EG.out]; exact hb1.trans (hbx.mono hGw)⟩
        | (go_roundw
           case rel => exact ⟨j + 1, by go_num, by omega, HV, hbx⟩
           case measure => simp [intOf]; omega)
    · obtain rfl : j = n := by omega
      have hv : findL kv L = none := by
        have := HF.out
        rwa [H.out.2.1, List.take_length] at this
      have hv2 : VS = ⟨#[]⟩ ∧ VE = 1101 := by rw [EV.out.1, EV.out.2, getS, getE, hv]; exact ⟨rfl, rfl⟩
      obtain ⟨rfl, rfl⟩ := hv2
      go_wp2
      exact bodyPost_ret (v := .tuple #[.string ⟨#[]⟩, .int .i64 1101]) (by simp [results, Try.f62, go_sem]) rfl ⟨rfl, by rw [← EG.out]; exact hb1.trans (hbr.mono hGw)⟩
end Go.Proofs.Ytmhbkilpllgchaa
