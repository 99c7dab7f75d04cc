/- The walk of FileObjects. -/
import Derived.Test.YtmhbkilpllgchaaFtX
import Derived.Test.YtmhbkilpllgchaaFtU
namespace Go.Proofs.Ytmhbkilpllgchaa
open Go.RowKit BigFrame
set_option linter.unusedVariables false
set_option linter.unusedSimpArgs false

theorem and_maskz (x : Int) (m : Nat) (hm : m < 9223372036854775808) : ∃ k : Nat, bits .and .i64 x (m : Int) = (k : Int) ∧ k ≤ m := by
  have h : bits .and .i64 x (m : Int) = IntKind.i64.wrap ((BitVec.ofInt 64 x &&& BitVec.ofInt 64 (m : Int)).toNat : Int) := rfl
  have h2 : (BitVec.ofInt 64 x &&& BitVec.ofInt 64 (m : Int)).toNat ≤ m := by
    rw [BitVec.toNat_and]
    refine Nat.le_trans Nat.and_le_right ?_
    rw [BitVec.toNat_ofInt]
    omega
  refine ⟨(BitVec.ofInt 64 x &&& BitVec.ofInt 64 (m : Int)).toNat, ?_, h2⟩
  rw [h, IntKind.wrap_i64]
  omega
theorem andz_4095 (x : Int) : ∃ k : Nat, bits .and .i64 x 4095 = (k : Int) ∧ k ≤ 4095 := and_maskz x 4095 (by decide)
/-- A block out of the file's bytes, as a text. -/
theorem blk_conv {w : World} {D : Nat} {L : List UInt8} (hD : Blk w D 5 (L.map B).toArray) {j lo : Nat} (hlo : lo = j * 64) (hj : j < (cutL 64 L).length) (n q : Nat) (hn : n = ((cutL 64 L)[j]).length) {S : ByteArray} (eS : S = ⟨((cutL 64 L)[j]).toArray⟩) :
    (convert 35 9 (.slice (some ⟨D, lo, none⟩) n q)).run Try.prog w = .ok (.string S) w := by
  obtain ⟨hc1, hc2⟩ := cutL_at (by decide) L hj
  obtain ⟨Cb, eC⟩ : ∃ Cb, Cb = (cutL 64 L)[j] := ⟨_, rfl⟩
  rw [← eC] at hc2 hn eS
  have hCn : Cb.length = min 64 (L.length - 64 * j) := by rw [hc2, List.length_take, List.length_drop]
  rw [hn, eS]
  refine run_convert_bytes_back w 35 9 5 ⟨D, lo, none⟩ q Cb Try.underlying35 Try.underlying5 Try.underlying9 (fun i hi => ?_)
  rw [Addr.add_mid, hD.cell, List.getElem?_toArray, List.getElem?_map]
  have : L[lo + i]? = some Cb[i] := by
    have h3 : Cb[i]? = some Cb[i] := List.getElem?_eq_getElem hi
    rw [← h3, hc2, List.getElem?_take_of_lt (by omega), List.getElem?_drop, hlo, Nat.mul_comm]
  rw [this]
  rfl
/-- The bytes behind j rounds. -/
def foM (k : Nat) (c : Int) (j : Nat) : List UInt8 := foL j c ++ List.replicate (k - j) 0
def foC (k : Nat) (c : Int) (j : Nat) : Array Value := ((foM k c j).map B).toArray
theorem foC_set (k : Nat) (c : Int) (j : Nat) (h : j < k) : (foC k c j).setIfInBounds j (B (foB c (j / 64))) = foC k c (j + 1) := by
  obtain ⟨n, hn⟩ : ∃ n, k - j = n + 1 := ⟨k - j - 1, by omega⟩
  have h2 : k - (j + 1) = n := by omega
  rw [foC, foC, List.setIfInBounds_toArray, ← List.map_set, foM, foM, hn, h2, List.set_append_right _ _ (by rw [foL_length]; exact Nat.le_refl _), foL_length, Nat.sub_self, List.replicate_succ, List.set_cons_zero, foL_succ, List.append_assoc]
  rfl
theorem foC_get (k : Nat) (c : Int) (j : Nat) (h : j < k) : (foC k c j)[j]? = some (B 0) := by
  obtain ⟨n, hn⟩ : ∃ n, k - j = n + 1 := ⟨k - j - 1, by omega⟩
  rw [foC, List.getElem?_toArray, List.getElem?_map, foM, hn, List.getElem?_append_right (by rw [foL_length]; exact Nat.le_refl _), foL_length, Nat.sub_self, List.replicate_succ]
  rfl
theorem foC_end (k : Nat) (c : Int) : foC k c k = ((foL k c).map B).toArray := by
  rw [foC, foM, Nat.sub_self, List.replicate_zero, List.append_nil]
theorem foC_zero (k : Nat) (c : Int) : foC k c 0 = ((List.replicate k 0).map B).toArray := rfl

theorem fo_wrap (c : Int) (j : Nat) : wrap64 ((j : Int) / 64 + c) % 256 = ((foB c (j / 64)).toNat : Int) := by
  have h := foB_wrap c (j / 64)
  have e : (((j / 64 : Nat) : Int)) = (j : Int) / 64 := by omega
  rw [e] at h
  rw [← h, IntKind.wrap_i64]
  simp only [IntKind.wrap, IntKind.bits, IntKind.signed]
  simp
  rw [wrap64]

set_option maxRecDepth 100000 in
set_option maxHeartbeats 8000000 in
theorem fileobjects_any (a b : Int) (w : World) (ha1 : -9223372036854775808 ≤ a) (ha2 : a ≤ 9223372036854775807) (hb1 : -9223372036854775808 ≤ b) (hb2 : b ≤ 9223372036854775807) :
    Calls Try.prog 19 #[.int .i64 a, .int .i64 b] w fun e w' => e = .returned (.bool true) ∧ Below w.heap.size w w' := by
  obtain ⟨i0, hi0, hz0, hz1, hz2⟩ := info_parts info5
  obtain ⟨i9, hi9, hz9, hz91, hz92⟩ := info_parts info9
  obtain ⟨k, hk, hkb⟩ := andz_4095 a
  obtain ⟨L, eL⟩ : ∃ L, L = foL k b := ⟨_, rfl⟩
  have hLl : L.length = k := by rw [eL]; exact foL_length k b
  obtain ⟨A, eA⟩ : ∃ A, A = rootH L := ⟨_, rfl⟩
  have hAl : A.length = 32 := by rw [eA]; exact objH_length _
  have c1 : ∀ w', Calls Try.prog 66 #[.string ⟨L.toArray⟩] w' fun e w'' => ∃ p m c, e = .returned (.tuple #[.agg (bcells A), .slice p m c, .int .i64 0]) ∧ m = (buildO L).length ∧ w''.ownsRow w'.heap.size 9 1 (.slice p m c) m ((buildO L).map SV) ∧ Below w'.heap.size w' w'' := fun w' => by
    have := build_any ⟨L.toArray⟩ w' (by rw [ba_list]; show L.length ≤ _; omega)
    rw [eA]
    exact this
  have C := Lib.hid c1
  have E := Lib.hid (And.intro hAl (And.intro hLl (And.intro eL eA)))
  clear c1 eA hAl hLl eL
  go_enter Try.func19, Try.ntmps19
  go_wp2_with fail
  refine (awake12_any w).mono ?_
  rintro e w0 ⟨rfl, hb0⟩
  go_upto_region 4 with fail
  go_wp2_with (refine wpList_mk (d := 26) w0.heap.size k _ rfl (by omega) rfl rfl rfl hi0 hz0 hz1 hz2 ?_; intro w1 hZ1 hbz1 hs1; simp only [List.setIfInBounds_toArray, List.set_cons_succ, List.set_cons_zero])
  rw [← foC_zero k b] at hZ1
  obtain ⟨D, eD⟩ : ∃ D, D = w0.heap.size := ⟨_, rfl⟩
  rw [← eD] at hZ1 hbz1 hs1 ⊢
  have hDw : w.heap.size ≤ D := by rw [eD]; exact hb0.size
  have hb01 : Below w.heap.size w w1 := hb0.trans (hbz1.mono hDw)
  clear eD hb0
  go_loopw [7] (fun i wr => ∃ (j : Nat), i = .int .i64 (j : Int) ∧ j ≤ k ∧ Hid (Blk wr D 5 (foC k b j)) ∧ Below w.heap.size w wr ∧ D < wr.heap.size) (fun i _ => k - (intOf i).toNat)
  case atStart => exact ⟨0, rfl, by omega, Lib.hid hZ1, hb01, by omega⟩
  case round =>
    clear hb01 hbz1 hZ1 hs1
    obtain ⟨j, rfl, hj, HZ, hb, hDs⟩ := hrel
    by_cases h1 : j < k
    · have hfz := HZ.out.frozen j
      have hcl : wr.cell? ⟨D, j, none⟩ = some (B 0) := by rw [HZ.out.cell]; exact foC_get k b j h1
      have HV := Lib.hid (fo_wrap b j)
      go_wp2
      exact ⟨⟨j + 1, by go_num, by omega, Lib.hid (by rw [HV.out, ← foC_set k b j h1]; exact HZ.out.set_ j _), hb.setCell (p := ⟨D, j, none⟩) hDw _, by simpa [World.setCell] using hDs⟩, by simp [intOf]; omega⟩
    · obtain rfl : k = j := by omega
      have hZ := HZ.out
      rw [foC_end, ← E.out.2.2.1] at hZ
      go_wp2_with (refine wpList_str (d := 42) D k k L E.out.2.1 rfl hZ ?_; simp only [List.setIfInBounds_toArray, List.set_cons_succ, List.set_cons_zero])
      refine (C.out wr).mono ?_
      rintro e w2 ⟨p, m, c, rfl, hm, hR2, hb2⟩
      have hA0 : Blk (w2.alloc (.cells z32 29)) w2.heap.size 29 z32 := Blk.new _ _ _
      have hA1 : Blk ((w2.alloc (.cells z32 29)).setRow w2.heap.size (bcells A)) w2.heap.size 29 (bcells A) := hA0.row _
      have hbx : Below w2.heap.size w2 ((w2.alloc (.cells z32 29)).setRow w2.heap.size (bcells A)) := below_setRow ((Below.refl _ _).alloc (Nat.le_refl _) _) (Nat.le_refl _) _
      have hZ2 := (hZ.below hb2 hDs).below hbx (Nat.lt_of_lt_of_le hDs hb2.size)
      have hbw2 : Below w.heap.size w w2 := hb.trans (hb2.mono hb.size)
      have H2 := Lib.hid (And.intro (row_below hR2 hbx) (And.intro (hbw2.trans (hbx.mono hbw2.size)) (And.intro hm hZ2)))
      clear hb HZ hb2 hbx hbw2 hR2 hm hZ hZ2 hDs hj
      go_upto_region 10 with (refine wpList_alN (d := 8) z32 zero29 w2.heap.size rfl (wpList_st_row w2.heap.size (bcells A) rfl rfl 29 z32 hA0 (by rw [size29, bcells_size, E.out.1]) (by rw [bcells_size, E.out.1]; rfl) (bcells_one _) ?_); simp only [List.setIfInBounds_toArray, List.set_cons_succ, List.set_cons_zero])
      obtain ⟨w3, e3⟩ : ∃ w3, w3 = (w2.alloc (.cells z32 29)).setRow w2.heap.size (bcells A) := ⟨_, rfl⟩
      obtain ⟨G, eG⟩ : ∃ G, G = w2.heap.size := ⟨_, rfl⟩
      rw [← e3] at hA1 H2 ⊢
      rw [← eG] at hA1 ⊢
      clear e3 eG hA0
      obtain ⟨M, eM⟩ : ∃ M, M = (buildB L).length := ⟨_, rfl⟩
      have hM2 : M = (cutL 64 L).length := by rw [eM, buildB, List.length_map]
      have hcl := (cutL_len (k := 64) (by decide) L.length L (Nat.le_refl _)).2.2
      have hcl2 := cutL_low (k := 64) (by decide) L
      rw [← hM2, E.out.2.1] at hcl hcl2
      have hM : ((k : Int) + 64 - 1) / 64 = (M : Int) := by omega
      have hMb : M ≤ 64 := by omega
      have EM := Lib.hid (And.intro eM (And.intro hM2 (And.intro hcl hcl2)))
      clear eM hM2 hcl hcl2
      go_wp2
      rw [hM]
      go_loopw [12, 13] (fun t12 t13 wr => ∃ (j c2 : Nat) (p2 : Option Addr) (xs : List Value), t12 = .slice p2 j c2 ∧ t13 = .int .i64 (j : Int) ∧ j ≤ M ∧ wr.ownsRow w3.heap.size 9 1 (.slice p2 j c2) j xs ∧ Hid (xs = ((buildB L).take j).map SV) ∧ Below w3.heap.size w3 wr) (fun _ t13 _ => M - (intOf t13).toNat)
      case atStart => exact ⟨0, 0, none, [], rfl, rfl, by omega, World.ownsRow_nil _ _ _ _, Lib.hid (by simp), Below.refl _ _⟩
      case round =>
        obtain ⟨j, c2, p2, xs, rfl, rfl, hj, hR, HXS, hb⟩ := hrel
        by_cases h2 : j < M
        · have hjB : j < (buildB L).length := by rw [← EM.out.1]; exact h2
          have hjC : j < (cutL 64 L).length := by rw [← EM.out.2.1]; exact h2
          obtain ⟨hc1, hc2⟩ := cutL_at (by decide) L hjC
          obtain ⟨Cb, eC⟩ : ∃ Cb, Cb = (cutL 64 L)[j] := ⟨_, rfl⟩
          rw [← eC] at hc2
          rw [E.out.2.1] at hc1
          have hCn : Cb.length = min 64 (k - 64 * j) := by rw [hc2, List.length_take, List.length_drop, E.out.2.1]
          obtain ⟨lo, hlo⟩ : ∃ lo, lo = j * 64 := ⟨_, rfl⟩
          obtain ⟨hi, hhi⟩ : ∃ hi, hi = lo + 64 := ⟨_, rfl⟩
          have hD : Blk wr D 5 (L.map B).toArray := H2.out.2.2.2.below hb H2.out.2.2.2.lt
          obtain ⟨S, eS⟩ : ∃ S : ByteArray, S = ⟨Cb.toArray⟩ := ⟨_, rfl⟩
          have hSs : S.size = Cb.length := by rw [ba_list, eS]
          have hcv : ∀ n q, n = Cb.length → (convert 35 9 (.slice (some ⟨D, lo, none⟩) n q)).run Try.prog wr = .ok (.string S) wr := fun n q hn => by
            rw [hn, eS]
            refine run_convert_bytes_back wr 35 9 5 ⟨D, lo, none⟩ q Cb Try.underlying35 Try.underlying5 Try.underlying9 (fun i hi => ?_)
            rw [Addr.add_mid, hD.cell, List.getElem?_toArray, List.getElem?_map]
            have : L[lo + i]? = some Cb[i] := by
              have h3 : Cb[i]? = some Cb[i] := List.getElem?_eq_getElem hi
              rw [← h3, hc2, List.getElem?_take_of_lt (by omega), List.getElem?_drop, hlo, Nat.mul_comm]
            rw [this]
            rfl
          obtain ⟨X, eX⟩ : ∃ X, X = bT Cb := ⟨_, rfl⟩
          have hadd : ∀ w', (Op.stringOp .add ⟨#[66]⟩ S).run Try.prog w' = .ok (.string X) w' := fun w' => add_texts w' _ _ (by rw [hSs]; show (1 + Cb.length : Nat) ≤ _; omega) (by rw [eX]; exact bT_add S Cb (by rw [eS]))
          have hxs : xs ++ [.string X] = ((buildB L).take (j + 1)).map SV := by
            rw [List.take_succ_eq_append_getElem hjB, List.map_append, HXS.out, eX, eC]
            simp only [buildB, List.getElem_map, List.map_cons, List.map_nil]
            rfl
          have h64 : (j : Int) * 64 = (lo : Int) := by omega
          have h65 : ((j : Int) + 1) * 64 = (hi : Int) := by omega
          have hlk : (lo : Int) ≤ (k : Int) := by omega
          have hlh : (lo : Int) ≤ (hi : Int) := by omega
          have hba : Below wr.heap.size wr (wr.alloc (.cells #[.string X] 9)) := (Below.refl _ _).alloc (Nat.le_refl _) _
          have hRa := hR.alloc (.cells #[.string X] 9)
          have hsrc := src_one (Blk.new wr 9 #[.string X])
          have hbwa := hb.trans (hba.mono hb.size)
          have HA := Lib.hid (And.intro hRa (And.intro hsrc (And.intro hbwa hxs)))
          have b1 : j + 1 ≤ maxLen := by simp only [maxLen]; omega
          have b2 : (j + 1) * 16 ≤ 140737488355328 := by omega
          have hcase : (k - lo = Cb.length ∧ (k : Int) < (hi : Int)) ∨ (hi - lo = Cb.length ∧ (hi : Int) < (k : Int)) ∨ (hi - lo = Cb.length ∧ hi = k) := by omega
          have HQ := Lib.hid (And.intro hlo hhi)
          have hbs := hb.size
          clear hRa hsrc hbwa hxs hba eC hc1 hc2 hCn hSs eS eX hjB hjC hlo hhi hD hR hb
          rcases hcase with ⟨hn, hmx⟩ | ⟨hn, hmx⟩ | ⟨hn, rfl⟩
          case' inl => have hcv1 := hcv (k - lo) (k - lo) hn
          case' inr.inl => have hcv1 := hcv (hi - lo) (k - lo) hn
          case' inr.inr => have hcv1 := hcv (hi - lo) (hi - lo) hn
          all_goals
            clear hcv hn
            go_wp2_with (at_builtin; refine wpList_app _ w3.heap.size 9 i9 (.string ⟨#[]⟩) 1 16 Try.underlying23 hi9 hz9 hz91 hz92 rfl (.slice p2 j c2) j xs rfl HA.out.1 _ 1 _ rfl HA.out.2.1 b1 b2 HA.out.2.2.1.size ?_; intro v8 w8 hR8 hg8 _ _; obtain ⟨p8, c8, rfl⟩ := row_slice hR8; simp only [List.setIfInBounds_toArray, List.set_cons_succ, List.set_cons_zero])
            have hb8 := HA.out.2.2.1.grown hg8 HA.out.2.2.1.size (fun g e => (HA.out.1.lt g e).1)
            exact ⟨⟨j + 1, c8, p8, _, rfl, by go_num, by omega, hR8, Lib.hid HA.out.2.2.2, hb8⟩, by simp [intOf]; omega⟩
        · obtain rfl : M = j := by omega
          have hxs := HXS.out
          rw [List.take_of_length_le (by rw [← EM.out.1]; exact Nat.le_refl _)] at hxs
          rw [hxs] at hR
          have c65 := clash_any p2 (buildB L) c2 wr (by rw [← EM.out.1]; omega) (strs_own hR) (fun j hj => by
            rw [List.getD, List.getElem?_eq_getElem hj, Option.getD_some]
            have := buildB_ok (List.getElem_mem hj)
            omega)
          rw [← EM.out.1] at c65
          have HC := Lib.hid (And.intro c65 (H2.out.2.1.trans (hb.mono H2.out.2.1.size)))
          have hb3 := hb
          clear c65 hR hxs HXS hb
          go_wp2_with fail
          refine HC.out.1.mono ?_
          rintro e w5 ⟨⟨bq, rfl, hap⟩, hb5⟩
          have hbw5 : Below w.heap.size w w5 := HC.out.2.trans (hb5.mono HC.out.2.size)
          have hb35 : Below w3.heap.size w3 w5 := hb3.trans (hb5.mono hb3.size)
          clear hb3 hb5
          cases bq with
          | true =>
            clear hap
            go_wp2
            go_ret
            exact ⟨rfl, hbw5⟩
          | false =>
            have hA := apartL_of (by rw [← EM.out.1]; exact hap rfl)
            have hO : buildO L = buildB L ++ buildI L ++ [buildR L] := by
              rw [E.out.2.2.1] at hA ⊢
              exact fo_all (by omega) b hA
            obtain ⟨R, eR⟩ : ∃ R, R = (buildI L).length := ⟨_, rfl⟩
            have hMH : M = (buildH L).length := by rw [EM.out.1, buildH, List.length_map]
            have hRc : R = (cutL 8 (buildH L)).length := by rw [eR, buildI, List.length_map]
            have hcl := (cutL_len (k := 8) (by decide) (buildH L).length (buildH L) (Nat.le_refl _)).2.2
            have hcl2 := cutL_low (k := 8) (by decide) (buildH L)
            rw [← hRc, ← hMH] at hcl hcl2
            have hR8 : ((M : Int) + 8 - 1) / 8 = (R : Int) := by omega
            have hRb : R ≤ 8 := by omega
            obtain ⟨l, el⟩ : ∃ l, l = M + R := ⟨_, rfl⟩
            have hml : m = l + 1 := by rw [H2.out.2.2.1, hO, List.length_append, List.length_append, ← EM.out.1, ← eR, el]; rfl
            have hMR : (M : Int) + (R : Int) = (l : Int) := by omega
            have hOB : ∀ i, i < M → (buildO L)[i]? = (buildB L)[i]? := fun i hi => by
              rw [hO, List.append_assoc, List.getElem?_append_left (by rw [← EM.out.1]; exact hi)]
            have hOI : ∀ i, i < R → (buildO L)[M + i]? = (buildI L)[i]? := fun i hi => by
              rw [hO, List.append_assoc, List.getElem?_append_right (by rw [← EM.out.1]; omega), ← EM.out.1, Nat.add_sub_cancel_left, List.getElem?_append_left (by rw [← eR]; exact hi)]
            have hOR : (buildO L)[l]? = some (buildR L) := by
              rw [hO, List.getElem?_append_right (by rw [List.length_append, ← EM.out.1, ← eR, el]; exact Nat.le_refl _), List.length_append, ← EM.out.1, ← eR, el, Nat.sub_self]
              rfl
            have hrow := H2.out.1
            obtain ⟨g, c', e1, _, hgl, _, _⟩ := row_form hrow (by intro e; injection e with _ e _; omega)
            injection e1 with e1 _ e2
            subst e1; subst e2
            have hcO : ∀ w', Below w3.heap.size w3 w' → ∀ i s, (buildO L)[i]? = some s → w'.cell? ⟨g, i, none⟩ = some (.string s) := fun w' h i s hs => by
              have := hrow.cells (g := g) rfl i (.string s) (by rw [List.getElem?_map, hs]; rfl)
              rw [Addr.add_mid, Nat.zero_add] at this
              exact (h.cell (p := ⟨g, i, none⟩) hgl).trans this
            have HO := Lib.hid (And.intro hcO (And.intro hOB (And.intro hOI hOR)))
            have HR := Lib.hid (And.intro eR (And.intro hMH (And.intro hRc (And.intro hcl hcl2))))
            obtain ⟨RT, eRT⟩ : ∃ RT, RT = buildR L := ⟨_, rfl⟩
            have ERT := Lib.hid eRT
            have hl1 : (l : Int) < (l : Int) + 1 := by omega
            clear hcO hOB hOI hOR eR hMH hRc hcl hcl2 hO hA hap hrow eRT
            subst hml
            have HEL := Lib.hid el
            clear el
            go_upto_region 19 with fail
            rw [hR8]
            have eAR : A = objH RT := by rw [E.out.2.2.2, ERT.out]; rfl
            have hRTs : RT.size ≤ 258 := by rw [ERT.out]; exact buildR_ok (by rw [E.out.2.1]; omega)
            have hcR : ∀ x, (later w5 x).cell? ⟨g, l, none⟩ = some (.string RT) := fun x => HO.out.1 _ (hb35.trans ((later_below w5 x).mono hb35.size)) l RT (by rw [ERT.out]; exact HO.out.2.2.2)
            have hA5 := hA1.below hb35 hA1.lt
            have hne : ∀ w', (binOp .neq 29 (.agg (bcells A)) (.agg (bcells A))).run Try.prog w' = .ok (.bool false) w' := fun w' => by rw [neq_bytes w' A A E.out.1 E.out.1]; simp
            have heq2 : ∀ w', (Op.equalIn 10000 29 (.agg (bcells A)) (.agg (bcells A))).run Try.prog w' = .ok true w' := fun w' => by rw [run_equal_bytes w' A A E.out.1 E.out.1]; simp
            have c39 : ∀ (v : Int) x, Calls Try.prog 39 #[.int .i64 v] (later w5 x) fun e w'' => e = .returned (.int .i64 v) ∧ ∃ k, w'' = later w5 k := fun v x => later_call_same (num_any v _)
            have c58 : ∀ x, Calls Try.prog 58 #[.string RT] (later w5 x) fun e w'' => e = .returned (.agg (bcells A)) ∧ ∃ k, w'' = later w5 k := fun x => by rw [eAR]; exact later_call (obj_any RT _ (by omega))
            have HD := Lib.hid (And.intro c39 c58)
            have HRT := Lib.hid hRTs
            clear c39 c58 hRTs eAR
            refine wp_region_later (by kernel_rfl) (by kernel_rfl) ?_
            repeat (first
              | (refine wpQuiet_ld_g (d := 89) G 0 (bcells A).toList rfl rfl (by rintro _ ⟨x, rfl⟩; exact range_of_blk (hA5.below (later_below w5 x) hA5.lt)) Try.underlying29 rfl (by rw [size29, Array.length_toList, bcells_size, E.out.1]) ?_; simp only [List.setIfInBounds_toArray, List.set_cons_succ, List.set_cons_zero, Array.toArray_toList])
              | (go_big_quiet_step ((first | (go_at_call 39; exact HD.out.1 _ _) | (go_at_call 58; exact HD.out.2 _)))))
            refine wpQuiet_nil ?_
            rintro _ ⟨x, rfl⟩
            have hb36 : Below w3.heap.size w3 (later w5 x) := hb35.trans ((later_below w5 x).mono hb35.size)
            have hbw6 : Below w.heap.size w (later w5 x) := hbw5.trans ((later_below w5 x).mono hbw5.size)
            obtain ⟨w6, e6⟩ : ∃ w6, w6 = later w5 x := ⟨_, rfl⟩
            rw [← e6] at hb36 hbw6 ⊢
            have H6 := Lib.hid (And.intro hb36 hbw6)
            clear e6 hcR hA5 hne heq2 hb35 hbw5 hA1 hb36 hbw6 HC HD
            go_wp2
            go_loopw [15] (fun t15 wr => ∃ (j : Nat), t15 = .int .i64 (j : Int) ∧ j ≤ M ∧ Below w6.heap.size w6 wr) (fun t15 _ => M - (intOf t15).toNat)
            case atStart => exact ⟨0, rfl, by omega, Below.refl _ _⟩
            case round =>
              obtain ⟨j, rfl, hj, hb⟩ := hrel
              by_cases h3 : j < M
              · have hjB : j < (buildB L).length := by rw [← EM.out.1]; exact h3
                have hjC : j < (cutL 64 L).length := by rw [← EM.out.2.1]; exact h3
                obtain ⟨hc1, hc2⟩ := cutL_at (by decide) L hjC
                obtain ⟨S, eS⟩ : ∃ S : ByteArray, S = ⟨((cutL 64 L)[j]).toArray⟩ := ⟨_, rfl⟩
                obtain ⟨cn, ecn⟩ : ∃ cn, cn = ((cutL 64 L)[j]).length := ⟨_, rfl⟩
                rw [E.out.2.1] at hc1
                have hCn : cn = min 64 (k - 64 * j) := by rw [ecn, hc2, List.length_take, List.length_drop, E.out.2.1]
                obtain ⟨lo, hlo⟩ : ∃ lo, lo = j * 64 := ⟨_, rfl⟩
                obtain ⟨hi, hhi⟩ : ∃ hi, hi = lo + 64 := ⟨_, rfl⟩
                have hb3 : ∀ x, Below w3.heap.size w3 (later wr x) := fun x => H6.out.1.trans ((hb.trans ((later_below wr x).mono hb.size)).mono H6.out.1.size)
                have hcv : ∀ n q, n = cn → ∀ x, (convert 35 9 (.slice (some ⟨D, lo, none⟩) n q)).run Try.prog (later wr x) = .ok (.string S) (later wr x) := fun n q hn x =>
                  blk_conv (H2.out.2.2.2.below (hb3 x) H2.out.2.2.2.lt) hlo hjC n q (by rw [hn, ecn]) eS
                have hSs : S.size = cn := by rw [ba_list, eS, ecn]
                obtain ⟨X, eX⟩ : ∃ X, X = bT (cutL 64 L)[j] := ⟨_, rfl⟩
                have hadd : ∀ w', (Op.stringOp .add ⟨#[66]⟩ S).run Try.prog w' = .ok (.string X) w' := fun w' => add_texts w' _ _ (by rw [hSs]; show (1 + cn : Nat) ≤ _; omega) (by rw [eX]; exact bT_add S _ (by rw [eS]))
                have hcX : ∀ x, (later wr x).cell? ⟨g, j, none⟩ = some (.string X) := fun x => HO.out.1 _ (hb3 x) j X (by
                  rw [HO.out.2.1 j h3, List.getElem?_eq_getElem hjB, eX]
                  simp only [buildB, List.getElem_map])
                have h64 : (j : Int) * 64 = (lo : Int) := by omega
                have h65 : ((j : Int) + 1) * 64 = (hi : Int) := by omega
                have hlk : (lo : Int) ≤ (k : Int) := by omega
                have hlh : (lo : Int) ≤ (hi : Int) := by omega
                have hjl : (j : Int) < (l : Int) + 1 := by have := HEL.out; omega
                have hcase : (k - lo = cn ∧ (k : Int) < (hi : Int)) ∨ (hi - lo = cn ∧ (hi : Int) < (k : Int)) ∨ (hi - lo = cn ∧ hi = k) := by omega
                have hbs := hb.size
                have hb7 : ∀ x, Below w6.heap.size w6 (later wr x) := fun x => hb.trans ((later_below wr x).mono hb.size)
                have HB := Lib.hid hb7
                clear hc1 hc2 hCn hSs eS eX hjB hjC hlo hhi hb hb3 hb7 ecn
                rcases hcase with ⟨hn, hmx⟩ | ⟨hn, hmx⟩ | ⟨hn, rfl⟩
                case' inl => have hcv1 := hcv (k - lo) (k - lo) hn
                case' inr.inl => have hcv1 := hcv (hi - lo) (k - lo) hn
                case' inr.inr => have hcv1 := hcv (hi - lo) (hi - lo) hn
                all_goals
                  clear hcv hn
                  go_upto_region 24 with fail
                  refine wp_region_later (by kernel_rfl) (by kernel_rfl) ?_
                  repeat (go_big_quiet_step (fail))
                  refine wpQuiet_nil ?_
                  rintro _ ⟨x, rfl⟩
                  have HB2 := Lib.hid (HB.out x)
                  go_wp2
                  exact ⟨⟨j + 1, by go_num, by omega, HB2.out⟩, by simp [intOf]; omega⟩
              · obtain rfl : M = j := by omega
                have hcv := conv1 wr R (by omega) _ rfl
                obtain ⟨T0, eT0⟩ : ∃ T0, (⟨#[82]⟩ : ByteArray) ++ (⟨#[UInt8.ofNat R]⟩ : ByteArray) = T0 := ⟨_, rfl⟩
                have hT0 : T0.data.toList = [82, UInt8.ofNat R] := by rw [← eT0, ByteArray.data_append]; rfl
                have hadd : ∀ w', (Op.stringOp .add ⟨#[82]⟩ ⟨#[UInt8.ofNat R]⟩).run Try.prog w' = .ok (.string T0) w' := fun w' => add_texts w' _ _ (by show (1 + 1 : Nat) ≤ 9223372036854775807; decide) eT0
                have hba : Below w6.heap.size w6 (wr.alloc (.cells #[.int .u8 (R : Int)] 5)) := hb.alloc hb.size _
                have HT := Lib.hid (And.intro hT0 (And.intro (H6.out.1.trans (hba.mono H6.out.1.size)) (H6.out.2.trans (hba.mono H6.out.2.size))))
                clear hT0 eT0 hb hba
                go_wp2
                obtain ⟨w7, e7⟩ : ∃ w7, w7 = wr.alloc (.cells #[.int .u8 (R : Int)] 5) := ⟨_, rfl⟩
                rw [← e7] at HT ⊢
                clear e7 hcv hadd
                go_loopw [16, 17, 18, 19, 20] (fun t16 t17 _ _ _ wr => ∃ (q : Nat) (T : ByteArray), t16 = .string T ∧ t17 = .int .i64 (q : Int) ∧ q ≤ R ∧ Hid (T.data.toList = 82 :: UInt8.ofNat R :: ((buildJ L).take q).flatten) ∧ T.size ≤ 2 + 32 * q ∧ Below w7.heap.size w7 wr) (fun _ t17 _ _ _ _ => R - (intOf t17).toNat)
                case atStart => exact ⟨0, T0, rfl, rfl, by omega, Lib.hid (by rw [HT.out.1]; simp), by rw [ba_list, HT.out.1]; exact Nat.le_refl _, Below.refl _ _⟩
                case round =>
                  obtain ⟨q, T, rfl, rfl, hq, HTT, hTs, hb⟩ := hrel
                  by_cases h4 : q < R
                  · have hqI : q < (buildI L).length := by rw [← HR.out.1]; exact h4
                    have hqC : q < (cutL 8 (buildH L)).length := by rw [← HR.out.2.2.1]; exact h4
                    obtain ⟨hc1, hc2⟩ := cutL_at (by decide) (buildH L) hqC
                    rw [← HR.out.2.1] at hc1
                    obtain ⟨Cr, eCr⟩ : ∃ C, C = (cutL 8 (buildH L))[q] := ⟨_, rfl⟩
                    rw [← eCr] at hc2
                    obtain ⟨mq, emq⟩ : ∃ mq, mq = Cr.length := ⟨_, rfl⟩
                    have hmq : mq = min 8 (M - 8 * q) := by rw [emq, hc2, List.length_take, List.length_drop, ← HR.out.2.1]
                    have hCl : ∀ x ∈ Cr, x.length = 32 := fun x hx => by rw [hc2] at hx; exact buildH_len L x (List.mem_of_mem_drop (List.mem_of_mem_take hx))
                    obtain ⟨X, eX⟩ : ∃ X, X = nodeT 73 Cr := ⟨_, rfl⟩
                    have hXI : (buildI L)[q]? = some X := by
                      rw [List.getElem?_eq_getElem hqI, eX, eCr]
                      simp only [buildI, List.getElem_map]
                    have hXs : X.size = 2 + mq * 32 := by rw [eX, nodeT_size2 73 Cr hCl, emq]
                    have hXl : X.data.toList = 73 :: UInt8.ofNat mq :: Cr.flatten := by rw [eX, emq]; rfl
                    have hx0 : bt X 0 = 73 := by rw [bt, hXl]; rfl
                    have hx1 : bt X 1 = UInt8.ofNat mq := by rw [bt, hXl]; rfl
                    have hx1n : ((bt X 1).toNat : Int) = (mq : Int) := by rw [hx1, UInt8.toNat_ofNat']; omega
                    have hXJ : objH X = (buildJ L)[q]'(by rw [buildJ, List.length_map]; exact hqI) := by
                      simp only [buildJ, List.getElem_map]
                      rw [List.getElem?_eq_getElem hqI] at hXI
                      rw [Option.some.inj hXI]
                    obtain ⟨y, ey⟩ : ∃ y, y = M + q := ⟨_, rfl⟩
                    have hb3 := HT.out.2.1.trans (hb.mono HT.out.2.1.size)
                    have hcX : wr.cell? ⟨g, y, none⟩ = some (.string X) := HO.out.1 wr hb3 y X (by rw [ey, HO.out.2.2.1 q h4]; exact hXI)
                    have hMq : (M : Int) + (q : Int) = (y : Int) := by omega
                    have hyl : (y : Int) < (l : Int) + 1 := by have := HEL.out; omega
                    obtain ⟨lo8, elo⟩ : ∃ lo8, lo8 = q * 8 := ⟨_, rfl⟩
                    have h8 : (q : Int) * 8 = (lo8 : Int) := by omega
                    obtain ⟨Z, eZ⟩ : ∃ Z : Int, Z = (mq : Int) := ⟨_, rfl⟩
                    have hZ : (Z = 8 ∧ (8 : Int) < (M : Int) - (lo8 : Int)) ∨ (Z = (M : Int) - (lo8 : Int) ∧ (M : Int) - (lo8 : Int) < 8) ∨ (Z = 8 ∧ (M : Int) - (lo8 : Int) = 8) := by omega
                    -- the parts
                    have hpart : ∀ jj, (hjj : jj < mq) → ∃ BX Hj SJ, (buildB L)[lo8 + jj]? = some BX ∧ Hj = objH BX ∧ Hj.length = 32 ∧ SJ = (⟨Hj.toArray⟩ : ByteArray) ∧ BX.size ≤ 258 ∧ ∀ w', (Instr.slice 9 (.string X) (some (.int .i64 (2 + 32 * (jj : Int)))) (some (.int .i64 (34 + 32 * (jj : Int)))) none).run Try.prog w' = .ok (.string SJ) w' := fun jj hjj => by
                      have hjC : jj < Cr.length := by rw [← emq]; exact hjj
                      have hi : lo8 + jj < (buildB L).length := by rw [← EM.out.1]; omega
                      have hiH : lo8 + jj < (buildH L).length := by rw [← HR.out.2.1]; omega
                      have hel : Cr[jj]? = some (objH (buildB L)[lo8 + jj]) := by
                        rw [hc2, List.getElem?_take_of_lt (by omega), List.getElem?_drop, show 8 * q + jj = lo8 + jj by omega, List.getElem?_eq_getElem hiH]
                        simp only [buildH, List.getElem_map]
                      refine ⟨_, _, _, List.getElem?_eq_getElem hi, rfl, objH_length _, rfl, buildB_ok (List.getElem_mem hi), fun w' => ?_⟩
                      rw [run_slice_string_if w' 9 X .i64 .i64 _ _ Try.underlying9, if_pos (by omega), if_pos (by omega)]
                      have e : X.extract (2 + 32 * (jj : Int)).toNat (34 + 32 * (jj : Int)).toNat = (⟨(objH (buildB L)[lo8 + jj]).toArray⟩ : ByteArray) := by
                        apply ba_ext3
                        rw [ByteArray.data_extract, Array.toList_extract, List.extract_eq_take_drop, hXl]
                        have h1 : (2 + 32 * (jj : Int)).toNat = 32 * jj + 1 + 1 := by omega
                        have h2 : (34 + 32 * (jj : Int)).toNat - (2 + 32 * (jj : Int)).toNat = 32 := by omega
                        rw [h2, h1, List.drop_succ_cons, List.drop_succ_cons]
                        have h3 := cutL_flat Cr hCl
                        have h4 : jj < (cutL 32 Cr.flatten).length := by rw [h3]; exact hjC
                        have h5 := (cutL_at (by decide) Cr.flatten h4).2
                        rw [← h5]
                        have h6 : (cutL 32 Cr.flatten)[jj]? = Cr[jj]? := by rw [h3]
                        rw [List.getElem?_eq_getElem h4, hel] at h6
                        exact Option.some.inj h6
                      rw [e]
                    have c58 : ∀ w', Calls Try.prog 58 #[.string X] w' fun e w'' => e = .returned (.agg (bcells (objH X))) ∧ Below w'.heap.size w' w'' := fun w' => obj_any X w' (by omega)
                    obtain ⟨HX, eHX⟩ : ∃ H, H = objH X := ⟨_, rfl⟩
                    have hHXl : HX.length = 32 := by rw [eHX]; exact objH_length X
                    obtain ⟨SX, eSX⟩ : ∃ S : ByteArray, S = ⟨HX.toArray⟩ := ⟨_, rfl⟩
                    have hSXs : SX.size = 32 := by rw [ba_list, eSX]; simpa using hHXl
                    have c70 : ∀ w', Calls Try.prog 70 #[.agg (bcells HX)] w' fun e w'' => e = .returned (.string SX) ∧ Below w'.heap.size w' w'' := fun w' => by rw [eSX]; exact t_any HX hHXl w'
                    rw [← eHX] at c58
                    obtain ⟨T2, eT2⟩ : ∃ T2, T ++ SX = T2 := ⟨_, rfl⟩
                    have hT2s : T2.size = T.size + 32 := by rw [← eT2, ByteArray.size_append, hSXs]
                    have hadd : ∀ w', (Op.stringOp .add T SX).run Try.prog w' = .ok (.string T2) w' := fun w' => add_texts w' _ _ (by rw [hSXs]; omega) eT2
                    have hT2l : T2.data.toList = 82 :: UInt8.ofNat R :: ((buildJ L).take (q + 1)).flatten := by
                      rw [← eT2, ByteArray.data_append, Array.toList_append, HTT.out, List.take_succ_eq_append_getElem (by rw [buildJ, List.length_map]; exact hqI), List.flatten_append, ← hXJ, ← eHX, eSX]
                      simp
                    have hxsI : (X.size : Int) = 2 + 32 * Z := by omega
                    have hx1Z : ((bt X 1).toNat : Int) = Z := by rw [hx1n, eZ]
                    have hX1 : 1 < X.size := by omega
                    have HP := Lib.hid (And.intro hpart (And.intro c58 (And.intro c70 (And.intro hT2l (And.intro hb3 (And.intro hb eZ))))))
                    have hT2b : T2.size ≤ 2 + 32 * (q + 1) := by omega
                    have HLO := Lib.hid (And.intro elo (And.intro hc1 hmq))
                    clear hpart c58 c70 hT2l hb3 hb eZ hqI hqC hc1 hc2 eCr emq hmq hCl eX hXI hXs hXl hx1 hx1n hXJ ey elo eHX hHXl eSX hSXs eT2 hT2s hTs HTT
                    rcases hZ with ⟨rfl, hZ1⟩ | ⟨rfl, hZ1⟩ | ⟨rfl, hZ1⟩
                    all_goals
                      go_wp2
                    all_goals
                      clear hcX hx0 hX1 hx1Z
                      have hMb8 : mq ≤ 8 ∧ (mq : Int) ≤ (M : Int) - (lo8 : Int) := by have h1 := HLO.out.1; have h2 := HLO.out.2.1; have h3 := HLO.out.2.2; omega
                      obtain ⟨wo, ewo⟩ : ∃ wo : World, wo = wr := ⟨_, rfl⟩
                      subst ewo
                      go_loopw [20] (fun t20 wr => ∃ (jj : Nat), t20 = .int .i64 (jj : Int) ∧ jj ≤ mq ∧ Below wo.heap.size wo wr) (fun t20 _ => mq - (intOf t20).toNat)
                      case atStart => exact ⟨0, rfl, by omega, Below.refl _ _⟩
                      case round =>
                        obtain ⟨jj, rfl, hjj, hb9⟩ := hrel
                        by_cases h5 : jj < mq
                        · obtain ⟨BX, Hj, SJ, hBX, eHj, hHjl, eSJ, hBXs, hsl⟩ := HP.out.1 jj h5
                          obtain ⟨y2, ey2⟩ : ∃ y2, y2 = lo8 + jj := ⟨_, rfl⟩
                          have hy2M : y2 < M := by have h1 := HLO.out.1; have h2 := HLO.out.2.1; have h3 := HLO.out.2.2; omega
                          rw [← ey2] at hBX
                          obtain ⟨m32, em32⟩ : ∃ m32 : Nat, m32 = 32 * jj := ⟨_, rfl⟩
                          obtain ⟨s1, es1⟩ : ∃ s1 : Nat, s1 = 2 + m32 := ⟨_, rfl⟩
                          obtain ⟨s2, es2⟩ : ∃ s2 : Nat, s2 = 34 + m32 := ⟨_, rfl⟩
                          have hm32 : 32 * (jj : Int) = (m32 : Int) := by omega
                          have hs1 : 2 + (m32 : Int) = (s1 : Int) := by omega
                          have hs2 : 34 + (m32 : Int) = (s2 : Int) := by omega
                          rw [hm32, hs1, hs2] at hsl
                          have hy2 : (lo8 : Int) + (jj : Int) = (y2 : Int) := by omega
                          have hy2l : (y2 : Int) < (l : Int) + 1 := by have := HEL.out; omega
                          have hltA : (jj : Int) < 8 := by omega
                          have hltB : (jj : Int) < (M : Int) - (lo8 : Int) := by omega
                          have hb9w : ∀ x, Below w3.heap.size w3 (later wr x) := fun x => HP.out.2.2.2.2.1.trans ((hb9.trans ((later_below wr x).mono hb9.size)).mono HP.out.2.2.2.2.1.size)
                          have hcB : ∀ x, (later wr x).cell? ⟨g, y2, none⟩ = some (.string BX) := fun x => HO.out.1 _ (hb9w x) y2 BX (by rw [HO.out.2.1 y2 hy2M]; exact hBX)
                          have c58 : ∀ x, Calls Try.prog 58 #[.string BX] (later wr x) fun e w'' => e = .returned (.agg (bcells Hj)) ∧ ∃ k, w'' = later wr k := fun x => by rw [eHj]; exact later_call (obj_any BX _ (by omega))
                          have c70 : ∀ x, Calls Try.prog 70 #[.agg (bcells Hj)] (later wr x) fun e w'' => e = .returned (.string SJ) ∧ ∃ k, w'' = later wr k := fun x => by rw [eSJ]; exact later_call (t_any Hj hHjl _)
                          have hb9x : ∀ x, Below wo.heap.size wo (later wr x) := fun x => hb9.trans ((later_below wr x).mono hb9.size)
                          have HB9 := Lib.hid (And.intro hb9x (And.intro c58 c70))
                          clear hBX eHj hHjl eSJ hBXs ey2 hy2M em32 es1 es2 hb9w hb9 hb9x c58 c70
                          go_upto_region 37 with fail
                          refine wp_region_later (by kernel_rfl) (by kernel_rfl) ?_
                          repeat (go_big_quiet_step ((first | (go_at_call 58; exact HB9.out.2.1 _) | (go_at_call 70; exact HB9.out.2.2 _))))
                          refine wpQuiet_nil ?_
                          rintro _ ⟨x, rfl⟩
                          have HB2 := Lib.hid (HB9.out.1 x)
                          go_wp2
                          exact ⟨⟨jj + 1, by go_num, by omega, HB2.out⟩, by simp [intOf]; omega⟩
                        · obtain rfl : mq = jj := by omega
                          have eZ := HP.out.2.2.2.2.2.2
                          first
                            | (have hge : (8 : Int) ≤ (mq : Int) := by omega)
                            | (have hge : (M : Int) - (lo8 : Int) ≤ (mq : Int) := by omega)
                          have HEZ := Lib.hid (And.intro eZ hb9)
                          clear eZ hb9
                          go_wp2_with fail
                          refine (HP.out.2.1 wr).mono ?_
                          rintro e wa ⟨rfl, hba⟩
                          have hbb := HEZ.out.2.trans (hba.mono HEZ.out.2.size)
                          clear hba
                          go_wp2_with fail
                          refine (HP.out.2.2.1 wa).mono ?_
                          rintro e wb ⟨rfl, hba⟩
                          have hbc := hbb.trans (hba.mono hbb.size)
                          have HBC := Lib.hid (HP.out.2.2.2.2.2.1.trans (hbc.mono HP.out.2.2.2.2.2.1.size))
                          clear hba hbb hbc
                          go_wp2
                          first
                            | exact ⟨⟨q + 1, T2, rfl, by go_num, by omega, Lib.hid HP.out.2.2.2.1, hT2b, HBC.out⟩, by simp [intOf]; omega⟩
                            | (go_roundw
                               case rel => exact ⟨q + 1, T2, rfl, by go_num, by omega, Lib.hid HP.out.2.2.2.1, hT2b, HBC.out⟩
                               case measure => simp [intOf]; omega)
                  · obtain rfl : R = q := by omega
                    have hRJ : R = (buildJ L).length := by rw [HR.out.1, buildJ, List.length_map]
                    have hTR : T = RT := by
                      apply ByteArray.ext
                      apply Array.toList_inj.1
                      rw [HTT.out, ERT.out, buildR, nodeT, ← hRJ, List.take_of_length_le (by omega)]
                    subst hTR
                    have hcR : wr.cell? ⟨g, l, none⟩ = some (.string T) := HO.out.1 wr (HT.out.2.1.trans (hb.mono HT.out.2.1.size)) l T (by rw [ERT.out]; exact HO.out.2.2.2)
                    have HB := Lib.hid (HT.out.2.2.trans (hb.mono HT.out.2.2.size))
                    clear hb hTs
                    go_wp2
                    go_ret
                    exact ⟨rfl, HB.out⟩
end Go.Proofs.Ytmhbkilpllgchaa
