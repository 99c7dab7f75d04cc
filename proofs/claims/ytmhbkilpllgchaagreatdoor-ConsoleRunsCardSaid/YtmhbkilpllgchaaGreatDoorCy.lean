/- The law's told. -/
import Derived.Test.YtmhbkilpllgchaaGreatDoorMgCwx
namespace Go.Proofs.YtmhbkilpllgchaaGreatDoor
open Go.RowKit BigFrame
set_option linter.unusedVariables false
set_option linter.unusedSimpArgs false

theorem rootr_own {w : World} {base : Nat} {p : Option Addr} {c : Nat} {ns : List ByteArray} (h : w.ownsRow base 9 1 (.slice p ns.length c) ns.length (ns.map Value.string)) (hz : ∀ s ∈ ns, s.size ≤ 1000000) (hn : ns.length ≤ 1000000) :
    Calls Tryz.prog 23 #[.slice p ns.length c] w fun e w' => e = .returned (.agg (bcells (rootL (ns.map (·.data.toList))))) ∧ Below w.heap.size w w' := by
  by_cases h0 : ns = []
  · subst h0
    exact rootr_nil p c w
  · obtain ⟨g, o, rfl, hg, hc⟩ := (strs_of_row h).form h0
    have hcap := rowS_cap h
    have hmax : c ≤ 9223372036854775807 := by
      rcases h.2 with ⟨e, _⟩ | ⟨g, cap, cur, e, _, _, _, hm, _⟩
      · injection e with _ _ e; omega
      · injection e with _ _ e; simp only [maxLen] at hm; omega
    exact rootr_some ns.length ns (Nat.le_refl _) h0 g o c w hc hg hcap hmax hz hn

set_option maxRecDepth 100000 in
set_option maxHeartbeats 8000000 in
theorem told_root (args : List ByteArray) (p : Option Addr) (cap : Nat) (w : World) (hW : Strs w p (nRoot :: args)) (hz : ∀ x ∈ args, x.size ≤ 100000 ∧ x.data.toList ≠ []) (hn : args.length + 1 ≤ cap) (hc : cap ≤ 9223372036854775807) (hn2 : args.length + 1 ≤ 100000) :
    Calls Tryz.prog 11 #[.slice p (args.length + 1) cap] w fun e w' => e = .returned (.string ⟨(ansX nRoot args).toArray⟩) ∧ Below w.heap.size w w' := by
  obtain ⟨i0, hi0, hz0, hz1, hz2⟩ := info_parts info9
  have hans : ansX nRoot args = (rootO args).getD (errT 2700) := by
    rw [ansX, show cmdO nRoot args = rootO args from by unfold cmdO; simp [nSha, nLeaf, nObject, nFile, nRoot, nSplit]]
  rw [hans]
  obtain ⟨N, eN⟩ : ∃ N, N = args.length + 1 := ⟨_, rfl⟩
  rw [← eN] at hn hn2 ⊢
  obtain ⟨c, ec⟩ : ∃ c, c = nRoot := ⟨_, rfl⟩
  have q0 : c.toList = [114, 111, 111, 116] := by rw [ec, Lib.toList_data]; rfl
  have r0 : (c.toList == [114, 111, 111, 116]) = true := by rw [q0]; rfl
  rw [← ec] at hW
  clear ec hans
  obtain ⟨G, eG⟩ : ∃ G : ByteArray, G = ⟨((rootO args).getD (errT 2700)).toArray⟩ := ⟨_, rfl⟩
  rw [← eG]
  have HG := Lib.hid eG
  clear eG
  obtain ⟨ws, ews⟩ : ∃ ws, ws = c :: args := ⟨_, rfl⟩
  rw [← ews] at hW
  have hN1 : 1 ≤ N := by omega
  have hN1' : (1 : Int) ≤ (N : Int) := by omega
  have hpos : (0 : Int) < (N : Int) := by omega
  have hpos2 : 0 < N := by omega
  have hn2' : (N : Int) ≤ 100000 := by omega
  obtain ⟨g, o, rfl, hg, hcells⟩ := hW.form (by rw [ews]; simp)
  have hx0 := hcells 0 c (by rw [ews]; rfl)
  rw [Nat.add_zero] at hx0
  have EN := Lib.hid (And.intro eN ews)
  have HW := Lib.hid (And.intro hW hz)
  clear eN hW hz hcells ews
  go_enter Tryz.func11, Tryz.ntmps11
  go_wp2
  clear hx0
  go_loopw [3, 4, 5, 6] (fun t3 t4 _ _ wr => ∃ (q : Option Addr) (j k c' : Nat) (ns : List ByteArray) (xs : List Value), t3 = .slice q k c' ∧ t4 = .int .i64 (j : Int) ∧ 1 ≤ j ∧ j ≤ N ∧ k ≤ j ∧ wr.ownsRow w.heap.size 9 1 (.slice q k c') k xs ∧ Hid (j = k + 1) ∧ Hid (k = ns.length) ∧ Hid (xs = ns.map Value.string) ∧ Hid (bytesAll (args.take k) = some (ns.map (·.data.toList))) ∧ Hid (∀ x ∈ ns, x.size ≤ 1000000) ∧ Below w.heap.size w wr) (fun _ t4 _ _ _ => N - (intOf t4).toNat)
  case atStart => exact ⟨none, 1, 0, 0, [], [], rfl, rfl, Nat.le_refl _, hN1, by omega, World.ownsRow_nil _ _ _ _, Lib.hid rfl, Lib.hid rfl, Lib.hid rfl, Lib.hid rfl, Lib.hid (fun x hx => by cases hx), Below.refl _ _⟩
  case round =>
    obtain ⟨q, j, k, c', ns, xs, rfl, rfl, hj1, hjn, hkj, hR, HJK, HJ, HXS, HB, HZ, hbw⟩ := hrel
    have hwr := hbw.size
    by_cases hlt : j < N
    · have hlt' : (j : Int) < (N : Int) := by omega
      obtain ⟨x, hx⟩ : ∃ x, args[k]? = some x := by
        have : k < args.length := by have := EN.out.1; have := HJK.out; omega
        exact ⟨_, List.getElem?_eq_getElem this⟩
      have hne : ws ≠ [] := fun e => by have := EN.out.2; rw [e] at this; cases this
      obtain ⟨g', o', e', hg', hcells⟩ := (HW.out.1.below hbw).form hne
      injection e' with e'
      injection e' with e1 e2
      subst e1; subst e2
      have hcell := hcells j x (by rw [EN.out.2, HJK.out, List.getElem?_cons_succ]; exact hx)
      obtain ⟨hxs, hxn⟩ := HW.out.2 x (List.mem_of_getElem? hx)
      have c22 := bytesl_any x wr hxs hxn
      have hlen := bytesO_length x.data.toList
      have hgc : j < cap := by omega
      cases hb : bytesO x.data.toList with
      | none =>
        rw [hb] at c22
        have hno : rootO args = none := by rw [rootO, bytesAll_bad HB.out hx hb]; rfl
        have HC := Lib.hid (And.intro c22 hno)
        clear c22 hno hb hlen hcells hne hx hxn
        go_wp2_with fail
        refine HC.out.1.mono ?_
        rintro e w1 ⟨rfl, hb1⟩
        go_wp2
        go_ret
        refine ⟨?_, hbw.trans (hb1.mono hwr)⟩
        rw [HG.out, HC.out.2, Option.getD_none, bad_eq] <;> rfl
      | some b =>
        rw [hb] at c22
        obtain ⟨S, eS⟩ : ∃ S : ByteArray, S = ⟨b.toArray⟩ := ⟨_, rfl⟩
        have hSb : S.data.toList = b := by rw [eS]
        have hSs : S.size ≤ 1000000 := by
          have := hlen b hb
          rw [eS]
          show b.toArray.size ≤ _
          rw [List.size_toArray]
          have : x.data.toList.length = x.size := rfl
          omega
        have c22' : Calls Tryz.prog 22 #[.string x] wr fun e w' => e = .returned (.tuple #[.string S, .bool true]) ∧ Below wr.heap.size wr w' := by rw [eS]; exact c22
        have hB2 := bytesAll_next HB.out hx hb
        rw [← hSb] at hB2
        have HC := Lib.hid (And.intro c22' (And.intro hB2 hSs))
        clear c22 c22' hB2 hSs eS hSb hb hlen hcells hne hx hxn
        go_wp2_with fail
        refine HC.out.1.mono ?_
        rintro e w1 ⟨rfl, hb1⟩
        have hR1 := row_below hR hb1
        have hbw1 := hbw.trans (hb1.mono hwr)
        have hsz := hbw1.size
        have hRA : (w1.alloc (.cells #[.string S] 9)).ownsRow w.heap.size 9 1 (.slice q k c') k xs := own_kept hR1 (World.grownBy_alloc w1 _ none) (fun r e => by cases e)
        have hsrc : Src Tryz.prog 1 28 (.slice (some ⟨w1.heap.size, 0, none⟩) 1 1) 1 [.string S] (w1.alloc (.cells #[.string S] 9)) := by
          have := src_strs (strs_new (w := w1.alloc (.cells #[.string S] 9)) [S] (Blk.new w1 9 _)) 1
          exact this
        have b1 : k + 1 ≤ maxLen := by simp only [maxLen]; omega
        have b2 : (k + 1) * 16 ≤ 140737488355328 := by omega
        have b3 : w.heap.size ≤ (w1.alloc (.cells #[.string S] 9)).heap.size := by rw [World.size_alloc]; omega
        have hBA : Below w.heap.size w (w1.alloc (.cells #[.string S] 9)) := hbw1.alloc hsz _
        clear hR1
        go_wp2_with (at_builtin; refine wpList_app _ w.heap.size 9 i0 (.string ⟨#[]⟩) 1 16 Tryz.underlying28 hi0 hz0 hz1 hz2 rfl (.slice q k c') k xs rfl hRA (.slice (some ⟨w1.heap.size, 0, none⟩) 1 1) 1 [.string S] rfl hsrc b1 b2 b3 ?_; intro v5 w5 hR5 hg5 _ _; obtain ⟨p5, c5, rfl⟩ := row_slice hR5; simp only [List.setIfInBounds_toArray, List.set_cons_succ, List.set_cons_zero])
        go_roundw
        case rel => exact ⟨p5, j + 1, k + 1, c5, ns ++ [S], xs ++ [.string S], rfl, by go_num, by omega, by omega, by omega, hR5, Lib.hid (by have := HJK.out; omega), Lib.hid (by rw [List.length_append, ← HJ.out]; rfl), Lib.hid (by rw [List.map_append, ← HXS.out]; rfl), Lib.hid (by rw [List.map_append]; exact HC.out.2.1), Lib.hid (fun y hy => by
          rcases List.mem_append.1 hy with h | h
          · exact HZ.out y h
          · simp at h; rw [h]; exact HC.out.2.2), hBA.grown hg5 b3 (fun g e => (hRA.lt g e).1)⟩
        case measure => simp [intOf]; omega
    · have ej : j = N := by omega
      have hlt' : ¬ (j : Int) < (N : Int) := by omega
      have hall : bytesAll args = some (ns.map (·.data.toList)) := by
        have := HB.out
        rw [List.take_of_length_le (by have := EN.out.1; have := HJK.out; omega)] at this
        exact this
      have hRR := hR
      rw [HXS.out, HJ.out] at hRR
      have c23 := rootr_own hRR HZ.out (by rw [← HJ.out]; omega)
      rw [← HJ.out] at c23
      obtain ⟨A, eA⟩ : ∃ A, A = rootL (ns.map (·.data.toList)) := ⟨_, rfl⟩
      have hAl : A.length = 32 := by rw [eA]; exact rootL_length _
      rw [← eA] at c23
      have c12 := hexl_any A hAl
      have eO : rootO args = some (hexL A) := by rw [rootO, hall, eA]; rfl
      have hG := HG.out
      rw [eO, Option.getD_some] at hG
      rw [← hG] at c12
      have HC := Lib.hid (And.intro c23 c12)
      clear c23 c12 hG eO eA hAl hRR hall hlt ej
      go_wp2_with fail
      refine HC.out.1.mono ?_
      rintro e w1 ⟨rfl, hb1⟩
      have hb2 := hbw.trans (hb1.mono hwr)
      go_wp2_with fail
      refine (HC.out.2 _).mono ?_
      rintro e w2 ⟨rfl, hb3⟩
      go_wp2
      go_ret
      exact ⟨rfl, hb2.trans (hb3.mono hb2.size)⟩


set_option maxRecDepth 100000 in
set_option maxHeartbeats 8000000 in
theorem told_bad (c : ByteArray) (args : List ByteArray) (p : Option Addr) (cap : Nat) (w : World) (hW : Strs w p (c :: args)) (h5 : c ≠ nRoot) (hn : args.length + 1 ≤ cap) (hc : cap ≤ 9223372036854775807) (h1 : args.length ≠ 1) :
    Calls Tryz.prog 11 #[.slice p (args.length + 1) cap] w fun e w' => e = .returned (.string ⟨(ansX c args).toArray⟩) ∧ Below w.heap.size w w' := by
  rw [ansX, cmdO_many h1 h5, Option.getD_none, bad_eq]
  obtain ⟨g, o, rfl, hg, hcells⟩ := hW.form (by simp)
  have hx0 := hcells 0 c rfl
  rw [Nat.add_zero] at hx0
  obtain ⟨N, eN⟩ : ∃ N, N = args.length + 1 := ⟨_, rfl⟩
  rw [← eN] at hn ⊢
  have hpos : (0 : Int) < (N : Int) := by omega
  have hpos2 : 0 < N := by omega
  have h2 : ¬ (N : Int) = 2 := by omega
  have h3 : ((N : Int) == 2) = false := by rw [beq_eq_false_iff_ne]; exact h2
  have h4 : ((N : Int) != 2) = true := by rw [bne_iff_ne]; exact h2
  have q0 : ¬ c.toList = [114, 111, 111, 116] := ba_ne h5
  have r0 : (c.toList == [114, 111, 111, 116]) = false := ba_beq h5
  clear eN h1 h5 hW hcells
  go_enter Tryz.func11, Tryz.ntmps11
  go_wp2
  go_ret
  exact ⟨rfl, Below.refl _ _⟩

set_option maxRecDepth 100000 in
set_option maxHeartbeats 8000000 in
theorem told_two (c x : ByteArray) (p : Option Addr) (cap : Nat) (w : World) (hW : Strs w p [c, x]) (h5 : c ≠ nRoot) (hs : x.size ≤ 100000) (hne : x.data.toList ≠ []) (hn : 2 ≤ cap) (hc : cap ≤ 9223372036854775807) :
    Calls Tryz.prog 11 #[.slice p 2 cap] w fun e w' => e = .returned (.string ⟨(ansX c [x]).toArray⟩) ∧ Below w.heap.size w w' := by
  obtain ⟨g, o, rfl, hg, hcells⟩ := hW.form (by simp)
  have hx0 := hcells 0 c rfl
  have hx1 := hcells 1 x rfl
  rw [Nat.add_zero] at hx0
  have q0 : ¬ c.toList = [114, 111, 111, 116] := ba_ne h5
  have r0 : (c.toList == [114, 111, 111, 116]) = false := ba_beq h5
  obtain ⟨T, eT⟩ : ∃ T : ByteArray, T = ⟨(ansX c [x]).toArray⟩ := ⟨_, rfl⟩
  have c24 : ∀ w', Calls Tryz.prog 24 #[.string c, .string x] w' fun e w'' => e = .returned (.string T) ∧ Below w'.heap.size w' w'' := fun w' => by rw [eT]; exact one_any c x w' hs hne h5
  rw [← eT]
  have hcall : ∀ y, Calls Tryz.prog 24 #[.string c, .string x] (later w y) fun e w'' => e = .returned (.string T) ∧ ∃ k, w'' = later w k := fun y => later_call (c24 _)
  have l0 : ∀ y, (later w y).cell? ⟨g, o, none⟩ = some (.string c) := fun y => by rw [later_cell w y hg]; exact hx0
  have l1 : ∀ y, (later w y).cell? ⟨g, o + 1, none⟩ = some (.string x) := fun y => by rw [later_cell w y hg]; exact hx1
  have HC := Lib.hid hcall
  clear c24 hcall eT hcells hW hs hne h5
  go_enter Tryz.func11, Tryz.ntmps11
  go_wp2_with fail
  refine wp_region_later (by kernel_rfl) (by kernel_rfl) ?_
  repeat (go_big_quiet_step ((first | (go_at_call 24; exact HC.out _))))
  refine wpQuiet_nil ?_
  rintro _ ⟨y, rfl⟩
  go_wp2
  go_ret
  exact ⟨rfl, later_below w y⟩

theorem toldl_any (c : ByteArray) (args : List ByteArray) (p : Option Addr) (cap : Nat) (w : World) (hW : Strs w p (c :: args)) (hz : ∀ x ∈ args, x.size ≤ 100000 ∧ x.data.toList ≠ []) (hn : args.length + 1 ≤ cap) (hc : cap ≤ 9223372036854775807) (hn2 : args.length + 1 ≤ 100000) :
    Calls Tryz.prog 11 #[.slice p (args.length + 1) cap] w fun e w' => e = .returned (.string ⟨(ansX c args).toArray⟩) ∧ Below w.heap.size w w' := by
  by_cases h5 : c = nRoot
  · subst h5; exact told_root args p cap w hW hz hn hc hn2
  · by_cases h1 : args.length = 1
    · obtain ⟨x, rfl⟩ := List.length_eq_one_iff.1 h1
      obtain ⟨hs, hne⟩ := hz x (by simp)
      exact told_two c x p cap w hW h5 hs hne hn hc
    · exact told_bad c args p cap w hW h5 hn hc h1
end Go.Proofs.YtmhbkilpllgchaaGreatDoor
