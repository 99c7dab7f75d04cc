/- The walk of ObjectActs. -/
import Derived.Test.YtmhbkilpllgchaaObjL
import Derived.Test.YtmhbkilpllgchaaObjE
import Derived.Test.YtmhbkilpllgchaaRowD
namespace Go.Proofs.Ytmhbkilpllgchaa
open Go.RowKit BigFrame
set_option linter.unusedVariables false
set_option linter.unusedSimpArgs false

def z34 : Array Value := #[.int .i64 0, .string ⟨#[]⟩] ++ z32
theorem zero66 (w : World) : (zeroValue 66).run Try.prog w = .ok (.agg z34) w := by kernel_rfl
theorem size66 : (Try.prog.info? 66).map (·.size) = some 34 := by kernel_rfl
theorem z34_size : z34.size = 34 := by kernel_rfl
theorem StoreAt.below' {w w' : World} {Bs Bm most base : Nat} {kv : KV} (h : StoreAt w Bs Bm most kv) (hb : Below base w w') (h1 : Bs < base) (h2 : Bm < base) : StoreAt w' Bs Bm most kv :=
  ⟨h.blk.below hb h1, h.map.below hb h2, h.top, h.few⟩
/-- A block that was made behind the reference's store stays when the store is written. -/
theorem RefKeeps.blk {w0 w w' : World} {base Br most X : Nat} {kv : KV} {t : TypeId} {cs : Array Value} (hk : RefKeeps w w' Br) (hr : RefAt w0 base Br most kv) (hc : Below w0.heap.size w0 w) (hX : Blk w X t cs) (hX0 : w0.heap.size ≤ X) : Blk w' X t cs := by
  obtain ⟨p, c, hB, hR, hne⟩ := hr.ex
  have hlt := hB.lt
  refine (hk X hX.lt (by omega) fun p' n' c' e h => ?_).trans hX
  have e1 : w.cell? ⟨Br, 1, none⟩ = some (.slice p kv.length c) := (hB.below hc hB.lt).cell 1
  rw [e1] at e
  injection e with e
  rw [← e] at h
  have := (hR.lt X h).2
  omega

set_option maxRecDepth 100000 in
set_option maxHeartbeats 20000000 in
theorem acts_any (most : Int) (pa : Option Addr) (n c : Nat) (f : Nat → ActD) (w : World) (hm1 : -9223372036854775808 ≤ most) (hm2 : most ≤ 9223372036854775807) (hx : Acts w pa n f) (hn : n ≤ maxLen)
    (hz : ∀ j, j < n → (f j).L.length = 32 ∧ (f j).s.size ≤ 140737488351232 ∧ -9223372036854775808 ≤ (f j).z ∧ (f j).z ≤ 9223372036854775807) :
    Calls Try.prog 14 #[.int .i64 most, .slice pa n c] w fun e w' => e = .returned (.bool true) ∧ Below w.heap.size w w' := by
  have hn2 : n ≤ 9223372036854775807 := hn
  by_cases hmost : most < 1 ∨ 1024 < most
  · have N := Lib.hid (And.intro (fun w' => onew_no most w' hmost) (fun w' => rnew_no most w' hmost))
    go_enter Try.func14, Try.ntmps14
    go_wp2_with fail
    refine (N.out.1 w).mono ?_
    rintro e _ ⟨rfl, rfl⟩
    go_wp2_with fail
    refine (N.out.2 w).mono ?_
    rintro e _ ⟨rfl, rfl⟩
    go_wp2_with (first
      | (go_at_call 39; refine (num_any2 1100 _).mono ?_; rintro e w' ⟨rfl, rfl⟩)
      | (go_at_call 55; refine (awake11_any _).mono ?_; rintro e w1 ⟨rfl, hb1⟩))
    go_ret
    exact ⟨rfl, hb1⟩
  · obtain ⟨m, rfl⟩ : ∃ m : Nat, most = (m : Int) := ⟨most.toNat, by omega⟩
    have hm : m ≤ 1024 := by omega
    have Y := Lib.hid (And.intro (fun w' => onew_yes m w' (by omega) (by omega)) (And.intro (fun w' => rnew_yes m w' (by omega) (by omega)) (And.intro hx hz)))
    clear hmost hm1 hm2 hx hz hn
    go_enter Try.func14, Try.ntmps14
    go_wp2_with fail
    refine (Y.out.1 w).mono ?_
    rintro e w1 ⟨Bs, Bm, rfl, hst1, hBs, hBm, hb1⟩
    go_wp2_with fail
    refine (Y.out.2.1 w1).mono ?_
    rintro e w2 ⟨Br, rfl, hr2, hb2⟩
    have hst2 := hst1.below hb2
    have hbw2 := hb1.trans (hb2.mono hb1.size)
    have hBs2 := hst1.blk.lt
    have hBm2 := hst1.map.lt
    have hbs1 := hb1.size
    obtain ⟨base, eb⟩ : ∃ base, base = w1.heap.size := ⟨_, rfl⟩
    rw [← eb] at hr2 hBs2 hBm2 hbs1
    clear hb1 hb2 hst1 eb
    go_wp2_with (go_at_call 39; refine (num_any2 0 _).mono ?_; rintro e w' ⟨rfl, rfl⟩)
    go_loopw [9, 10, 11, 12, 13, 14, 15, 16, 17, 18, 19, 20, 21, 22, 23, 24, 25] (fun i s0 s1 s2 s3 s4 s5 s6 s7 s8 s9 t0 t1 t2 t3 t4 t5 wr => ∃ (q : Nat) (kv : KV), i = .int .i64 (q : Int) ∧ q ≤ n ∧ StoreAt wr Bs Bm m kv ∧ RefAt wr base Br m kv ∧ Below w.heap.size w wr) (fun i _ _ _ _ _ _ _ _ _ _ _ _ _ _ _ _ _ => n - (intOf i).toNat)
    case atStart => exact ⟨0, [], rfl, by omega, hst2, hr2, hbw2⟩
    case round =>
      clear hst2 hr2 hbw2
      obtain ⟨q, kv, rfl, hq, hst, hr, hbw⟩ := hrel
      by_cases h1 : q < n ∧ q < 60
      · obtain ⟨h1, h2⟩ := h1
        obtain ⟨hLl, hs16, hz1, hz2⟩ := Y.out.2.2.2 q h1
        have hxa := Y.out.2.2.1
        cases pa with
        | none => exact absurd (hxa.1 rfl) (by omega)
        | some a =>
        obtain ⟨hsp, hab, hrg⟩ := hxa.2 a rfl q h1
        obtain ⟨ab, ao, sp⟩ := a
        obtain rfl : sp = none := hsp
        obtain ⟨d, ed⟩ : ∃ d, d = f q := ⟨_, rfl⟩
        rw [← ed] at hLl hs16 hz1 hz2 hrg
        obtain ⟨z, s, L⟩ := d
        dsimp only at hLl hs16 hz1 hz2 hab hrg
        obtain ⟨AC, eAC⟩ : ∃ AC, AC = (ActD.cells ⟨z, s, L⟩).toArray := ⟨_, rfl⟩
        have hACs : AC.size = 34 := by rw [eAC]; simp [ActD.cells, bcells_size, hLl]
        have hAC0 : AC[0]? = some (.int .i64 z) := by rw [eAC]; rfl
        have hAC1 : AC[1]? = some (.string s) := by rw [eAC]; rfl
        have hAC2 : ∀ j v, (bcells L).toList[j]? = some v → AC[2 + j]? = some v := fun j v h => by
          rw [eAC, List.getElem?_toArray, ActD.cells, show 2 + j = j + 1 + 1 by omega, List.getElem?_cons_succ, List.getElem?_cons_succ]; exact h
        have hACo : AC.all (·.oneCell') = true := by
          rw [eAC, List.all_toArray, ActD.cells, List.all_cons, List.all_cons, Array.all_toList, bcells_one]; rfl
        have hrg2 : wr.rangeAt ab (ao + q * 34) AC.toList := fun j v hv => (hbw.cell (p := ⟨ab, _, none⟩) hab).trans (hrg j v (by rw [eAC] at hv; exact hv))
        have hACl : AC.toList.toArray = AC := Array.toArray_toList
        have HA := Lib.hid (And.intro hACs (And.intro hAC0 (And.intro hAC1 (And.intro hAC2 (And.intro hACo (And.intro hrg2 (And.intro hLl hs16)))))))
        have hX0 : Blk (wr.alloc (.cells z34 66)) wr.heap.size 66 z34 := Blk.new _ _ _
        have hX5 : Blk ((wr.alloc (.cells z34 66)).setRow wr.heap.size AC) wr.heap.size 66 AC := hX0.row _
        have hbx : Below wr.heap.size wr ((wr.alloc (.cells z34 66)).setRow wr.heap.size AC) := below_setRow ((Below.refl _ _).alloc (Nat.le_refl _) _) (Nat.le_refl _) _
        have hst5 := hst.below hbx
        have hr5 := hr.below hbx
        have hbw5 := hbw.trans (hbx.mono hbw.size)
        have hXw := hbw.size
        have hrX := hr.lt
        clear eAC hACs hAC0 hAC1 hAC2 hACo hrg2 hrg hab hbx hst hbw hLl hs16 hxa ed
        go_upto_region 18 with (first
          | (refine wpList_ld_mid (d := 69) ab (ao + q * 34) AC.toList rfl HA.out.2.2.2.2.2.1 Try.underlying66 rfl (by rw [size66, Array.length_toList, HA.out.1]) ?_; simp only [List.setIfInBounds_toArray, List.set_cons_succ, List.set_cons_zero, Array.toArray_toList])
          | (refine wpList_alN (d := 10) z34 zero66 wr.heap.size rfl (wpList_st_row wr.heap.size AC rfl rfl 66 z34 hX0 (by rw [size66, HA.out.1]) (by rw [HA.out.1, z34_size]) HA.out.2.2.2.2.1 ?_); simp only [List.setIfInBounds_toArray, List.set_cons_succ, List.set_cons_zero]))
        obtain ⟨w5, e5⟩ : ∃ w5, w5 = (wr.alloc (.cells z34 66)).setRow wr.heap.size AC := ⟨_, rfl⟩
        obtain ⟨X, eX⟩ : ∃ X, X = wr.heap.size := ⟨_, rfl⟩
        have hge5 := hr5.ge
        have hbX : base < X := by omega
        rw [← e5] at hX5 hst5 hr5 hbw5 ⊢
        rw [← eX] at hX5 ⊢
        have hbm5 : X ≠ Bm := by omega
        clear e5 eX hX0 hr hXw hrX hge5
        have hc0 : w5.cell? ⟨X, 0, none⟩ = some (.int .i64 z) := (hX5.cell 0).trans HA.out.2.1
        have hc1 : w5.cell? ⟨X, 1, none⟩ = some (.string s) := (hX5.cell 1).trans HA.out.2.2.1
        have hBmw : w.heap.size ≤ Bm := hBm
        rcases (show z < 4 ∨ (4 ≤ z ∧ z < 6) ∨ (4 ≤ z ∧ 6 ≤ z) by omega) with hz4 | ⟨hz4, hz6⟩ | ⟨hz4, hz6⟩
        · obtain ⟨PH, ePH⟩ : ∃ PH, PH = putH m kv s := ⟨_, rfl⟩
          obtain ⟨PE, ePE⟩ : ∃ PE, PE = putE m kv s := ⟨_, rfl⟩
          obtain ⟨PK, ePK⟩ : ∃ PK, PK = putK m kv s := ⟨_, rfl⟩
          have hPl : PH.length = 32 := by rw [ePH]; exact putH_length _ _ _
          have c56 := put_any hst5 s HA.out.2.2.2.2.2.2.2
          rw [← ePH, ← ePE, ← ePK] at c56
          have c57 : ∀ w', RefAt w' base Br m kv → Calls Try.prog 57 #[.pointer (some ⟨Br, 0, none⟩), .string s] w' fun e w'' => e = .returned (.tuple #[.agg (bcells PH), .int .i64 PE]) ∧ RefAt w'' base Br m PK ∧ Below base w' w'' ∧ RefKeeps w' w'' Br := fun w' h' => by
            rw [ePH, ePE, ePK]; exact rput_any h' s HA.out.2.2.2.2.2.2.2
          have hne : ∀ w', (binOp .neq 29 (.agg (bcells PH)) (.agg (bcells PH))).run Try.prog w' = .ok (.bool false) w' := fun w' => by rw [neq_bytes w' PH PH hPl hPl]; simp
          have hne2 : ∀ w', (Op.equalIn 10000 29 (.agg (bcells PH)) (.agg (bcells PH))).run Try.prog w' = .ok true w' := fun w' => by rw [run_equal_bytes w' PH PH hPl hPl]; simp
          have CP := Lib.hid (And.intro c56 (And.intro c57 hPl))
          clear c56 c57 hPl ePH ePE ePK
          go_wp2_with fail
          refine CP.out.1.mono ?_
          rintro e w6 ⟨rfl, hst6, hg6⟩
          have hX6 := hX5.grown hg6 (fun e => hbm5 (Option.some.inj e))
          have hr6 := hr5.grown hg6 hBm2
          have hbw6 : Below w.heap.size w w6 := hbw5.trans (grown_below' hg6 hBmw hbw5.size)
          have hs6 := hbw6.size
          have hXl6 := hX6.lt
          clear hg6 hX5 hr5 hbw5 hst5 hc0 hc1
          have hA0 : Blk (w6.alloc (.cells z32 29)) w6.heap.size 29 z32 := Blk.new _ _ _
          have hA7 : Blk ((w6.alloc (.cells z32 29)).setRow w6.heap.size (bcells PH)) w6.heap.size 29 (bcells PH) := hA0.row _
          have hX7 : Blk ((w6.alloc (.cells z32 29)).setRow w6.heap.size (bcells PH)) X 66 AC := (hX6.alloc _).rowFar (by omega) _
          have hc1 : ((w6.alloc (.cells z32 29)).setRow w6.heap.size (bcells PH)).cell? ⟨X, 1, none⟩ = some (.string s) := (hX7.cell 1).trans HA.out.2.2.1
          have hbx : Below w6.heap.size w6 ((w6.alloc (.cells z32 29)).setRow w6.heap.size (bcells PH)) := below_setRow ((Below.refl _ _).alloc (Nat.le_refl _) _) (Nat.le_refl _) _
          have hst7 := hst6.below hbx
          have hr7 := hr6.below hbx
          have hbw7 := hbw6.trans (hbx.mono hs6)
          go_wp2_with (refine wpList_alN (d := 11) z32 zero29 w6.heap.size rfl (wpList_st_row w6.heap.size (bcells PH) rfl rfl 29 z32 hA0 (by rw [size29, bcells_size, CP.out.2.2]) (by rw [bcells_size, CP.out.2.2]; rfl) (bcells_one _) ?_); simp only [List.setIfInBounds_toArray, List.set_cons_succ, List.set_cons_zero])
          obtain ⟨w7, e7⟩ : ∃ w7, w7 = (w6.alloc (.cells z32 29)).setRow w6.heap.size (bcells PH) := ⟨_, rfl⟩
          obtain ⟨P1, eP⟩ : ∃ P1, P1 = w6.heap.size := ⟨_, rfl⟩
          have hP1 : w6.heap.size ≤ P1 := Nat.le_of_eq eP.symm
          rw [← e7] at hA7 hst7 hr7 hbw7 hbx ⊢
          rw [← eP] at hA7 ⊢
          refine (CP.out.2.1 w7 hr7).mono ?_
          rintro e w8 ⟨rfl, hr8, hb8, hk8⟩
          have hA8 : Blk w8 P1 29 (bcells PH) := hk8.blk hr6 hbx hA7 hP1
          have hst8 := hst7.below' hb8 hBs2 hBm2
          have hbw8 : Below w.heap.size w w8 := hbw7.trans (hb8.mono hbs1)
          have hs8 := hbw8.size
          have hP8 := hA8.lt
          clear e7 eP hP1 hk8 hb8 hr7 hst7 hbw7 hA7 hX7 hc1 hA0 hbx hst6 hr6 hbw6 hX6 hs6 hXl6
          clear w7 w6
          have hD0 : Blk (w8.alloc (.cells z32 29)) w8.heap.size 29 z32 := Blk.new _ _ _
          have hD9 : Blk ((w8.alloc (.cells z32 29)).setRow w8.heap.size (bcells PH)) w8.heap.size 29 (bcells PH) := hD0.row _
          have hA9 : Blk ((w8.alloc (.cells z32 29)).setRow w8.heap.size (bcells PH)) P1 29 (bcells PH) := (hA8.alloc _).rowFar (by omega) _
          have hbx : Below w8.heap.size w8 ((w8.alloc (.cells z32 29)).setRow w8.heap.size (bcells PH)) := below_setRow ((Below.refl _ _).alloc (Nat.le_refl _) _) (Nat.le_refl _) _
          have hst9 := hst8.below hbx
          have hr9 := hr8.below hbx
          have hbw9 := hbw8.trans (hbx.mono hs8)
          have HF := Lib.hid (And.intro hst9 (And.intro hr9 hbw9))
          clear hst9 hr9 hbw9 hst8 hr8 hbw8 hbx hA8
          go_wp2_with (first
            | (refine wpList_alN (d := 13) z32 zero29 w8.heap.size rfl (wpList_st_row w8.heap.size (bcells PH) rfl rfl 29 z32 hD0 (by rw [size29, bcells_size, CP.out.2.2]) (by rw [bcells_size, CP.out.2.2]; rfl) (bcells_one _) ?_); simp only [List.setIfInBounds_toArray, List.set_cons_succ, List.set_cons_zero])
            | (refine wpList_ld_row (d := 137) P1 (bcells PH) rfl 29 hA9 Try.underlying29 rfl (by rw [size29, bcells_size, CP.out.2.2]) ?_; simp only [List.setIfInBounds_toArray, List.set_cons_succ, List.set_cons_zero])
            | (refine wpList_ld_row (d := 138) w8.heap.size (bcells PH) rfl 29 hD9 Try.underlying29 rfl (by rw [size29, bcells_size, CP.out.2.2]) ?_; simp only [List.setIfInBounds_toArray, List.set_cons_succ, List.set_cons_zero])
            | (go_at_call 39; refine (num_any2 PE _).mono ?_; rintro e w' ⟨rfl, rfl⟩)
            | (go_at_call 63; refine (olen_any HF.out.1).mono ?_; rintro e w' ⟨rfl, rfl⟩)
            | (go_at_call 64; refine (rlen_any HF.out.2.1).mono ?_; rintro e w' ⟨rfl, rfl⟩))
          go_roundw
          case rel => exact ⟨q + 1, PK, by go_num, by omega, HF.out.1, HF.out.2.1, HF.out.2.2⟩
          case measure => simp [intOf]; omega
        · have hrgL : w5.rangeAt X 2 (bcells L).toList := fun j v hv => (hX5.cell (2 + j)).trans (HA.out.2.2.2.1 j v hv)
          obtain ⟨OH, eOH⟩ : ∃ O, O = objH s := ⟨_, rfl⟩
          have hOl : OH.length = 32 := by rw [eOH]; exact objH_length s
          have c58 : ∀ w', Calls Try.prog 58 #[.string s] w' fun e w'' => e = .returned (.agg (bcells OH)) ∧ Below w'.heap.size w' w'' := fun w' => by rw [eOH]; exact obj_any s w' HA.out.2.2.2.2.2.2.2
          have hrest : ∀ (HH : List UInt8), HH.length = 32 → ∃ (EA : Int) (KA : KV), (∀ w', StoreAt w' Bs Bm m kv → Calls Try.prog 59 #[.pointer (some ⟨Bs, 0, none⟩), .agg (bcells HH), .string s] w' fun e w'' => e = .returned (.int .i64 EA) ∧ StoreAt w'' Bs Bm m KA ∧ w'.grownBy w'' (some Bm)) ∧ (∀ w', RefAt w' base Br m kv → Calls Try.prog 60 #[.pointer (some ⟨Br, 0, none⟩), .agg (bcells HH), .string s] w' fun e w'' => e = .returned (.int .i64 EA) ∧ RefAt w'' base Br m KA ∧ Below base w' w'') := fun HH hl =>
            ⟨_, _, fun w' h => oadd_any h HH hl s HA.out.2.2.2.2.2.2.2, fun w' h => radd_any h HH hl s HA.out.2.2.2.2.2.2.2⟩
          have CO := Lib.hid (And.intro c58 (And.intro hOl (And.intro hrgL hrest)))
          clear c58 hOl hrgL eOH hrest
          have HW5 := Lib.hid (And.intro hst5 (And.intro hr5 (And.intro hX5 hbw5)))
          have hP0 : Blk (w5.alloc (.cells z32 29)) w5.heap.size 29 z32 := Blk.new _ _ _
          have hP6 : Blk ((w5.alloc (.cells z32 29)).setRow w5.heap.size (bcells L)) w5.heap.size 29 (bcells L) := hP0.row _
          have hXl5 := hX5.lt
          have hb6 : Below w5.heap.size w5 ((w5.alloc (.cells z32 29)).setRow w5.heap.size (bcells L)) := below_setRow ((Below.refl _ _).alloc (Nat.le_refl _) _) (Nat.le_refl _) _
          have hX6 := hX5.below hb6 hX5.lt
          have hc6 : ((w5.alloc (.cells z32 29)).setRow w5.heap.size (bcells L)).cell? ⟨X, 0, none⟩ = some (.int .i64 z) := (hX6.cell 0).trans HA.out.2.1
          have hs6 : ((w5.alloc (.cells z32 29)).setRow w5.heap.size (bcells L)).cell? ⟨X, 1, none⟩ = some (.string s) := (hX6.cell 1).trans HA.out.2.2.1
          clear hst5 hr5 hbw5 hX5 hc1 hX6
          have hw45 : z = 4 ∨ z = 5 := by omega
          go_upto_region 25 with (first
            | (refine wpList_ld_mid (d := 151) X 2 (bcells L).toList rfl CO.out.2.2.1 Try.underlying29 rfl (by rw [size29, Array.length_toList, bcells_size, HA.out.2.2.2.2.2.2.1]) ?_; simp only [List.setIfInBounds_toArray, List.set_cons_succ, List.set_cons_zero, Array.toArray_toList])
            | (refine wpList_alN (d := 15) z32 zero29 w5.heap.size rfl (wpList_st_row w5.heap.size (bcells L) rfl rfl 29 z32 hP0 (by rw [size29, bcells_size, HA.out.2.2.2.2.2.2.1]) (by rw [bcells_size, HA.out.2.2.2.2.2.2.1]; rfl) (bcells_one _) ?_); simp only [List.setIfInBounds_toArray, List.set_cons_succ, List.set_cons_zero]))
          obtain ⟨w6, e6⟩ : ∃ w6, w6 = (w5.alloc (.cells z32 29)).setRow w5.heap.size (bcells L) := ⟨_, rfl⟩
          obtain ⟨P, eP⟩ : ∃ P, P = w5.heap.size := ⟨_, rfl⟩
          rw [← e6] at hP6 hb6 hc6 hs6 ⊢
          rw [← eP] at hP6 hXl5 hb6 ⊢
          have EP := Lib.hid eP
          clear e6 eP hP0 hc0
          rcases hw45 with rfl | rfl
          case' inl =>
            go_wp2_with fail
            refine (CO.out.1 w6).mono ?_
            rintro e w7 ⟨rfl, hb7⟩
            have hP7 := hP6.below hb7 hP6.lt
            have hPW : Blk (w7.setRow P (bcells OH)) P 29 (bcells OH) := hP7.row _
            have hbW : Below P w5 (w7.setRow P (bcells OH)) := below_setRow (hb6.trans (hb7.mono (Nat.le_of_lt hP6.lt))) (Nat.le_refl _) _
            clear hb6 hb7 hP6 hc6 hs6
            go_upto_region 27 with (refine wpList_st_row P (bcells OH) rfl rfl 29 (bcells L) hP7 (by rw [size29, bcells_size, CO.out.2.1]) (by rw [bcells_size, bcells_size, CO.out.2.1, HA.out.2.2.2.2.2.2.1]) (bcells_one _) ?_)
            obtain ⟨W, eW⟩ : ∃ W, W = w7.setRow P (bcells OH) := ⟨_, rfl⟩
            rw [← eW] at hPW hbW ⊢
            obtain ⟨HH, eHH⟩ : ∃ HH, HH = OH := ⟨_, rfl⟩
            rw [← eHH] at hPW
            have hHl : HH.length = 32 := by rw [eHH]; exact CO.out.2.1
            clear eHH eW hP7
          case' inr =>
            go_upto_region 27 with fail
            have hPW := hP6
            have hbW := hb6
            obtain ⟨W, eW⟩ : ∃ W, W = w6 := ⟨_, rfl⟩
            rw [← eW] at hPW hbW ⊢
            obtain ⟨HH, eHH⟩ : ∃ HH, HH = L := ⟨_, rfl⟩
            rw [← eHH] at hPW
            have hHl : HH.length = 32 := by rw [eHH]; exact HA.out.2.2.2.2.2.2.1
            clear eHH eW hP6 hb6 hc6 hs6
          all_goals
            have hXW := HW5.out.2.2.1.below hbW hXl5
            have hcW : W.cell? ⟨X, 1, none⟩ = some (.string s) := (hXW.cell 1).trans HA.out.2.2.1
            rw [EP.out] at hbW
            have hstW := HW5.out.1.below hbW
            have hrW := HW5.out.2.1.below hbW
            have hbwW := HW5.out.2.2.2.trans (hbW.mono HW5.out.2.2.2.size)
            obtain ⟨EA, KA, c59, c60⟩ := CO.out.2.2.2 HH hHl
            have CA := Lib.hid (And.intro (c59 W hstW) c60)
            clear c59 c60 hstW hbW
            go_wp2_with (refine wpList_ld_row (d := 159) P (bcells HH) rfl 29 hPW Try.underlying29 rfl (by rw [size29, bcells_size, hHl]) ?_; simp only [List.setIfInBounds_toArray, List.set_cons_succ, List.set_cons_zero])
            refine CA.out.1.mono ?_
            rintro e w9 ⟨rfl, hst9, hg9⟩
            have hbm9 : P ≠ Bm := by omega
            have hX9 := hXW.grown hg9 (fun e => hbm5 (Option.some.inj e))
            have hP9 := hPW.grown hg9 (fun e => hbm9 (Option.some.inj e))
            have hr9 := hrW.grown hg9 hBm2
            have hbw9 : Below w.heap.size w w9 := hbwW.trans (grown_below' hg9 hBmw hbwW.size)
            clear hg9 hXW hPW hrW hbwW hcW
            go_upto_region 28 with fail
            have hc9 : ∀ x, (later w9 x).cell? ⟨X, 1, none⟩ = some (.string s) := fun x => ((hX9.below (later_below _ x) hX9.lt).cell 1).trans HA.out.2.2.1
            have hnum : ∀ x, Calls Try.prog 39 #[.int .i64 EA] (later w9 x) fun e w'' => e = .returned (.int .i64 EA) ∧ ∃ k, w'' = later w9 k := fun x => later_call_same (num_any EA _)
            refine wp_region_later_tail 6 (by kernel_rfl) (by kernel_rfl) ?_
            simp only [List.take_succ_cons, List.take_zero, List.drop_succ_cons, List.drop_zero]
            repeat (first
              | (refine wpQuiet_ld_g (d := 166) P 0 (bcells HH).toList rfl rfl (by rintro _ ⟨x, rfl⟩; exact range_of_blk (hP9.below (later_below w9 x) hP9.lt)) Try.underlying29 rfl (by rw [size29, Array.length_toList, bcells_size, hHl]) ?_; simp only [List.setIfInBounds_toArray, List.set_cons_succ, List.set_cons_zero, Array.toArray_toList])
              | (go_big_quiet_step ((go_at_call 39; exact hnum _))))
            refine wpQuiet_nil ?_
            rintro _ ⟨x, rfl⟩
            have hst10 := hst9.below (later_below w9 x)
            have hr10 := hr9.below (later_below w9 x)
            have hbw10 := hbw9.trans ((later_below w9 x).mono hbw9.size)
            clear hc9 hnum hst9 hr9 hbw9 hX9 hP9
            obtain ⟨w10, e10⟩ : ∃ w10, w10 = later w9 x := ⟨_, rfl⟩
            rw [← e10] at hst10 hr10 hbw10 ⊢
            clear e10
            go_wp2_with fail
            refine (CA.out.2 w10 hr10).mono ?_
            rintro e w11 ⟨rfl, hr11, hb11⟩
            have hst11 := hst10.below' hb11 hBs2 hBm2
            have hbw11 : Below w.heap.size w w11 := hbw10.trans (hb11.mono hbs1)
            clear hr10 hst10 hbw10 hb11
            go_wp2_with (first
              | (go_at_call 63; refine (olen_any hst11).mono ?_; rintro e w' ⟨rfl, rfl⟩)
              | (go_at_call 64; refine (rlen_any hr11).mono ?_; rintro e w' ⟨rfl, rfl⟩))
            go_roundw
            case rel => exact ⟨q + 1, KA, by go_num, by omega, hst11, hr11, hbw11⟩
            case measure => simp [intOf]; omega
        · have hrgL : w5.rangeAt X 2 (bcells L).toList := fun j v hv => (hX5.cell (2 + j)).trans (HA.out.2.2.2.1 j v hv)
          obtain ⟨OH, eOH⟩ : ∃ O, O = objH s := ⟨_, rfl⟩
          have hOl : OH.length = 32 := by rw [eOH]; exact objH_length s
          have c58 : ∀ w', Calls Try.prog 58 #[.string s] w' fun e w'' => e = .returned (.agg (bcells OH)) ∧ Below w'.heap.size w' w'' := fun w' => by rw [eOH]; exact obj_any s w' HA.out.2.2.2.2.2.2.2
          have hgets : ∀ (HH : List UInt8), HH.length = 32 → ∃ (S : ByteArray) (E : Int), (∀ w', StoreAt w' Bs Bm m kv → Calls Try.prog 61 #[.pointer (some ⟨Bs, 0, none⟩), .agg (bcells HH)] w' fun e w'' => e = .returned (.tuple #[.string S, .int .i64 E]) ∧ Below w'.heap.size w' w'') ∧ (∀ w', RefAt w' base Br m kv → Calls Try.prog 62 #[.pointer (some ⟨Br, 0, none⟩), .agg (bcells HH)] w' fun e w'' => e = .returned (.tuple #[.string S, .int .i64 E]) ∧ Below w'.heap.size w' w'') := fun HH hl =>
            ⟨_, _, fun w' h => oget_any h HH hl, fun w' h => rget_any h HH hl⟩
          obtain ⟨GS, GE, c61, c62⟩ := hgets OH hOl
          obtain ⟨US, UE, d61, d62⟩ := hgets L HA.out.2.2.2.2.2.2.1
          have CO := Lib.hid (And.intro c58 (And.intro hOl (And.intro c61 (And.intro c62 (And.intro d61 d62)))))
          clear c58 hOl hrgL eOH hgets c61 c62 d61 d62
          have HW5 := Lib.hid (And.intro hst5 (And.intro hr5 (And.intro hX5 hbw5)))
          have hXl5 := hX5.lt
          clear hst5 hr5 hbw5 hX5
          go_wp2_with fail
          refine (CO.out.1 w5).mono ?_
          rintro e w6 ⟨rfl, hb6⟩
          have hP0 : Blk (w6.alloc (.cells z32 29)) w6.heap.size 29 z32 := Blk.new _ _ _
          have hP7 : Blk ((w6.alloc (.cells z32 29)).setRow w6.heap.size (bcells OH)) w6.heap.size 29 (bcells OH) := hP0.row _
          have hb7 : Below w5.heap.size w5 ((w6.alloc (.cells z32 29)).setRow w6.heap.size (bcells OH)) := below_setRow (hb6.alloc hb6.size _) hb6.size _
          have hlt7 := hP7.lt
          clear hc0 hc1
          go_wp2_with (first
            | (refine wpList_alN (d := 17) z32 zero29 w6.heap.size rfl (wpList_st_row w6.heap.size (bcells OH) rfl rfl 29 z32 hP0 (by rw [size29, bcells_size, CO.out.2.1]) (by rw [bcells_size, CO.out.2.1]; rfl) (bcells_one _) ?_); simp only [List.setIfInBounds_toArray, List.set_cons_succ, List.set_cons_zero])
            | (refine wpList_ld_row (d := 75) w6.heap.size (bcells OH) rfl 29 hP7 Try.underlying29 rfl (by rw [size29, bcells_size, CO.out.2.1]) ?_; simp only [List.setIfInBounds_toArray, List.set_cons_succ, List.set_cons_zero]))
          obtain ⟨w7, e7⟩ : ∃ w7, w7 = (w6.alloc (.cells z32 29)).setRow w6.heap.size (bcells OH) := ⟨_, rfl⟩
          obtain ⟨P, eP⟩ : ∃ P, P = w6.heap.size := ⟨_, rfl⟩
          rw [← e7] at hP7 hb7 hlt7 ⊢
          rw [← eP] at hP7 hlt7 ⊢
          clear e7 eP hP0 hb6
          clear w6
          refine (CO.out.2.2.1 w7 (HW5.out.1.below hb7)).mono ?_
          rintro e w8 ⟨rfl, hb8⟩
          have hP8 := hP7.below hb8 hP7.lt
          have hb58 := hb7.trans (hb8.mono hb7.size)
          clear hP7 hb7 hb8 hlt7
          go_wp2_with (refine wpList_ld_row (d := 81) P (bcells OH) rfl 29 hP8 Try.underlying29 rfl (by rw [size29, bcells_size, CO.out.2.1]) ?_; simp only [List.setIfInBounds_toArray, List.set_cons_succ, List.set_cons_zero])
          refine (CO.out.2.2.2.1 w8 (HW5.out.2.1.below hb58)).mono ?_
          rintro e w9 ⟨rfl, hb9⟩
          have hb59 := hb58.trans (hb9.mono hb58.size)
          have hX9 := HW5.out.2.2.1.below hb59 hXl5
          have hrg9 : w9.rangeAt X 2 (bcells L).toList := fun j v hv => (hX9.cell (2 + j)).trans (HA.out.2.2.2.1 j v hv)
          clear hP8 hb58 hb9
          go_wp2_with (refine wpList_ld_mid (d := 88) X 2 (bcells L).toList rfl hrg9 Try.underlying29 rfl (by rw [size29, Array.length_toList, bcells_size, HA.out.2.2.2.2.2.2.1]) ?_; simp only [List.setIfInBounds_toArray, List.set_cons_succ, List.set_cons_zero, Array.toArray_toList])
          refine (CO.out.2.2.2.2.1 w9 (HW5.out.1.below hb59)).mono ?_
          rintro e w10 ⟨rfl, hb10⟩
          have hb510 := hb59.trans (hb10.mono hb59.size)
          have hX10 := HW5.out.2.2.1.below hb510 hXl5
          have hrg10 : w10.rangeAt X 2 (bcells L).toList := fun j v hv => (hX10.cell (2 + j)).trans (HA.out.2.2.2.1 j v hv)
          clear hX9 hb59 hb10 hrg9
          go_wp2_with (refine wpList_ld_mid (d := 95) X 2 (bcells L).toList rfl hrg10 Try.underlying29 rfl (by rw [size29, Array.length_toList, bcells_size, HA.out.2.2.2.2.2.2.1]) ?_; simp only [List.setIfInBounds_toArray, List.set_cons_succ, List.set_cons_zero, Array.toArray_toList])
          refine (CO.out.2.2.2.2.2 w10 (HW5.out.2.1.below hb510)).mono ?_
          rintro e w11 ⟨rfl, hb11⟩
          have hb511 := hb510.trans (hb11.mono hb510.size)
          have hst11 := HW5.out.1.below hb511
          have hr11 := HW5.out.2.1.below hb511
          have hbw11 := HW5.out.2.2.2.trans (hb511.mono HW5.out.2.2.2.size)
          clear hX10 hb510 hb11 hrg10 hb511
          go_wp2_with (first
            | (go_at_call 39; (with_reducible first | refine (num_any2 GE _).mono ?_ | refine (num_any2 UE _).mono ?_); rintro e w' ⟨rfl, rfl⟩)
            | (go_at_call 63; refine (olen_any hst11).mono ?_; rintro e w' ⟨rfl, rfl⟩)
            | (go_at_call 64; refine (rlen_any hr11).mono ?_; rintro e w' ⟨rfl, rfl⟩))
          go_roundw
          case rel => exact ⟨q + 1, kv, by go_num, by omega, hst11, hr11, hbw11⟩
          case measure => simp [intOf]; omega
      · have hex : (¬ q < n ∧ (n : Int) ≤ (q : Int)) ∨ ((q : Int) < (n : Int) ∧ (60 : Int) ≤ (q : Int)) := by omega
        rcases hex with ⟨_, hx1⟩ | ⟨hx1, hx2⟩
        all_goals
          go_wp2_with (go_at_call 55; refine (awake11_any _).mono ?_; rintro e w3 ⟨rfl, hb3⟩)
          go_ret
          exact ⟨rfl, hbw.trans (hb3.mono hbw.size)⟩
end Go.Proofs.Ytmhbkilpllgchaa
