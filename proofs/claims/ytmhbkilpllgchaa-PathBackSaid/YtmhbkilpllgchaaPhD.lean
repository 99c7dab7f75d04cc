/- The walk of PathBack. -/
import Derived.Test.YtmhbkilpllgchaaPhC
import Derived.Deep.DeepCutAuto
namespace Go.Proofs.Ytmhbkilpllgchaa
open Go.RowKit BigFrame
set_option linter.unusedVariables false
set_option linter.unusedSimpArgs false

theorem all_names (ss : List ByteArray) (i : Nat) (h : i < ss.length) : (ss.take (i + 1)).all nameB = ((ss.take i).all nameB && nameB (ss.getD i ByteArray.empty)) := by
  rw [List.take_succ_eq_append_getElem h, List.getD, List.getElem?_eq_getElem h]
  simp only [List.all_append, List.all_cons, List.all_nil, Bool.and_true, Option.getD_some]
theorem name_plain {x : ByteArray} (h : nameB x = true) : 1 ≤ x.data.toList.length ∧ ∀ b ∈ x.data.toList, b ≠ 47 := by
  simp only [nameB, nameL, Bool.and_eq_true, decide_eq_true_eq, List.all_eq_true] at h
  refine ⟨h.1.1.1.1, fun b hb => ?_⟩
  have := h.2 b hb
  simp only [plainB, Bool.and_eq_true, bne_iff_ne, ne_eq] at this
  exact this.1
/-- Names that may be, with slashes between, are these. -/
theorem names_of_join (ns : List ByteArray) (h0 : ns ≠ []) (hall : ns.all nameB = true) (h8 : ns.length ≤ 8) (hl : (joinL (ls ns)).length ≤ 128) : namesL (joinL (ls ns)) = some (ls ns) := by
  have hne : ls ns ≠ [] := by simpa [ls] using h0
  have hj := split_join (ls ns) hne (fun n hn => by
    obtain ⟨x, hx, rfl⟩ := List.mem_map.1 hn
    exact (name_plain (List.all_eq_true.1 hall x hx)).2)
  rw [namesL, if_pos, if_neg, if_pos, hj]
  · rw [hj]
    refine ⟨?_, by simpa [ls] using h8⟩
    rw [List.all_eq_true]
    intro n hn
    obtain ⟨x, hx, rfl⟩ := List.mem_map.1 hn
    exact List.all_eq_true.1 hall x hx
  · cases ns with
    | nil => exact absurd rfl h0
    | cons x ns =>
      intro e
      have := (name_plain (List.all_eq_true.1 hall x (by simp))).1
      rw [show ls (x :: ns) = x.data.toList :: ls ns from rfl, joinL_cons] at e
      have := congrArg List.length e
      simp only [List.length_cons, List.length_append, List.length_nil] at this
      omega
  · refine ⟨hl, ?_⟩
    cases ns with
    | nil => exact absurd rfl h0
    | cons x ns => rw [show ls (x :: ns) = x.data.toList :: ls ns from rfl, joinL_cons]; rfl
/-- What Split gives, with slashes ahead, is the path. -/
theorem join_of_names {l : List UInt8} {x : List (List UInt8)} (h : namesL l = some x) (hx : x ≠ []) : joinL x = l := by
  unfold namesL at h
  split at h
  · rename_i h1
    split at h
    · injection h with h; exact absurd h.symm hx
    · split at h
      · injection h with h
        rw [← h, join_split]
        cases l with
        | nil => cases h1.2
        | cons b l =>
          have : b = 47 := Option.some.inj h1.2
          rw [this]; rfl
      · cases h
  · cases h
theorem names_few {l : List UInt8} {x : List (List UInt8)} (h : namesL l = some x) : x.length ≤ 8 := by
  unfold namesL at h
  split at h
  · split at h
    · injection h with h; rw [← h]; simp
    · split at h
      · rename_i h2; injection h with h; rw [← h]; exact h2.2
      · cases h
  · cases h
theorem names_nil {l : List UInt8} (h : namesL l = some []) : l = [47] := by
  unfold namesL at h
  split at h
  · split at h
    · assumption
    · split at h
      · injection h with h; exact absurd h (splitL_ne _)
      · cases h
  · cases h

theorem ls_okN (l : List UInt8) : ls (okN l) = (namesL l).getD [] := by
  unfold ls okN
  rw [List.map_map]
  have : ((fun x : ByteArray => x.data.toList) ∘ bs) = id := by funext x; exact bs_list x
  rw [this, List.map_id]
theorem okN_of {l : List UInt8} {ss : List ByteArray} (h : namesL l = some (ls ss)) : okN l = ss := by
  unfold okN ls at *
  rw [h]
  show (List.map _ ss).map bs = ss
  rw [List.map_map]
  conv => rhs; rw [← List.map_id ss]
  congr 1
set_option maxRecDepth 100000 in
set_option maxHeartbeats 1000000 in
theorem split_long (s : ByteArray) (w : World) (hs : s.size ≤ 4611686018427387904) (h : 128 < s.size) :
    Calls Try.prog 46 #[.string s] w (SplitPost s.data.toList w) := by
  have hn : namesL s.data.toList = none := by
    rw [namesL, if_neg]
    rintro ⟨h1, h2⟩
    have e : s.data.toList.length = s.size := rfl
    omega
  have HN := Lib.hid hn
  have hb : Below w.heap.size w ((w.alloc (.cells #[.slice none 0 0] 23)).alloc (.cells #[.int .i64 1600] 40)) := ((Below.refl _ _).alloc (Nat.le_refl _) _).alloc (by simp) _
  have h1' : (128 : Int) < (s.size : Int) := by omega
  clear h hn
  go_enter Try.func46, Try.ntmps46
  go_wp2
  exact bodyPost_ret (v := .tuple #[.slice none 0 0, .int .i64 1600]) (by simp [results, Try.f46, go_sem]) rfl (split_no HN.out rfl hb)
theorem split_d (s : ByteArray) (ns : List ByteArray) (E : Int) (w : World) (hs : s.size ≤ 4611686018427387904) (hN : okN s.data.toList = ns) (hE : okE s.data.toList = E) :
    Calls Try.prog 46 #[.string s] w fun e w' => ∃ p c, e = .returned (.tuple #[.slice p ns.length c, .int .i64 E]) ∧ Strs w' p ns ∧ Below w.heap.size w w' := by
  subst hN hE
  by_cases h : 128 < s.size
  · exact split_long s w hs h
  · exact split_any s w (by omega)

/-- What PathBack knows when its names are read. -/
structure BackAt (ss : List ByteArray) (j : Nat) (T : ByteArray) (b : Bool) : Prop where
  le : j ≤ ss.length
  text : T.data.toList = joinL (ls (ss.take j))
  all : b = (ss.take j).all nameB
  small : T.size ≤ 4611686018427387904
theorem BackAt.len {ss : List ByteArray} {j : Nat} {T : ByteArray} {b : Bool} (h : BackAt ss j T b) : (ss.take j).length = j := by
  rw [List.length_take]; have := h.le; omega
/-- Names that may be: Split gives them. -/
theorem BackAt.yes {ss : List ByteArray} {j : Nat} {T : ByteArray} (h : BackAt ss j T true) (h1 : 1 ≤ j) (h8 : j ≤ 8) (ht : T.size ≤ 128) (w : World) :
    Calls Try.prog 46 #[.string T] w fun e w' => ∃ p c, e = .returned (.tuple #[.slice p j c, .int .i64 0]) ∧ Strs w' p (ss.take j) ∧ Below w.heap.size w w' := by
  have hl := h.len
  have hn := names_of_join (ss.take j) (fun e => by rw [e] at hl; simp at hl; omega) h.all.symm (by omega) (by
    rw [← h.text]; exact ht)
  rw [← h.text] at hn
  have := split_d T (ss.take j) 0 w h.small (okN_of hn) (by rw [okE, hn])
  rwa [hl] at this
/-- The rest: the three answers. -/
theorem BackAt.no {ss : List ByteArray} {j : Nat} {T : ByteArray} {b : Bool} (h : BackAt ss j T b) (h1 : 1 ≤ j) :
    (j = 1 ∧ (ss.getD 0 ByteArray.empty) = ⟨#[]⟩ ∧ b = false ∧ ∀ w, Calls Try.prog 46 #[.string T] w fun e w' => ∃ p c, e = .returned (.tuple #[.slice p 0 c, .int .i64 0]) ∧ Below w.heap.size w w')
    ∨ ((j = 1 → (ss.getD 0 ByteArray.empty) ≠ ⟨#[]⟩) ∧ ((∀ w, Calls Try.prog 46 #[.string T] w fun e w' => ∃ p c, e = .returned (.tuple #[.slice p 0 c, .int .i64 1600]) ∧ Below w.heap.size w w')
      ∨ (∃ m : Nat, 1 ≤ m ∧ ∀ w, Calls Try.prog 46 #[.string T] w fun e w' => ∃ p c, e = .returned (.tuple #[.slice p m c, .int .i64 0]) ∧ Below w.heap.size w w' ∧ Calls Try.prog 52 #[.string T, .slice p m c] w' fun e w'' => e = .returned (.bool true) ∧ w' = w''))) := by
  have hl := h.len
  have h0 : 0 < ss.length := Nat.lt_of_lt_of_le h1 h.le
  have hone : j = 1 → T.data.toList = 47 :: (ss.getD 0 ByteArray.empty).data.toList := fun e => by
    have := ls_take_succ ss 0 h0
    rw [h.text, e, this]
    rfl
  cases hq : namesL T.data.toList with
  | none =>
    refine .inr ⟨fun e e2 => ?_, .inl fun w => ?_⟩
    · rw [hone e, e2] at hq
      exact absurd hq (by decide)
    · have := split_d T [] 1600 w h.small (by rw [okN, hq]; rfl) (by rw [okE, hq])
      exact this.mono fun e w' ⟨p, c, he, _, hb⟩ => ⟨p, c, he, hb⟩
  | some x =>
    by_cases hx : x = []
    · subst hx
      have e47 := names_nil hq
      have hj1 : j = 1 := by
        rcases Nat.lt_or_ge j 2 with g | g
        · omega
        · exfalso
          have a1 := ls_take_succ ss 0 h0
          have a2 := ls_take_succ ss 1 (by have := h.le; omega)
          have a3 := join_take_le (ss.take j) 2
          rw [List.take_take, Nat.min_eq_left g, ← h.text, e47, a2, a1] at a3
          simp only [List.length_append, List.length_cons, List.length_nil] at a3
          omega
      have := hone hj1
      rw [e47] at this
      injection this with _ this
      have hnm : ss.getD 0 ByteArray.empty = ⟨#[]⟩ := ba_ext this.symm
      refine .inl ⟨hj1, hnm, ?_, fun w => ?_⟩
      · rw [h.all, hj1]
        have := all_names ss 0 h0
        rw [this, hnm]
        show (true && nameB ⟨#[]⟩) = false
        decide +kernel
      · have := split_d T [] 0 w h.small (by rw [okN, hq]; rfl) (by rw [okE, hq])
        exact this.mono fun e w' ⟨p, c, he, _, hb⟩ => ⟨p, c, he, hb⟩
    · refine .inr ⟨fun e e2 => ?_, .inr ⟨x.length, ?_, fun w => ?_⟩⟩
      · rw [hone e, e2] at hq
        have : namesL [47] = some [] := by decide
        exact hx (Option.some.inj (hq.symm.trans this))
      · cases x with
        | nil => exact absurd rfl hx
        | cons a x => simp
      · have hT128 : T.size ≤ 128 := by
          have hq2 := hq
          unfold namesL at hq2
          split at hq2
          · rename_i g; exact g.1
          · cases hq2
        have hlx : (okN T.data.toList).length = x.length := by rw [okN, hq]; simp
        have hls : ls (okN T.data.toList) = x := by rw [ls_okN, hq]; rfl
        have := split_d T (okN T.data.toList) 0 w h.small rfl (by rw [okE, hq])
        rw [hlx] at this
        refine this.mono fun e w' ⟨p, c, he, hS, hb⟩ => ⟨p, c, he, hb, ?_⟩
        have hxp : 0 < x.length := by
          cases x with
          | nil => exact absurd rfl hx
          | cons a x => simp
        have ha := again_yes T p (okN T.data.toList) c w' hS (by rw [hls]; exact join_of_names hq hx) (by omega) (by rw [hlx]; exact names_few hq) (by omega)
        rwa [hlx] at ha

set_option maxRecDepth 100000 in
set_option maxHeartbeats 20000000 in
theorem back_any (pa : Option Addr) (ss : List ByteArray) (c : Nat) (w : World) (hn : ss.length * 16 ≤ 140737488351232) (hx : Strs w pa ss) (hz : ∀ j, j < ss.length → (ss.getD j ByteArray.empty).size ≤ 140737488351232) (hc : ss.length ≤ c ∧ c ≤ 9223372036854775807) :
    Calls Try.prog 12 #[.slice pa ss.length c] w fun e w' => e = .returned (.bool true) ∧ Below w.heap.size w w' := by
  obtain ⟨n, en⟩ : ∃ n, n = ss.length := ⟨_, rfl⟩
  have HX := Lib.hid (And.intro hx (And.intro hz en))
  have hn2 : n ≤ 8796093022208 := by omega
  have hnc : n ≤ c := by rw [en]; exact hc.1
  have hcc : (c : Int) ≤ 9223372036854775807 := by omega
  rw [← en]
  clear en hn hz hx hc
  go_enter Try.func12, Try.ntmps12
  go_wp2_with fail
  refine (awake16_any w).mono ?_
  rintro e w1 ⟨rfl, hb1⟩
  have HB1 := Lib.hid hb1
  have hlow : ∀ a, pa = some a → ∀ j, j < n → w1.cell? (a.add j) = some (.string (ss.getD j ByteArray.empty)) := fun a ha j hj => by
    rw [HX.out.2.2] at hj
    have := HX.out.1.2 a ha j hj
    exact (hb1.cell this.1).trans this.2
  have HLOW := Lib.hid hlow
  clear hb1 hlow
  go_wp2
  go_loop [3, 4, 5] (fun s f i => ∃ (j : Nat) (T : ByteArray) (b : Bool), s = .string T ∧ f = .bool b ∧ i = .int .i64 (j : Int) ∧ j ≤ n ∧ j ≤ 12 ∧ T.size ≤ j * 140737488351233 ∧ Hid (T.data.toList = joinL (ls (ss.take j))) ∧ Hid (b = (ss.take j).all nameB)) (fun _ _ i => 12 - (intOf i).toNat)
  case atStart => exact ⟨0, _, true, rfl, rfl, rfl, by omega, by omega, Nat.zero_le _, Lib.hid rfl, Lib.hid (by simp)⟩
  case round =>
    obtain ⟨j, T, b, rfl, rfl, rfl, hj, hj12, hT, HT, HF⟩ := hrel
    by_cases h1 : j < n ∧ j < 12
    · obtain ⟨h1, h2⟩ := h1
      obtain ⟨a, rfl, hbl, _⟩ := HX.out.1.at (j := j) (by rw [← HX.out.2.2]; exact h1)
      have hcx := HLOW.out a rfl j h1
      have hq := HX.out.2.1 j (by rw [← HX.out.2.2]; exact h1)
      have hts := ls_take_succ ss j (by rw [← HX.out.2.2]; exact h1)
      have hna := all_names ss j (by rw [← HX.out.2.2]; exact h1)
      obtain ⟨q, eq⟩ : ∃ q, q = ss.getD j ByteArray.empty := ⟨_, rfl⟩
      rw [← eq] at hcx hts hna hq
      obtain ⟨T1, hT1⟩ : ∃ T1, T ++ (⟨#[47]⟩ : ByteArray) = T1 := ⟨_, rfl⟩
      obtain ⟨T2, hT2⟩ : ∃ T2, T1 ++ q = T2 := ⟨_, rfl⟩
      have hT2l : T2.data.toList = joinL (ls (ss.take (j + 1))) := by
        rw [← hT2, ← hT1, ByteArray.data_append, ByteArray.data_append, Array.toList_append, Array.toList_append, HT.out, hts]
        simp
      have hT1s : T1.size = T.size + 1 := by rw [← hT1, ByteArray.size_append]; rfl
      have hT2s : T2.size ≤ (j + 1) * 140737488351233 := by
        rw [← hT2, ByteArray.size_append]; omega
      have hadd1 : ∀ w', (Op.stringOp .add T ⟨#[47]⟩).run Try.prog w' = .ok (.string T1) w' := fun w' => by
        rw [run_string_add_sum w' T _ (by have : (⟨#[47]⟩ : ByteArray).size = 1 := rfl; omega), hT1]
      have hadd2 : ∀ w', (Op.stringOp .add T1 q).run Try.prog w' = .ok (.string T2) w' := fun w' => by
        rw [run_string_add_sum w' T1 q (by omega), hT2]
      have HT2 := Lib.hid hT2l
      have hf2 : (b && nameB q) = (ss.take (j + 1)).all nameB := by rw [hna, HF.out]
      have HF2 := Lib.hid hf2
      clear hT2 hT1 hT2l hts hna eq hT1s hf2
      cases b with
      | false =>
        go_wp2
        go_round
        case rel => exact ⟨j + 1, T2, false, rfl, rfl, by go_num, by omega, by omega, hT2s, HT2, Lib.hid (by rw [← HF2.out]; rfl)⟩
        case measure => simp [intOf]; omega
      | true =>
        go_wp2_with (go_at_call 49; refine (pname_any2 q _).mono ?_; rintro e w' ⟨rfl, rfl⟩)
        go_round
        case rel => exact ⟨j + 1, T2, nameB q, rfl, rfl, by go_num, by omega, by omega, hT2s, HT2, Lib.hid (by rw [← HF2.out]; simp)⟩
        case measure => simp [intOf]; omega
    · obtain ⟨F, eF⟩ : ∃ F, F = (b && decide (j ≤ 8) && decide (T.size ≤ 128)) := ⟨_, rfl⟩
      have EF := Lib.hid eF
      clear eF
      have hTs : T.size ≤ 4611686018427387904 := by omega
      have hba : BackAt ss j T b := ⟨by rw [← HX.out.2.2]; exact hj, HT.out, HF.out, hTs⟩
      have BA := Lib.hid hba
      have hex : (j = n ∧ (n : Int) ≤ 12) ∨ (j = 12 ∧ (12 : Int) < (n : Int)) := by omega
      have hS1 : (T.size : Int) ≤ 4611686018427387904 := by omega
      by_cases hfine : b = true ∧ j ≤ 8 ∧ T.size ≤ 128
      · obtain ⟨rfl, k8, kT⟩ := hfine
        obtain ⟨rfl, hex⟩ : j = n ∧ (n : Int) ≤ 12 := by
          rcases hex with h | h
          · exact h
          · omega
        have hlb := hba.len
        by_cases hj0 : j = 0
        · subst hj0
          have hT0 : T = ⟨#[]⟩ := ba_ext (by rw [HT.out]; rfl)
          subst hT0
          have c2 := fun w => split_d ⟨#[47]⟩ [] 0 w (by decide) (by kernel_rfl) (by kernel_rfl)
          have hsl := fun w => run_upto pa 0 c 0 (Nat.zero_le _) w
          have C2 := Lib.hid c2
          clear c2 hba hlb hT hTs hS1 kT k8 hj hj12 hn2 h1 hex hnc
          have hm0 : min (0 : Int) 12 = 0 := rfl
          have hl0 : ((⟨#[]⟩ : ByteArray).size : Int) = 0 := rfl
          go_wp2_with fail
          refine (C2.out _).mono ?_
          rintro e w3 ⟨p3, c3, rfl, hS3, hb3⟩
          have hbw3 := HB1.out.trans (hb3.mono HB1.out.size)
          have hsm := same_any p3 pa [] [] c3 c w3 hS3 ⟨fun _ => rfl, fun a _ j hj => by cases hj⟩ (by decide)
          rw [decide_eq_true rfl] at hsm
          have HS := Lib.hid hsm
          clear hsm hS3
          go_wp2_with (go_at_call 39; refine (num_any2 0 _).mono ?_; rintro e w' ⟨rfl, rfl⟩)
          refine (HS.out).mono ?_
          rintro e _ ⟨rfl, m, rfl⟩
          go_wp2
          go_ret
          exact ⟨rfl, below_drewN hbw3 m⟩
        · have hmin : min (j : Int) 12 = (j : Int) := by omega
          have c2 := fun w => hba.yes (by omega) k8 kT w
          have hsl := fun w => run_upto pa j c j hnc w
          have hne0 : ((j : Int) == 0) = false := by rw [beq_eq_false_iff_ne]; omega
          have q1 : (j : Int) ≤ 8 := by omega
          have q2 : (T.size : Int) ≤ 128 := by omega
          have q3 : ((j : Int) = 0) = False := by simp only [eq_iff_iff, iff_false]; omega
          have C2 := Lib.hid c2
          clear c2 hba hT hTs hS1 kT k8 hj hj12 hn2 h1 hex hnc hj0
          go_wp2_with fail
          refine (C2.out _).mono ?_
          rintro e w3 ⟨p3, c3, rfl, hS3, hb3⟩
          have hbw3 := HB1.out.trans (hb3.mono HB1.out.size)
          have hT3 := ((HX.out.1.below HB1.out).below hb3).take j
          have hsm := same_any p3 pa (ss.take j) (ss.take j) c3 c w3 hS3 hT3 (by rw [hlb]; omega)
          rw [decide_eq_true rfl, hlb] at hsm
          have HS := Lib.hid hsm
          clear hsm hS3 hT3 hlb
          go_wp2_with (go_at_call 39; refine (num_any2 0 _).mono ?_; rintro e w' ⟨rfl, rfl⟩)
          refine (HS.out).mono ?_
          rintro e _ ⟨rfl, m, rfl⟩
          go_wp2
          go_ret
          exact ⟨rfl, below_drewN hbw3 m⟩
      · have hj1 : 1 ≤ j := by
          rcases Nat.lt_or_ge 0 j with g | g
          · exact g
          · exfalso
            obtain rfl : j = 0 := by omega
            exact hfine ⟨by rw [HF.out]; simp, by omega, by omega⟩
        have hway : b = false ∨ (b = true ∧ (8 : Int) < (j : Int)) ∨ (b = true ∧ (j : Int) ≤ 8 ∧ decide ((T.size : Int) ≤ 128) = false) := by
          cases b with
          | false => exact .inl rfl
          | true =>
            by_cases g : 8 < j
            · exact .inr (.inl ⟨rfl, by omega⟩)
            · refine .inr (.inr ⟨rfl, by omega, ?_⟩)
              have : ¬ T.size ≤ 128 := fun h => hfine ⟨rfl, by omega, h⟩
              exact decide_eq_false (by omega)
        have hmin : min (n : Int) 12 = (j : Int) := by omega
        have hne0 : ((j : Int) == 0) = false := by rw [beq_eq_false_iff_ne]; omega
        have q3 : ((j : Int) = 0) = False := by simp only [eq_iff_iff, iff_false]; omega
        have hex2 : (¬ ((j : Int) < (n : Int))) ∨ ((j : Int) < (n : Int) ∧ ¬ ((j : Int) < 12)) := by omega
        obtain ⟨a, rfl, hbl, _⟩ := HX.out.1.at (j := 0) (by rw [← HX.out.2.2]; omega)
        have hc0 := HLOW.out a rfl 0 (by omega)
        have ha0 : a.add 0 = a := by simp [Addr.add]
        rw [ha0] at hc0 hbl
        have h0n : (0 : Int) < (n : Int) := by omega
        have hno := hba.no hj1
        obtain ⟨q, eq⟩ : ∃ q, q = ss.getD 0 ByteArray.empty := ⟨_, rfl⟩
        rw [← eq] at hc0 hno
        clear eq hba hT hTs hfine hn2 hex h1 hnc hj1
        rcases hno with ⟨j1, q0, rfl, c2⟩ | ⟨g0, c2 | ⟨m, m1, c2⟩⟩
        · subst q0
          have e1 : (j : Int) = 1 := by omega
          have e2 : ((j : Int) == 1) = true := by rw [e1]; rfl
          have C2 := Lib.hid c2
          clear c2 hway j1
          rcases hex2 with k1 | ⟨k1, k2⟩
          · go_wp2_with fail
            refine (C2.out _).mono ?_
            rintro e w3 ⟨p3, c3, rfl, hb3⟩
            have hbw3 := HB1.out.trans (hb3.mono HB1.out.size)
            have hc3 := (hb3.cell (Nat.lt_of_lt_of_le hbl HB1.out.size)).trans hc0
            go_wp2_with (go_at_call 39; refine (num_any2 0 _).mono ?_; rintro e w' ⟨rfl, rfl⟩)
            go_ret
            exact ⟨rfl, hbw3⟩
          · exfalso; omega
        all_goals
          have C2 := Lib.hid c2
          clear c2
          have hj1 : ((j : Int) = 1 ∧ ((j : Int) == 1) = true ∧ ¬ q.toList = [] ∧ (q.toList == []) = false) ∨ (((j : Int) = 1) = False ∧ ((j : Int) == 1) = false) := by
            by_cases g : j = 1
            · have hqn : ¬ q.toList = [] := fun e => g0 g (ba_ext (by rw [← Lib.toList_data, e]))
              refine .inl ⟨by omega, by rw [g]; rfl, hqn, by rw [beq_eq_false_iff_ne]; exact hqn⟩
            · refine .inr ⟨by simp only [eq_iff_iff, iff_false]; omega, by rw [beq_eq_false_iff_ne]; omega⟩
          clear g0
        · rcases hex2 with k1 | ⟨k1, k2⟩ <;> rcases hj1 with ⟨j1, j2, j3, j4⟩ | ⟨j1, j2⟩ <;> rcases hway with rfl | ⟨rfl, hw⟩ | ⟨rfl, hw1, hw2⟩
          all_goals first
            | (exfalso; omega)
            | (go_wp2_with fail
               refine (C2.out _).mono ?_
               rintro e w3 ⟨p3, c3, rfl, hb3⟩
               have hbw3 := HB1.out.trans (hb3.mono HB1.out.size)
               have hc3 := (hb3.cell (Nat.lt_of_lt_of_le hbl HB1.out.size)).trans hc0
               go_wp2_with (go_at_call 39; refine (num_any2 1600 _).mono ?_; rintro e w' ⟨rfl, rfl⟩)
               go_ret
               exact ⟨rfl, hbw3⟩)
        · have m2 : ((m : Int) = 0) = False := by simp only [eq_iff_iff, iff_false]; omega
          have m3 : ((m : Int) == 0) = false := by rw [beq_eq_false_iff_ne]; omega
          rcases hex2 with k1 | ⟨k1, k2⟩ <;> rcases hj1 with ⟨j1, j2, j3, j4⟩ | ⟨j1, j2⟩ <;> rcases hway with rfl | ⟨rfl, hw⟩ | ⟨rfl, hw1, hw2⟩
          all_goals first
            | (exfalso; omega)
            | (go_wp2_with fail
               refine (C2.out _).mono ?_
               rintro e w3 ⟨p3, c3, rfl, hb3, ha3⟩
               have hbw3 := HB1.out.trans (hb3.mono HB1.out.size)
               have hc3 := (hb3.cell (Nat.lt_of_lt_of_le hbl HB1.out.size)).trans hc0
               have HA3 := Lib.hid ha3
               clear ha3
               go_wp2_with (first
                | (go_at_call 39; refine (num_any2 0 _).mono ?_; rintro e w' ⟨rfl, rfl⟩)
                | (go_at_call 52; refine (HA3.out).mono ?_; rintro e w' ⟨rfl, rfl⟩))
               go_ret
               exact ⟨rfl, hbw3⟩)
end Go.Proofs.Ytmhbkilpllgchaa
