/- awake of law 16; the walk of Paths. -/
import Derived.Test.YtmhbkilpllgchaaRsp
import Derived.Test.YtmhbkilpllgchaaTagF
namespace Go.Proofs.Ytmhbkilpllgchaa
open Go.RowKit BigFrame
set_option linter.unusedVariables false
set_option linter.unusedSimpArgs false

theorem pname_any2 (s : ByteArray) (w : World) : Calls Try.prog 49 #[.string s] w fun e w' => e = .returned (.bool (nameB s)) ∧ w = w' := pname_any s w
theorem split_c (s : ByteArray) (ns : List ByteArray) (E : Int) (w : World) (hs : s.size ≤ 140737488351232) (hN : okN s.data.toList = ns) (hE : okE s.data.toList = E) :
    Calls Try.prog 46 #[.string s] w fun e w' => ∃ p c, e = .returned (.tuple #[.slice p ns.length c, .int .i64 E]) ∧ Strs w' p ns ∧ Below w.heap.size w w' := by
  subst hN hE
  exact split_any s w hs

set_option maxRecDepth 100000 in
set_option maxHeartbeats 4000000 in
theorem awake16_any (w : World) : Calls Try.prog 51 #[] w fun e w' => e = .returned (.bool true) ∧ Below w.heap.size w w' := by
  have c1 := fun w => split_c ⟨#[47, 97, 47, 98, 99]⟩ [⟨#[97]⟩, ⟨#[98, 99]⟩] 0 w (by decide) (by kernel_rfl) (by kernel_rfl)
  have c2 := fun w => split_c ⟨#[47]⟩ [] 0 w (by decide) (by kernel_rfl) (by kernel_rfl)
  have c3 := fun w => split_c ⟨#[97]⟩ [] 1600 w (by decide) (by kernel_rfl) (by kernel_rfl)
  have c4 := fun w => split_c ⟨#[47, 97, 47, 47, 98]⟩ [] 1600 w (by decide) (by kernel_rfl) (by kernel_rfl)
  have n1 : nameB ⟨#[120]⟩ = true := by decide +kernel
  have n2 : nameB ⟨#[46, 46]⟩ = false := by decide +kernel
  have d1 := fun w => pname_any2 ⟨#[120]⟩ w
  have d2 := fun w => pname_any2 ⟨#[46, 46]⟩ w
  rw [n1] at d1
  rw [n2] at d2
  have C := Lib.hid (And.intro c1 (And.intro c2 (And.intro c3 (And.intro c4 (And.intro d1 d2)))))
  clear c1 c2 c3 c4 d1 d2 n1 n2
  go_enter Try.func51, Try.ntmps51
  go_wp2_with fail
  refine (C.out.1 w).mono ?_
  rintro e w1 ⟨p1, q1, rfl, hS1, hb1⟩
  go_wp2_with fail
  refine (C.out.2.1 w1).mono ?_
  rintro e w2 ⟨p2, q2, rfl, hS2, hb2⟩
  go_wp2_with fail
  refine (C.out.2.2.1 w2).mono ?_
  rintro e w3 ⟨p3, q3, rfl, hS3, hb3⟩
  go_wp2_with fail
  refine (C.out.2.2.2.1 w3).mono ?_
  rintro e w4 ⟨p4, q4, rfl, hS4, hb4⟩
  have hw2 : Below w.heap.size w w2 := hb1.trans (hb2.mono hb1.size)
  have hw3 : Below w.heap.size w w3 := hw2.trans (hb3.mono hw2.size)
  have hw4 : Below w.heap.size w w4 := hw3.trans (hb4.mono hw3.size)
  have hT := ((hS1.below hb2).below hb3).below hb4
  have hw5 : Below w.heap.size w (w4.alloc (.cells #[.string ⟨#[97]⟩, .string ⟨#[98, 99]⟩] 9)) := hw4.alloc hw4.size _
  have hT5 : Strs (w4.alloc (.cells #[.string ⟨#[97]⟩, .string ⟨#[98, 99]⟩] 9)) p1 [⟨#[97]⟩, ⟨#[98, 99]⟩] := hT.below ((Below.refl _ _).alloc (Nat.le_refl _) _)
  have hU5 : Strs (w4.alloc (.cells #[.string ⟨#[97]⟩, .string ⟨#[98, 99]⟩] 9)) (some ⟨w4.heap.size, 0, none⟩) [⟨#[97]⟩, ⟨#[98, 99]⟩] := strs_new _ (Blk.new w4 9 _)
  have hsm := same_any p1 (some ⟨w4.heap.size, 0, none⟩) [⟨#[97]⟩, ⟨#[98, 99]⟩] [⟨#[97]⟩, ⟨#[98, 99]⟩] q1 2 _ hT5 hU5 (by decide)
  rw [decide_eq_true rfl] at hsm
  have HS := Lib.hid hsm
  clear hsm hT hT5 hU5 hS1 hS2 hS3 hS4 hb1 hb2 hb3 hb4 hw2 hw3 hw4
  go_wp2_with fail
  refine HS.out.mono ?_
  rintro e _ ⟨rfl, m, rfl⟩
  go_wp2_with (first
    | (go_at_call 39; (with_reducible first | refine (num_any2 0 _).mono ?_ | refine (num_any2 1600 _).mono ?_); rintro e w' ⟨rfl, rfl⟩)
    | (go_at_call 49; (with_reducible first | refine (C.out.2.2.2.2.1 _).mono ?_ | refine (C.out.2.2.2.2.2 _).mono ?_); rintro e w' ⟨rfl, rfl⟩))
  go_ret
  exact ⟨rfl, below_drewN hw5 m⟩

set_option maxRecDepth 100000 in
set_option maxHeartbeats 4000000 in
theorem paths_any (s : ByteArray) (w : World) (hs : s.size ≤ 140737488351232) : Calls Try.prog 11 #[.string s] w fun e w' => e = .returned (.bool true) ∧ Below w.heap.size w w' := by
  obtain ⟨ns, ens⟩ : ∃ ns, ns = okN s.data.toList := ⟨_, rfl⟩
  obtain ⟨E, eE⟩ : ∃ E, E = okE s.data.toList := ⟨_, rfl⟩
  obtain ⟨nb, enb⟩ : ∃ nb, nb = nameB s := ⟨_, rfl⟩
  have hlen : ns.length * 16 ≤ 140737488355328 := by
    have : ns.length ≤ 128 := by
      rw [ens, okN, List.length_map]
      unfold namesL
      split
      · split
        · simp
        · split
          · rename_i h; show (splitL (List.drop 1 s.data.toList)).length ≤ 128; omega
          · simp
      · simp
    omega
  have c1 := fun w => split_c s ns E w hs ens.symm eE.symm
  have c2 : ∀ w, Calls Try.prog 47 #[.string s] w fun e w' => ∃ p c, e = .returned (.tuple #[.slice p ns.length c, .int .i64 E]) ∧ Strs w' p ns ∧ Below w.heap.size w w' := fun w => by
    rw [ens, eE]; exact rsplit_any s w hs
  have c3 : ∀ (w : World) (pa pb : Option Addr) (c d : Nat), Strs w pa ns → Strs w pb ns → Calls Try.prog 48 #[.slice pa ns.length c, .slice pb ns.length d] w fun e w' => e = .returned (.bool true) ∧ ∃ m, w' = w.drewN m := fun w pa pb c d h1 h2 => by
    have := same_any pa pb ns ns c d w h1 h2 hlen
    rwa [decide_eq_true rfl] at this
  have d1 := fun w => pname_any2 s w
  have d2 := fun w => rname_any s w hs
  rw [← enb] at d1 d2
  obtain ⟨k, ek⟩ : ∃ k, k = ns.length := ⟨_, rfl⟩
  rw [← ek] at c1 c2 c3
  have C := Lib.hid (And.intro c1 (And.intro c2 (And.intro c3 (And.intro d1 (And.intro d2 (And.intro ens (And.intro eE (And.intro enb ek))))))))
  clear c1 c2 c3 d1 d2 ens eE enb ek hlen
  have hbb : (nb == nb) = true := by simp
  go_enter Try.func11, Try.ntmps11
  go_wp2_with fail
  refine (C.out.1 w).mono ?_
  rintro e w1 ⟨p1, q1, rfl, hS1, hb1⟩
  go_wp2_with fail
  refine (C.out.2.1 w1).mono ?_
  rintro e w2 ⟨p2, q2, rfl, hS2, hb2⟩
  have hw2 : Below w.heap.size w w2 := hb1.trans (hb2.mono hb1.size)
  have hT := hS1.below hb2
  go_wp2_with fail
  refine (C.out.2.2.1 w2 _ _ _ _ hT hS2).mono ?_
  rintro e _ ⟨rfl, m, rfl⟩
  go_wp2_with (first
    | (go_at_call 39; refine (num_any2 E _).mono ?_; rintro e w' ⟨rfl, rfl⟩)
    | (go_at_call 49; refine (C.out.2.2.2.1 _).mono ?_; rintro e w' ⟨rfl, rfl⟩)
    | (go_at_call 50; refine (C.out.2.2.2.2.1 _).mono ?_; rintro e w' ⟨rfl, rfl⟩))
  refine (awake16_any _).mono ?_
  rintro e w6 ⟨rfl, hb6⟩
  go_wp2
  go_ret
  exact ⟨rfl, hw2.trans ((below_drewN (Below.refl _ _) m).trans (hb6.mono hw2.size))⟩
end Go.Proofs.Ytmhbkilpllgchaa
