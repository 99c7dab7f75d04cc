/- tag.Sum where the tag and the parts may be. -/
import Derived.Test.YtmhbkilpllgchaaGreatDoorTagB
import Derived.Test.YtmhbkilpllgchaaGreatDoorTwA
namespace Go.Proofs.YtmhbkilpllgchaaGreatDoor
open Go.RowKit Go.Shelf BigFrame
set_option linter.unusedVariables false
set_option linter.unusedSimpArgs false
attribute [local go_sem] Oper.semAt_some

section
variable {F : Fence} {n : Nat} {P : Program} {ops : Array Oper} {rest : List Oper} {a : Act} {w : World} {Q : Exit → Act → World → Prop}
theorem wpListIn_alN {ty : TypeId} {d : Nat} {ot : TypeId} {pos : String} {after : Array Edge} (z : Array Value)
    (hz : ∀ w, (zeroValue ty).run P w = .ok (.agg z) w) (k : Nat) (hk : w.heap.size = k)
    (h : wpListIn F n P ops Q rest ⟨a.tmps.setIfInBounds d (.pointer (some ⟨k, 0, none⟩)), a.defers⟩ (w.alloc (.cells z ty))) : wpListIn F n P ops Q (⟨some d, .alloc ty, ot, pos, after, none⟩ :: rest) a w := by
  subst hk
  refine wpListIn_plain rfl fun K hK => ?_
  unfold Oper.wpIn
  refine ⟨by simp [Oper.about], ?_⟩
  rw [Oper.semAt_plain F _ _ (by intro c hc; cases hc)]
  simp only [execOp, Instr.alloc, Sem.run_bind, hz, Result.andThen_ok, Sem.run_pure, newVar, newRow]
  exact hK _ _ h
theorem wpListIn_st_row {ty : TypeId} {x y : Operand} {ot : TypeId} {pos : String} {after : Array Edge} (g : Nat) (cells : Array Value)
    (hx : a.eval x = .pointer (some ⟨g, 0, none⟩)) (hy : a.eval y = .agg cells) (t : TypeId) (old : Array Value) (hg : Blk w g t old) (hi : (P.info? ty).map (·.size) = some cells.size)
    (hold : old.size = cells.size) (h1 : cells.all (·.oneCell') = true)
    (h : wpListIn F n P ops Q rest a (w.setRow g cells)) : wpListIn F n P ops Q (⟨none, .store ty x y, ot, pos, after, none⟩ :: rest) a w := by
  refine wpListIn_plain rfl fun K hK => ?_
  unfold Oper.wpIn
  refine ⟨by simp [Oper.about], ?_⟩
  rw [Oper.semAt_plain F _ _ (by intro c hc; cases hc)]
  unfold execOp
  simp only [hx, hy, Instr.storeAt, Instr.sureAddr, Sem.run_bind, Sem.run_pure, Result.andThen_ok, run_storeVar_row w g t ty old cells hg hi hold h1]
  exact hK _ _ h
end

/-- What a digest keeps, in the words of a range over a function. -/
theorem Keeps.others {w w' : World} {D base : Nat} {rv : Value} {l : List UInt8} (hd : DigL w D base rv l) (hK : Keeps w w' D rv.ownBlock) : KeepsOthers w w' := by
  refine ⟨hK.size, fun k o hk ho => ?_⟩
  have hlt : k < w.heap.size := (Array.getElem?_eq_some_iff.1 hk).1
  refine (hK.block k hlt ?_ ?_).trans hk
  · rintro rfl
    have := hd.dig.blk
    unfold Blk at this
    rw [hk] at this
    injection this with this
    subst this
    cases ho
  · intro e
    rcases hd.dig.row.2 with ⟨hn, _⟩ | ⟨g, cap, cur, hv, _, hh, _⟩
    · rw [hn] at e; cases e
    · rw [hv] at e
      injection e with e
      have e : k = g := e
      subst e
      rw [hk] at hh
      injection hh with hh
      subst hh
      cases ho
/-- A digest stays where a block that is no cells turns. -/
theorem DigL.kept_own {w w' : World} {D base : Nat} {rv : Value} {l : List UInt8} {row : Option Nat} (hd : DigL w D base rv l) (hg : w.grownBy w' row) (hr : ∀ r, row = some r → ∃ o : Obj, w.heap[r]? = some o ∧ o.isCells = false) : DigL w' D base rv l := by
  have key : ∀ (k : Nat) (cs : Array Value) (t : TypeId) (fr : Nat × Nat), w.heap[k]? = some (Obj.cells cs t fr) → w'.heap[k]? = some (Obj.cells cs t fr) := fun k cs t fr hk => by
    refine (hg.block k (Array.getElem?_eq_some_iff.1 hk).1 ?_).trans hk
    intro e
    obtain ⟨o, ho, hc⟩ := hr k e.symm
    rw [hk] at ho
    injection ho with ho
    subst ho
    cases hc
  refine ⟨⟨key _ _ _ _ hd.dig.blk, ⟨hd.dig.row.1, ?_⟩, hd.dig.nil⟩⟩
  rcases hd.dig.row.2 with h | ⟨g, cap, cur, hv, hb, hh, rest⟩
  · exact .inl h
  · exact .inr ⟨g, cap, cur, hv, hb, key _ _ _ _ hh, rest⟩
theorem blk_kept {w w' : World} {g : Nat} {t : TypeId} {cs : Array Value} {row : Option Nat} (h : Blk w g t cs) (hg : w.grownBy w' row) (hr : ∀ r, row = some r → ∃ o : Obj, w.heap[r]? = some o ∧ o.isCells = false) : Blk w' g t cs := by
  refine (hg.block g h.lt ?_).trans h
  intro e
  obtain ⟨o, ho, hc⟩ := hr g e.symm
  unfold Blk at h
  rw [h] at ho
  injection ho with ho
  subst ho
  cases hc

theorem kpT_put {h B0 B1 l : Nat} {W : World} {o o' : Obj} (hl : h ≤ l) (h0 : B0 < l) (h1 : B1 < l) (ho : W.heap[l]? = some o) : KpT h B0 B1 W (W.putObj l o') :=
  ⟨(Below.refl h W).grown (grownBy_putObj' W l o') (by have := (Array.getElem?_eq_some_iff.1 ho).1; omega) (fun k e => by cases e; omega), World.putObj_heap_other (by omega), World.putObj_heap_other (by omega)⟩
theorem DigL.write2 {w : World} {D base : Nat} {rv : Value} {l : List UInt8} (h : DigL w D base rv l) (s : ByteArray) (hs : s.size ≤ 140737488351232) (hn : l.length + s.size ≤ 9223372036854775807) (hbase : base ≤ w.heap.size) :
    Calls Tryz.prog 53 #[.pointer (some ⟨D, 0, none⟩), .string s] w fun e w' => e = .returned (.tuple #[]) ∧
      ∃ rv', DigL w' D base rv' (l ++ s.data.toList) ∧ (rv'.ownBlock = none ∨ ∃ g, rv'.ownBlock = some g ∧ w.heap.size ≤ g) ∧ Keeps w w' D rv.ownBlock := by
  have hr := restL_length l
  refine (write_any D base rv (headS l) (restL l) l.length s w (by omega) hs hn h.dig hbase).mono ?_
  rintro e w' ⟨he, rv', hD, hg, hk⟩
  refine ⟨he, rv', ⟨?_⟩, hg, hk⟩
  have e : (l ++ s.data.toList).length = l.length + s.size := by rw [List.length_append]; rfl
  rw [e, headS_append, restL_append]
  exact hD

set_option maxRecDepth 100000 in
set_option maxHeartbeats 4000000 in
/-- **tag.Sum, where the tag and the parts may be.** -/
theorem tsum_ok (t : Nat) (pa : Option Addr) (ss : List ByteArray) (c : Nat) (w : World) (ht : t ≤ 4) (hn : ss.length * 16 ≤ 140737488351232) (hx : Strs w pa ss) (htot : total ss ≤ 65536) :
    Calls Tryz.prog 55 #[.int .i64 (t : Int), .slice pa ss.length c] w fun e w' => e = .returned (tagYes t ss) ∧ Below w.heap.size w w' := by
  obtain ⟨L, eL⟩ : ∃ L, L = w.heap.size := ⟨_, rfl⟩
  have hL1 : Blk (w.alloc (.cells z32 36)) L 36 z32 := by rw [eL]; exact Blk.new _ _ _
  have hb1 : Below L w (w.alloc (.cells z32 36)) := (Below.refl _ _).alloc (by omega) _
  have s1 : (w.alloc (.cells z32 36)).heap.size = L + 1 := by simp [eL]
  obtain ⟨w1, e1⟩ : ∃ w1, w1 = w.alloc (.cells z32 36) := ⟨_, rfl⟩
  rw [← e1] at hL1 hb1 s1
  have hx1 : Strs w1 pa ss := hx.below (by rw [← eL]; exact hb1)
  have hlow : ∀ a, pa = some a → ∀ j, j < ss.length → (a.add j).block < L := fun a ha j hj => by rw [eL]; exact (hx.2 a ha j hj).1
  have EL := Lib.hid (And.intro eL (And.intro e1 s1))
  have HLOW := Lib.hid hlow
  have HTOT := Lib.hid htot
  have hsz : ∀ k, k < ss.length → (ss.getD k ByteArray.empty).size ≤ 65536 := fun k hk => Nat.le_trans (size_le_total ss k hk) htot
  have HSZ := Lib.hid hsz
  have HN := Lib.hid hn
  rw [← eL]
  obtain ⟨n, en⟩ : ∃ n, n = ss.length := ⟨_, rfl⟩
  have EN := Lib.hid en
  have hn2 : n ≤ 9223372036854775806 := by omega
  rw [← en]
  clear eL e1 s1 hx hlow htot hsz hn en
  refine (callsIn_wide (n := 6)).1 ?_
  refine callsIn_of_wp_marks Tryz.func55 rfl trivial ?_ rfl
  simp only [Tryz.ntmps55, List.size_toArray, List.length_cons, List.length_nil, Nat.reduceAdd, Nat.reduceSub, Array.replicate_succ, Array.replicate_zero, List.push_toArray, List.append_toArray, List.nil_append, List.cons_append]
  gi_wp2_with (refine wpListIn_alN (d := 4) z32 zero29 L EL.out.1.symm ?_; simp only [List.setIfInBounds_toArray, List.set_cons_succ, List.set_cons_zero]; rw [← EL.out.2.1])
  gi_loop [6, 20] (fun s i => ∃ (k m : Nat), i = .int .i64 (k : Int) ∧ s = .int .i64 (m : Int) ∧ k ≤ n ∧ m ≤ 65536 ∧ Hid (m = total (ss.take k))) (fun _ i => n - (intOf i).toNat)
  case atStart => exact ⟨0, 0, rfl, rfl, by omega, by omega, Lib.hid (by simp [total])⟩
  case round =>
    obtain ⟨k, m, rfl, rfl, hk, hm, HM⟩ := hrel
    by_cases h1 : k < n
    · obtain ⟨a, rfl, hbl, hcx⟩ := hx1.at (j := k) (by rw [← EN.out]; exact h1)
      have hts := total_take_succ ss k (by rw [← EN.out]; exact h1)
      have htl := total_take_le ss (k + 1)
      rw [← HM.out] at hts
      obtain ⟨q, eq⟩ : ∃ q, q = ss.getD k ByteArray.empty := ⟨_, rfl⟩
      rw [← eq] at hcx hts
      have HTS := Lib.hid hts
      have h2 : m + q.size ≤ 65536 := by have := HTOT.out; omega
      have h2' : ((m : Int) + (q.size : Int)) ≤ 65536 := by omega
      clear eq hts htl
      gi_wp2
      go_round
      case rel => exact ⟨k + 1, m + q.size, by go_num, by go_num, by omega, h2, Lib.hid HTS.out.symm⟩
      case measure => simp [intOf]; omega
    · clear hm HM
      gi_wp2_with fail
      refine ⟨trivial, ?_⟩
      refine (callsIn_wide.2 (DigL.new w1)).mono ?_
      rintro e w2 ⟨D, eD, rfl, hD2, hb2, hs2⟩
      have hLl := hL1.lt
      have eD2 : D = L + 1 := by rw [eD]; exact EL.out.2.2
      have hL2 := hL1.below hb2 hLl
      have hbw2 := hb1.trans (hb2.mono (by omega))
      have hx2 := hx1.below hb2
      have hs2' : w2.heap.size = L + 2 := by omega
      have hsw1 : w1.heap.size = L + 1 := EL.out.2.2
      rw [hsw1] at hD2
      have ES := Lib.hid (And.intro eD2 (And.intro hs2' hsw1))
      clear eD eD2 hs2 hs2' hsw1 hb2 hx1 hL1 hb1
      gi_wp2_with fail
      refine ⟨trivial, ?_⟩
      refine (callsIn_wide.2 (pieces_any (t : Int) pa n c _)).mono ?_
      rintro e _ ⟨rfl, rfl⟩
      have p0 : Blk (w2.alloc (.cells #[.pointer (some ⟨D, 0, none⟩)] 88)) (L + 2) 88 #[.pointer (some ⟨D, 0, none⟩)] := by rw [← ES.out.2.1]; exact Blk.new _ _ _
      have p1 := p0.alloc (.cells #[.int .i64 (t : Int)] 3)
      have p2 := p1.alloc (.cells #[.slice pa n c] 28)
      have q1 : Blk ((w2.alloc (.cells #[.pointer (some ⟨D, 0, none⟩)] 88)).alloc (.cells #[.int .i64 (t : Int)] 3)) (L + 3) 3 #[.int .i64 (t : Int)] := by
        have := Blk.new (w2.alloc (.cells #[.pointer (some ⟨D, 0, none⟩)] 88)) 3 #[.int .i64 (t : Int)]
        rwa [World.size_alloc, ES.out.2.1] at this
      have q2 := q1.alloc (.cells #[.slice pa n c] 28)
      have r2 : Blk (((w2.alloc (.cells #[.pointer (some ⟨D, 0, none⟩)] 88)).alloc (.cells #[.int .i64 (t : Int)] 3)).alloc (.cells #[.slice pa n c] 28)) (L + 4) 28 #[.slice pa n c] := by
        have := Blk.new ((w2.alloc (.cells #[.pointer (some ⟨D, 0, none⟩)] 88)).alloc (.cells #[.int .i64 (t : Int)] 3)) 28 #[.slice pa n c]
        rwa [World.size_alloc, World.size_alloc, ES.out.2.1] at this
      have hb5 : Below w2.heap.size w2 (((w2.alloc (.cells #[.pointer (some ⟨D, 0, none⟩)] 88)).alloc (.cells #[.int .i64 (t : Int)] 3)).alloc (.cells #[.slice pa n c] 28)) := (((Below.refl _ _).alloc (Nat.le_refl _) _).alloc (by simp) _).alloc (by simp; omega) _
      have hD5 := hD2.below hb5
      have hL5 := hL2.below hb5 (by have := hL2.lt; omega)
      have hbw5 : Below L w _ := hbw2.trans (hb5.mono (by have := ES.out.2.1; omega))
      have hx5 := hx2.below hb5
      have s5 : (((w2.alloc (.cells #[.pointer (some ⟨D, 0, none⟩)] 88)).alloc (.cells #[.int .i64 (t : Int)] 3)).alloc (.cells #[.slice pa n c] 28)).heap.size = L + 5 := by rw [World.size_alloc, World.size_alloc, World.size_alloc, ES.out.2.1]
      have e2 : w2.heap.size = L + 2 := ES.out.2.1
      rw [World.size_alloc, e2]
      obtain ⟨W0, eW0⟩ : ∃ W0, W0 = ((w2.alloc (.cells #[.pointer (some ⟨D, 0, none⟩)] 88)).alloc (.cells #[.int .i64 (t : Int)] 3)).alloc (.cells #[.slice pa n c] 28) := ⟨_, rfl⟩
      rw [← eW0] at p2 q2 r2 hD5 hL5 hbw5 hx5 s5 ⊢
      clear eW0 p0 p1 q1 hb5 hD2 hL2 hbw2 hx2 e2
      have S5 := Lib.hid s5
      have hR0 : Reads L (L + 3) (L + 4) (t : Int) pa ss c W0 := ⟨by rw [q2.cell]; rfl, by rw [r2.cell, ← EN.out]; rfl, hx5.1, fun a ha j hj => ⟨HLOW.out a ha j hj, (hx5.2 a ha j hj).2⟩⟩
      gi_wp2_with fail
      refine wpIn_rangeFunc_ownF rfl (by omega) (gf := 94) (lb := #[.pointer (some ⟨L + 3, 0, none⟩), .pointer (some ⟨L + 4, 0, none⟩)]) rfl trivial (enters_of Tryz.func94 (by kernel_rfl) rfl)
        (pieces_stops Fence.wide _ trivial rfl (by omega) L (L + 3) (L + 4) t pa ss c ht HSZ.out (by rw [← EN.out]; exact hn2) W0 hR0 (by rw [S5.out]; omega) (by rw [S5.out]; omega) (by rw [S5.out]; omega))
        (fun h k => h.trans k) (fun W l o o' hl ho h1 h2 => kpT_put (by rw [S5.out] at hl; omega) (by rw [S5.out] at hl; omega) (by rw [S5.out] at hl; omega) ho) (Below.refl _ _) (fun _ => rfl)
        (fun pre W => ((∃ rv, DigL W D (L + 1) rv (cat pre)) ∧ Blk W L 36 z32 ∧ Blk W (L + 2) 88 #[.pointer (some ⟨D, 0, none⟩)] ∧ Blk W (L + 3) 3 #[.int .i64 (t : Int)] ∧ Blk W (L + 4) 28 #[.slice pa n c]) ∧ Below L w W)
        (fun _ _ _ => False)
        (OwnFrom.and (Own.from (fun s A B row hs hg hr => ⟨hs.1.elim fun rv h => ⟨rv, h.kept_own hg hr⟩, blk_kept hs.2.1 hg hr, blk_kept hs.2.2.1 hg hr, blk_kept hs.2.2.2.1 hg hr, blk_kept hs.2.2.2.2 hg hr⟩) _) (ownFrom_below (by rw [EL.out.1]; exact Nat.le_refl _) (by rw [S5.out]; omega)))
        (fun _ _ _ _ _ hs _ _ => hs)
        ⟨⟨⟨_, hD5⟩, hL5, p2, q2, r2⟩, hbw5⟩
        (fun x => { tmps := #[.int .i64 (t : Int), .slice pa n c, undef, undef, .pointer (some ⟨L, 0, none⟩), u5, .int .i64 (m : Int), undef, u8, .pointer (some ⟨L + 2, 0, none⟩), .string x.1, .int .i64 (t : Int), .bool (decide ((t : Int) < 0)), .bool (decide ((t : Int) < 0)), .int .i64 (t : Int), .bool (decide (4 < (t : Int))), .bool (decide ((t : Int) < 0) || decide (4 < (t : Int))), undef, .slice pa n c, .int .i64 (n : Int), .int .i64 (k : Int), .bool false, u22, u23, u24, u25, u26, u27, u28, u29, u30, u31, .pointer (some ⟨D, 0, none⟩), .int .i64 (t : Int), .slice pa n c, .func (.func 94) #[] #[.pointer (some ⟨L + 3, 0, none⟩), .pointer (some ⟨L + 4, 0, none⟩)], .string x.1, undef, undef, undef, undef, undef], defers := [] }) ?assign ?body ?done ?stop
      case assign =>
        intro l x W K hK
        gi_wp2
        exact hK
      case body =>
        rintro l pre x W ⟨⟨⟨rv, hD⟩, hLw, hP, hQ, hR⟩, hB⟩ hlen
        have hxs := x.2
        have hc9 : W.cell? ⟨L + 2, 0, none⟩ = some (.pointer (some ⟨D, 0, none⟩)) := by rw [hP.cell]; rfl
        have hcl := cat_length pre
        have hnn := HN.out
        have hbs := hR.lt
        have HCL := Lib.hid (show (cat pre).length + x.1.size ≤ 9223372036854775807 by omega)
        have hDL := ES.out.1
        have k1 : ∀ g t' cs, Blk W g t' cs → 5 ≠ t' → D ≠ g → ∀ w6, Keeps W w6 D rv.ownBlock → Blk w6 g t' cs := fun g t' cs hg hne hdg w6 hK => (hK.block g hg.lt (fun e => hdg e.symm) (fun e => row_blk_ne hD.dig.row hg hne e.symm)).trans hg
        have K := Lib.hid k1
        have k2 : ∀ g t' cs, Blk W g t' cs → 5 ≠ t' → D ≠ g → ∀ w6, Keeps W w6 D rv.ownBlock → w6.heap[g]? = W.heap[g]? := fun g t' cs hg hne hdg w6 hK => (hK.block g hg.lt (fun e => hdg e.symm) (fun e => row_blk_ne hD.dig.row hg hne e.symm))
        have K2 := Lib.hid k2
        have HDL := Lib.hid hDL
        clear k1 k2 hDL hcl hnn hlen
        gi_wp2_with fail
        refine ⟨trivial, ?_⟩
        refine (CallsIn.inRound l (callsIn_wide.2 (hD.write2 x.1 (by omega) HCL.out (by omega)))).mono ?_
        rintro e w6 ⟨rfl, rv6, hD6, hr6, hK6⟩
        gi_wp2
        have hDL := HDL.out
        have hbel : Below L W w6 := hK6.below hD (by omega) (by omega) (by omega)
        exact ⟨hK6.others hD, ⟨hbel, K2.out _ _ _ hQ (by decide) (by omega) _ hK6, K2.out _ _ _ hR (by decide) (by omega) _ hK6⟩,
          ⟨⟨rv6, by rw [cat_snoc]; exact hD6⟩, K.out _ _ _ hLw (by decide) (by omega) _ hK6, K.out _ _ _ hP (by decide) (by omega) _ hK6, K.out _ _ _ hQ (by decide) (by omega) _ hK6, K.out _ _ _ hR (by decide) (by omega) _ hK6⟩, hB.trans hbel⟩
      case done =>
        rintro E ys W hE rfl ⟨⟨⟨rv, hD⟩, hLw, hP, hQ, hR⟩, hB⟩ hK
        have hc9 : W.cell? ⟨L + 2, 0, none⟩ = some (.pointer (some ⟨D, 0, none⟩)) := by rw [hP.cell]; rfl
        rw [cat_pieces t ss HSZ.out] at hD
        have hEl : E < W.heap.size := (Array.getElem?_eq_some_iff.1 hK).1
        have hnn := HN.out
        have htt := HTOT.out
        have hlen := tagL_length t ss
        have HLEN := Lib.hid (show (tagL t ss).length ≤ 576460752303423488 by omega)
        have hE' : L + 5 ≤ E := by rw [← S5.out]; exact hE
        have HK := Lib.hid hK
        clear hnn htt hlen hE hK
        gi_wp2_with fail
        refine ⟨trivial, ?_⟩
        refine (callsIn_wide.2 (hD.sum HLEN.out)).mono ?_
        rintro e w7 ⟨rfl, hb7⟩
        obtain ⟨Ls, eLs⟩ : ∃ Ls, Ls = sha (tagL t ss) := ⟨_, rfl⟩
        have hLsl : Ls.length = 32 := by rw [eLs, sha_length]
        have hres : tagYes t ss = .tuple #[.agg (bcells Ls), .int .i64 0] := by rw [tagYes, eLs]
        rw [← eLs]
        have HLS := Lib.hid (And.intro eLs (And.intro hLsl hres))
        have hL7 := hLw.below hb7 hLw.lt
        have hK7 : (w7.setRow L (bcells Ls)).heap[E]? = some (.deferred (some [])) := (setRow_other w7 L E _ (by omega)).trans ((hb7.block E hEl).trans HK.out)
        have hLs := hL7.row (bcells Ls)
        have hB7 := below_setRow (hB.trans (hb7.mono (by have := hLw.lt; omega))) (Nat.le_refl L) (bcells Ls)
        have HK7 := Lib.hid hK7
        clear eLs hLsl hres hK7
        gi_wp2_with (refine wpListIn_st_row L (bcells Ls) rfl rfl 36 z32 hL7 (by rw [size29, bcells_size, HLS.out.2.1]) (by rw [bcells_size, HLS.out.2.1]; rfl) (bcells_one _) ?_)
        refine ⟨by simp, .inl ⟨_, _, rfl, run_takeDeferred HK7.out, ?_⟩⟩
        have hLx : Blk ((w7.setRow L (bcells Ls)).putObj E (.deferred none)) L 36 (bcells Ls) := (World.putObj_heap_other (by omega)).trans hLs
        exact ⟨_, results_row_slot rfl _ _ L 36 _ (0, 0) _ rfl hLx Tryz.underlying36 rfl (by rw [size29, bcells_size, HLS.out.2.1]), (by rw [HLS.out.2.2]; rfl), hB7.trans (belowK_b (w := W0) (by rw [S5.out]; omega) _ E _ _ (by rw [S5.out]; omega) HK7.out rfl rfl)⟩
      case stop =>
        rintro D c pre W _ _ h _
        exact h.elim
end Go.Proofs.YtmhbkilpllgchaaGreatDoor
