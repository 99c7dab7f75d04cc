/- The walk of Digest.Write. -/
import Derived.Test.YtmhbkilpllgchaaGreatDoorShaB
import Derived.Test.YtmhbkilpllgchaaGreatDoorApp
import Derived.Deep.AppendLies
namespace Go.Proofs.YtmhbkilpllgchaaGreatDoor
open Go.RowKit BigFrame

/-- A digest: at block D, its rest in a row of its own. -/
structure Dig (w : World) (D base : Nat) (rv : Value) (h : S8) (r : List UInt8) (n : Nat) : Prop where
  blk : Blk w D 119 (dcells h rv (.int .i64 (n : Int)))
  row : w.ownsRow base 5 1 rv r.length (r.map B)
  nil : r = [] → rv = .slice none 0 0

theorem row_blk_ne {w : World} {base g : Nat} {e t : TypeId} {size n : Nat} {v : Value} {xs : List Value} {cs : Array Value} (h : w.ownsRow base e size v n xs) (hg : Blk w g t cs) (hne : e ≠ t) : v.ownBlock ≠ some g := by
  rcases h.2 with ⟨rfl, _⟩ | ⟨g', cap, cur, rfl, _, hh, _⟩
  · simp [Value.ownBlock]
  · intro he
    have e1 : g' = g := by simpa [Value.ownBlock] using he
    subst e1
    have h1 := hh.symm.trans hg
    injection h1 with h1
    injection h1 with _ ht
    exact hne ht
theorem row_setCell {w : World} {base : Nat} {e : TypeId} {size n : Nat} {v : Value} {xs : List Value} (h : w.ownsRow base e size v n xs) {p : Addr} (hne : v.ownBlock ≠ some p.block) (u : Value) : (w.setCell p u).ownsRow base e size v n xs :=
  h.kept (row := some p.block) ⟨rfl, rfl, rfl, by simp [World.setCell], fun k hk hn => Below.heap_setCell w p u k (fun e => hn (by rw [e]))⟩ (.inr hne)
theorem info5 : (Tryz.prog.info? 5).map (fun i => (i.zero, i.size, i.bytes)) = some (some (.int .u8 0), 1, 1) := by kernel_rfl

/-- What owns a row is a slice. -/
theorem row_slice {w : World} {base : Nat} {e : TypeId} {size n : Nat} {v : Value} {xs : List Value} (h : w.ownsRow base e size v n xs) : ∃ p c, v = .slice p n c := by
  rcases h.2 with ⟨rfl, rfl⟩ | ⟨g, cap, cur, rfl, _⟩
  · exact ⟨_, _, rfl⟩
  · exact ⟨_, _, rfl⟩
theorem src_cut_eq {P : Program} {w : World} {base : Nat} {e : TypeId} {tx e' : TypeId} {g n cap : Nat} {xs : List Value} (hk : P.underlying tx = some (.slice e')) (h : w.ownsRow base e 1 (.slice (some ⟨g, 0, none⟩) n cap) n xs) (a : Nat) (ha : a ≤ n) (hc : n ≤ cap) (h1 : ∀ u ∈ xs, u.oneCell' = true) (he : cap = a) (c : Nat) :
    Src P 1 tx (.slice (some ⟨g, 0, none⟩) (n - a) c) (n - a) (xs.drop a) w := by
  have hl : (xs.drop a).length = (n - a) * 1 := by rw [List.length_drop, h.1]; omega
  refine Src.ofSlice w hk _ _ _ _ hl (fun j u hu => ?_) (fun u hu => h1 u (List.mem_of_mem_drop hu))
  have := (List.getElem?_eq_some_iff.1 hu).1
  rw [List.length_drop, h.1] at this
  omega
theorem src_cut_ne {P : Program} {w : World} {base : Nat} {e : TypeId} {tx e' : TypeId} {g n cap : Nat} {xs : List Value} (hk : P.underlying tx = some (.slice e')) (h : w.ownsRow base e 1 (.slice (some ⟨g, 0, none⟩) n cap) n xs) (a : Nat) (ha : a ≤ n) (hc : n ≤ cap) (h1 : ∀ u ∈ xs, u.oneCell' = true) (he : ¬ cap = a) :
    Src P 1 tx (.slice (some ⟨g, a, none⟩) (n - a) (cap - a)) (n - a) (xs.drop a) w := by
  have := src_cut hk h a ha hc h1
  rwa [if_neg he] at this
theorem byteCells_B (s : ByteArray) : byteCells s = s.data.toList.map B := rfl
theorem map_B_one (l : List UInt8) : ∀ u ∈ l.map B, u.oneCell' = true := fun u hu => by
  obtain ⟨_, _, rfl⟩ := List.mem_map.1 hu
  rfl
/-- What a digest's Write leaves as it was. -/
structure Keeps (w w' : World) (D : Nat) (row : Option Nat) : Prop where
  os : w'.os = w.os
  tape : w'.tape = w.tape
  output : w'.output = w.output
  size : w.heap.size ≤ w'.heap.size
  block : ∀ k, k < w.heap.size → k ≠ D → some k ≠ row → w'.heap[k]? = w.heap[k]?

theorem keeps_on {w a b : World} {D : Nat} {row : Option Nat} (h : Keeps w a D row) (k : a.grownBy b (some D)) : Keeps w b D row :=
  ⟨k.os.trans h.os, k.tape.trans h.tape, k.output.trans h.output, Nat.le_trans h.size k.size, fun i hi h1 h2 => (k.block i (Nat.lt_of_lt_of_le hi h.size) (by simpa using h1)).trans (h.block i hi h1 h2)⟩
theorem write_end {w2 : World} {D base : Nat} {h : S8} {rv : Value} {n sz : Nat} {p2 : Option Addr} {c2 : Nat} (l : List UInt8) (m k L : Nat) (hL : L = l.length) (hk : k = m)
    (hD : Blk w2 D 119 (dcells (Go.Proofs.YtmhbkilpllgchaaGreatDoor.hs h l k) rv (.int .i64 ((n : Int) + (sz : Int))))) (ho : w2.ownsRow base 5 1 (.slice p2 (0 + (L - 64 * k)) c2) (0 + (L - 64 * k)) ([] ++ (l.map B).drop (64 * k)))
    (hn : L - 64 * k = 0 → .slice p2 (0 + (L - 64 * k)) c2 = Value.slice none 0 0) :
    Dig (w2.setCell ⟨D, 8, none⟩ (.slice p2 (L - 64 * k) c2)) D base (.slice p2 (L - 64 * k) c2) (Go.Proofs.YtmhbkilpllgchaaGreatDoor.hs h l m) (l.drop (64 * m)) (n + sz) := by
  subst hk
  subst hL
  rw [Nat.zero_add] at ho hn
  rw [List.nil_append] at ho
  refine ⟨?_, ?_, ?_⟩
  · rw [Int.natCast_add]
    exact hD.set_ 8 _
  · rw [List.map_drop, List.length_drop]
    exact row_setCell ho (row_blk_ne ho hD (by decide)) _
  · intro e
    refine hn ?_
    have := congrArg List.length e
    simpa using this

set_option maxRecDepth 100000 in
set_option maxHeartbeats 3000000 in
theorem write_some (D base : Nat) (rv : Value) (h : S8) (r : List UInt8) (n : Nat) (s : ByteArray) (w : World) (hr : r.length < 64) (hs : s.size ≤ 140737488351232) (hn : n + s.size ≤ 9223372036854775807)
    (hd : Dig w D base rv h r n) (hbase : base ≤ w.heap.size) (hcase : ¬ (rv = .slice none 0 0 ∧ s.size = 0)) (l : List UInt8) (hl : l = r ++ s.data.toList) (m : Nat) (hm : m = l.length / 64) :
    Calls Tryz.prog 53 #[.pointer (some ⟨D, 0, none⟩), .string s] w fun e w' => e = .returned (.tuple #[]) ∧
      ∃ rv', Dig w' D base rv' (Go.Proofs.YtmhbkilpllgchaaGreatDoor.hs h l m) (l.drop (64 * m)) (n + s.size) ∧ (rv'.ownBlock = none ∨ ∃ g, rv'.ownBlock = some g ∧ w.heap.size ≤ g) ∧ Keeps w w' D rv.ownBlock := by
  obtain ⟨i0, hi0, hz0, hz1, hz2⟩ := info_parts info5
  have hlt := hd.blk.lt
  have hne := row_blk_ne hd.row hd.blk (by decide)
  have c9 : w.cell? ⟨D, 9, none⟩ = some (.int .i64 (n : Int)) := by rw [hd.blk.cell]; rfl
  have f9 := hd.blk.frozen 9
  have f8 := hd.blk.frozen 8
  have c8 : w.cell? ⟨D, 8, none⟩ = some rv := by rw [hd.blk.cell]; rfl
  have hB1 := hd.blk.set_ 9 (.int .i64 ((n : Int) + (s.size : Int)))
  have hR1 := row_setCell (p := ⟨D, 9, none⟩) hd.row hne (.int .i64 ((n : Int) + (s.size : Int)))
  go_enter Tryz.func53, Tryz.ntmps53
  go_wp2_with (at_builtin; refine wpList_app _ base 5 i0 (.int .u8 0) 1 1 Tryz.underlying27 hi0 hz0 hz1 hz2 rfl rv r.length (r.map B) rfl hR1 (.string s) s.size (byteCells s) rfl (Src.ofString _ Tryz.underlying9 s) (by simp only [maxLen]; omega) (by omega) (by simpa using hbase) ?_; intro v1 w1 hown1 hgr1 hat1 hnil1; obtain ⟨g, cap, rfl, hg1, hg2, hg3, hg4⟩ := row_form hown1 (fun e => hcase (hnil1.1 e)); have hD1 := hB1.grown hgr1 (fun e => hne e.symm); have f81 := hD1.frozen 8; have c81 : w1.cell? ⟨D, 8, none⟩ = some rv := (by rw [hD1.cell]; rfl); simp only [List.setIfInBounds_toArray, List.set_cons_succ, List.set_cons_zero])
  have hne1 := row_blk_ne hown1 hD1 (by decide)
  have hD2 := hD1.set_ 8 (.slice (some ⟨g, 0, none⟩) (r.length + s.size) cap)
  have hR2 := row_setCell (p := ⟨D, 8, none⟩) hown1 hne1 (.slice (some ⟨g, 0, none⟩) (r.length + s.size) cap)
  have K2 : Keeps w (w1.setCell ⟨D, 8, none⟩ (.slice (some ⟨g, 0, none⟩) (r.length + s.size) cap)) D rv.ownBlock := by
    refine ⟨hgr1.os, hgr1.tape, hgr1.output, by simpa [World.setCell] using hgr1.size, fun k hk h1 h2 => ?_⟩
    exact (Below.heap_setCell w1 ⟨D, 8, none⟩ _ k h1).trans ((hgr1.block k (by simpa [World.setCell] using hk) h2).trans (Below.heap_setCell w ⟨D, 9, none⟩ _ k h1))
  have hL : r.length + s.size = l.length := by rw [hl, List.length_append]; rfl
  have hxs : r.map B ++ byteCells s = l.map B := by rw [hl, List.map_append, byteCells_B]
  rw [hxs] at hR2
  obtain ⟨wo, ew⟩ : ∃ wo, wo = w1.setCell ⟨D, 8, none⟩ (.slice (some ⟨g, 0, none⟩) (r.length + s.size) cap) := ⟨_, rfl⟩
  rw [← ew] at hD2 hR2 K2 ⊢
  obtain ⟨L, eL⟩ : ∃ L, L = r.length + s.size := ⟨_, rfl⟩
  rw [← eL] at hD2 hR2 hL hg3 hown1 hnil1 hat1 hne1 ⊢
  have hDo : Blk wo D 119 (dcells h (.slice (some ⟨g, 0, none⟩) L cap) (.int .i64 ((n : Int) + (s.size : Int)))) := hD2
  have hgD : g ≠ D := fun e => hne1 (by simp [Value.ownBlock, e])
  have hgo : g < wo.heap.size := by rw [ew]; simpa [World.setCell] using hg2
  have E := Lib.hid (And.intro ew eL)
  clear ew eL hD2 hown1 hgr1 hat1 hnil1 hD1 f81 c81 c8 c9 f8 f9 hB1 hR1 hg2
  have hcell : ∀ i, i < L → wo.cell? ⟨g, i, none⟩ = some (B (l.getD i 0)) := by
    intro i hi
    rw [hR2.cellAt i (by omega), List.getElem?_map, List.getD_eq_getElem?_getD, List.getElem?_eq_getElem (by omega)]
    rfl
  have HH := Lib.hid (And.intro hl (And.intro hL hm))
  have hLs : L ≤ 140737488355328 := by rw [E.out.2]; omega
  have hcapi : cap ≤ 9223372036854775807 := by simp only [maxLen] at hg4; omega
  clear hl hL hm
  go_loopw [4] (fun i wr => ∃ k : Nat, 64 * k ≤ L ∧ i = .int .i64 ((64 * k : Nat) : Int) ∧ Blk wr D 119 (dcells (Go.Proofs.YtmhbkilpllgchaaGreatDoor.hs h l k) (.slice (some ⟨g, 0, none⟩) L cap) (.int .i64 ((n : Int) + (s.size : Int)))) ∧ wo.grownBy wr (some D)) (fun i _ => L - (intOf i).toNat)
  case atStart => exact ⟨0, by omega, rfl, hDo, World.grownBy.refl _ _⟩
  case round =>
    obtain ⟨k, hk, rfl, hDk, hgr⟩ := hrel
    have d8 : wr.cell? ⟨D, 8, none⟩ = some (.slice (some ⟨g, 0, none⟩) L cap) := by rw [hDk.cell]; rfl
    have d8f := hDk.frozen 8
    by_cases h1 : 64 * k + 64 ≤ L
    · have hb : BytesAt wr g (64 * k) 64 (bts l (64 * k)) := by
        intro i hi
        rw [hgr.cell_far ⟨g, 64 * k + i, none⟩ hgo (by simp [hgD])]
        exact hcell _ (by omega)
      go_wp2_with fail
      refine (turn_any D g (64 * k) 64 (cap - 64 * k) (bts l (64 * k)) _ _ _ wr (by omega) (by omega) hb (by have := hgr.size; omega) hDk).mono ?_
      rintro e w3 ⟨rfl, hD3, hgr3⟩
      go_wp2_with fail
      go_roundw
      case rel => exact ⟨k + 1, by omega, by go_num, hD3, grown_trans hgr hgr3⟩
      case measure => simp [intOf]; omega
    · have HM := Lib.hid (show k = m by have := HH.out.2.1; have := HH.out.2.2; omega)
      have hRk : wr.ownsRow base 5 1 (.slice (some ⟨g, 0, none⟩) L cap) L (l.map B) := hR2.kept hgr (.inr (by simp [Value.ownBlock, hgD]))
      have hsz := hgr.size
      have hbw : base ≤ wr.heap.size := by have := K2.size; omega
      go_wp2_with (at_builtin; first
        | (refine wpList_app _ base 5 i0 (.int .u8 0) 1 1 Tryz.underlying27 hi0 hz0 hz1 hz2 rfl (.slice none 0 0) 0 [] rfl (World.ownsRow_nil _ base 5 1) (.slice (if cap = 64 * k then some ⟨g, 0, none⟩ else some ⟨g, 64 * k, none⟩) (L - 64 * k) (cap - 64 * k)) (L - 64 * k) ((l.map B).drop (64 * k)) rfl (src_cut Tryz.underlying27 hRk (64 * k) hk hg3 (map_B_one l)) (by simp only [maxLen] at hg4 ⊢; omega) (by omega) hbw ?_; intro v2 w2 hown2 hgr2 hat2 hnil2; obtain ⟨p2, c2, rfl⟩ := row_slice hown2; have hD3 := hDk.grown hgr2 (by simp [Value.ownBlock]); have f82 := hD3.frozen 8; have c82 : w2.cell? ⟨D, 8, none⟩ = some (.slice (some ⟨g, 0, none⟩) L cap) := (by rw [hD3.cell]; rfl); simp only [List.setIfInBounds_toArray, List.set_cons_succ, List.set_cons_zero])
        | (have hc : cap = 64 * k := (by assumption); refine wpList_app _ base 5 i0 (.int .u8 0) 1 1 Tryz.underlying27 hi0 hz0 hz1 hz2 rfl (.slice none 0 0) 0 [] rfl (World.ownsRow_nil _ base 5 1) (.slice (some ⟨g, 0, none⟩) (L - 64 * k) _) (L - 64 * k) ((l.map B).drop (64 * k)) rfl (src_cut_eq Tryz.underlying27 hRk (64 * k) hk hg3 (map_B_one l) hc _) (by simp only [maxLen] at hg4 ⊢; omega) (by omega) hbw ?_; intro v2 w2 hown2 hgr2 hat2 hnil2; obtain ⟨p2, c2, rfl⟩ := row_slice hown2; have hD3 := hDk.grown hgr2 (by simp [Value.ownBlock]); have f82 := hD3.frozen 8; have c82 : w2.cell? ⟨D, 8, none⟩ = some (.slice (some ⟨g, 0, none⟩) L cap) := (by rw [hD3.cell]; rfl); simp only [List.setIfInBounds_toArray, List.set_cons_succ, List.set_cons_zero])
        | (have hc : ¬ cap = 64 * k := (by assumption); refine wpList_app _ base 5 i0 (.int .u8 0) 1 1 Tryz.underlying27 hi0 hz0 hz1 hz2 rfl (.slice none 0 0) 0 [] rfl (World.ownsRow_nil _ base 5 1) (.slice (some ⟨g, 64 * k, none⟩) (L - 64 * k) (cap - 64 * k)) (L - 64 * k) ((l.map B).drop (64 * k)) rfl (src_cut_ne Tryz.underlying27 hRk (64 * k) hk hg3 (map_B_one l) hc) (by simp only [maxLen] at hg4 ⊢; omega) (by omega) hbw ?_; intro v2 w2 hown2 hgr2 hat2 hnil2; obtain ⟨p2, c2, rfl⟩ := row_slice hown2; have hD3 := hDk.grown hgr2 (by simp [Value.ownBlock]); have f82 := hD3.frozen 8; have c82 : w2.cell? ⟨D, 8, none⟩ = some (.slice (some ⟨g, 0, none⟩) L cap) := (by rw [hD3.cell]; rfl); simp only [List.setIfInBounds_toArray, List.set_cons_succ, List.set_cons_zero]))
      all_goals
        go_end0
        have hK := write_end l m k L HH.out.2.1 HM.out hD3 hown2 (fun e => hnil2.2 ⟨trivial, e⟩)
        refine ⟨rfl, .slice p2 (L - 64 * k) c2, hK, ?_, ?_⟩
        · rcases hat2 with e | e
          · exact .inl (by simpa [Value.ownBlock] using e)
          · exact .inr ⟨_, by simpa [Value.ownBlock] using e, by have := K2.size; omega⟩
        · exact keeps_on K2 (grown_setCell (grown_trans hgr ⟨hgr2.os, hgr2.tape, hgr2.output, hgr2.size, fun i hi _ => hgr2.block i hi (by simp [Value.ownBlock])⟩) rfl _)
set_option maxRecDepth 100000 in
set_option maxHeartbeats 3000000 in
theorem write_nil (D base : Nat) (h : S8) (n : Nat) (s : ByteArray) (w : World) (hs : s.size ≤ 0) (hn : n + s.size ≤ 9223372036854775807)
    (hd : Dig w D base (.slice none 0 0) h [] n) (hbase : base ≤ w.heap.size) :
    Calls Tryz.prog 53 #[.pointer (some ⟨D, 0, none⟩), .string s] w fun e w' => e = .returned (.tuple #[]) ∧ Dig w' D base (.slice none 0 0) h [] (n + s.size) ∧ Keeps w w' D none := by
  obtain ⟨i0, hi0, hz0, hz1, hz2⟩ := info_parts info5
  have hlt := hd.blk.lt
  have c9 : w.cell? ⟨D, 9, none⟩ = some (.int .i64 (n : Int)) := by rw [hd.blk.cell]; rfl
  have f9 := hd.blk.frozen 9
  have f8 := hd.blk.frozen 8
  have c8 : w.cell? ⟨D, 8, none⟩ = some (.slice none 0 0) := by rw [hd.blk.cell]; rfl
  have hB1 := hd.blk.set_ 9 (.int .i64 ((n : Int) + (s.size : Int)))
  have hR1 : (w.setCell ⟨D, 9, none⟩ (.int .i64 ((n : Int) + (s.size : Int)))).ownsRow base 5 1 (.slice none 0 0) 0 [] := World.ownsRow_nil _ _ _ _
  go_enter Tryz.func53, Tryz.ntmps53
  go_wp2_with (at_builtin; refine wpList_app _ base 5 i0 (.int .u8 0) 1 1 Tryz.underlying27 hi0 hz0 hz1 hz2 rfl (.slice none 0 0) 0 [] rfl hR1 (.string s) s.size (byteCells s) rfl (Src.ofString _ Tryz.underlying9 s) (by simp only [maxLen]; omega) (by omega) (by simpa using hbase) ?_; intro v1 w1 hown1 hgr1 hat1 hnil1; obtain rfl := hnil1.2 ⟨rfl, Nat.le_zero.1 hs⟩; have hD1 := hB1.grown hgr1 (by simp [Value.ownBlock]); have f81 := hD1.frozen 8; have c81 : w1.cell? ⟨D, 8, none⟩ = some (.slice none 0 0) := (by rw [hD1.cell]; rfl); simp only [List.setIfInBounds_toArray, List.set_cons_succ, List.set_cons_zero])
  have hD2 := hD1.set_ 8 (.slice none 0 0)
  have K2 : Keeps w (w1.setCell ⟨D, 8, none⟩ (.slice none 0 0)) D none := by
    refine ⟨hgr1.os, hgr1.tape, hgr1.output, by simpa [World.setCell] using hgr1.size, fun k hk h1 h2 => ?_⟩
    exact (Below.heap_setCell w1 ⟨D, 8, none⟩ _ k h1).trans ((hgr1.block k (by simpa [World.setCell] using hk) (by simp [Value.ownBlock])).trans (Below.heap_setCell w ⟨D, 9, none⟩ _ k h1))
  obtain ⟨wo, ew⟩ : ∃ wo, wo = w1.setCell ⟨D, 8, none⟩ (.slice none 0 0) := ⟨_, rfl⟩
  rw [← ew] at hD2 K2 ⊢
  have hDo : Blk wo D 119 (dcells h (.slice none 0 0) (.int .i64 ((n : Int) + (s.size : Int)))) := hD2
  clear ew hD2 hown1 hgr1 hat1 hnil1 hD1 f81 c81 c8 c9 f8 f9 hB1 hR1
  go_loopw [4] (fun i wr => i = .int .i64 ((0 : Nat) : Int) ∧ wr = wo) (fun i _ => (intOf i).toNat)
  case atStart => exact ⟨rfl, rfl⟩
  case round =>
    obtain ⟨rfl, rfl⟩ := hrel
    have d8 : wr.cell? ⟨D, 8, none⟩ = some (.slice none 0 0) := by rw [hDo.cell]; rfl
    have d8f := hDo.frozen 8
    have hbw : base ≤ wr.heap.size := by have := K2.size; omega
    go_wp2_with (at_builtin; refine wpList_app _ base 5 i0 (.int .u8 0) 1 1 Tryz.underlying27 hi0 hz0 hz1 hz2 rfl (.slice none 0 0) 0 [] rfl (World.ownsRow_nil _ base 5 1) (.slice none 0 0) 0 [] rfl (Src.ofNil _ Tryz.underlying27 0) (by simp only [maxLen]; omega) (by omega) hbw ?_; intro v2 w2 hown2 hgr2 hat2 hnil2; obtain rfl := hnil2.2 ⟨rfl, rfl⟩; have hD3 := hDo.grown hgr2 (by simp [Value.ownBlock]); have f82 := hD3.frozen 8; have c82 : w2.cell? ⟨D, 8, none⟩ = some (.slice none 0 0) := (by rw [hD3.cell]; rfl); simp only [List.setIfInBounds_toArray, List.set_cons_succ, List.set_cons_zero])
    go_end0
    refine ⟨rfl, ⟨?_, World.ownsRow_nil _ _ _ _, fun _ => rfl⟩, ?_⟩
    · rw [Int.natCast_add]
      exact hD3.set_ 8 _
    · exact keeps_on K2 (grown_setCell ⟨hgr2.os, hgr2.tape, hgr2.output, hgr2.size, fun i hi _ => hgr2.block i hi (by simp [Value.ownBlock])⟩ rfl _)

/-- **Digest.Write.** -/
theorem write_any (D base : Nat) (rv : Value) (h : S8) (r : List UInt8) (n : Nat) (s : ByteArray) (w : World) (hr : r.length < 64) (hs : s.size ≤ 140737488351232) (hn : n + s.size ≤ 9223372036854775807)
    (hd : Dig w D base rv h r n) (hbase : base ≤ w.heap.size) :
    Calls Tryz.prog 53 #[.pointer (some ⟨D, 0, none⟩), .string s] w fun e w' => e = .returned (.tuple #[]) ∧
      ∃ rv', Dig w' D base rv' (Go.Proofs.YtmhbkilpllgchaaGreatDoor.hs h (r ++ s.data.toList) ((r ++ s.data.toList).length / 64)) ((r ++ s.data.toList).drop (64 * ((r ++ s.data.toList).length / 64))) (n + s.size) ∧ (rv'.ownBlock = none ∨ ∃ g, rv'.ownBlock = some g ∧ w.heap.size ≤ g) ∧ Keeps w w' D rv.ownBlock := by
  by_cases hcase : rv = .slice none 0 0 ∧ s.size = 0
  · obtain ⟨rfl, hs0⟩ := hcase
    have hr0 : r = [] := by
      rcases hd.row.2 with ⟨_, e⟩ | ⟨g, cap, cur, e, _⟩
      · exact List.eq_nil_of_length_eq_zero e
      · cases e
    subst hr0
    have hs1 : s.data.toList = [] := List.eq_nil_of_length_eq_zero hs0
    refine (write_nil D base h n s w (by omega) hn hd hbase).mono ?_
    rintro e w' ⟨he, hD, hk⟩
    rw [hs1]
    exact ⟨he, _, hD, .inl rfl, hk⟩
  · exact write_some D base rv h r n s w hr hs hn hd hbase hcase _ rfl _ rfl
end Go.Proofs.YtmhbkilpllgchaaGreatDoor
