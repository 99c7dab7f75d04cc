/- tag.Sum: a digest for one use. -/
import Derived.Test.YtmhbkilpllgchaaGreatDoorTagA
import Derived.RangeFuncFrom
namespace Go.Proofs.YtmhbkilpllgchaaGreatDoor
open Go.RowKit Go.Shelf BigFrame
set_option linter.unusedVariables false
set_option linter.unusedSimpArgs false

/-- Two results: a whole array in a block, and a slot. -/
theorem results_row_slot {P : Program} {fn : Func} {p q : Tmp} {ty : TypeId} (h : fn.results = #[.cell p ty, .tmp q]) (tmps : Array Value) (w : World) (g : Nat) (t : TypeId) (cs : Array Value) (fr : Nat × Nat) (d : TypeDesc)
    (hp : tmps.getD p undef = .pointer (some ⟨g, 0, none⟩)) (hg : w.heap[g]? = some (.cells cs t fr))
    (hu : P.underlying ty = some d) (hd : (match d with | .struct _ | .array _ _ => true | _ => false) = true) (hi : (P.info? ty).map (·.size) = some cs.size) :
    (results fn tmps).run P w = .ok (.tuple #[.agg cs, tmps.getD q undef]) w := by
  have hp' : tmps[p]?.getD undef = .pointer (some ⟨g, 0, none⟩) := by simpa using hp
  simp [results, h, hp', asAddr, run_loadVar_row w g t ty cs fr d hg hu hd hi]

def tagNo : Value := .tuple #[.agg z32, .int .i64 200]
def tagYes (t : Nat) (ss : List ByteArray) : Value := .tuple #[.agg (bcells (sha (tagL t ss))), .int .i64 0]

set_option maxRecDepth 100000 in
set_option maxHeartbeats 2000000 in
/-- A tag that is none. -/
theorem tsum_tag (t : Int) (pa : Option Addr) (n c : Nat) (w : World) (h : t < 0 ∨ 4 < t) : Calls Tryz.prog 55 #[.int .i64 t, .slice pa n c] w fun e w' => e = .returned tagNo ∧ Below w.heap.size w w' := by
  have hL : Blk (w.alloc (.cells z32 36)) w.heap.size 36 z32 := Blk.new _ _ _
  have hb : Below w.heap.size w (w.alloc (.cells z32 36)) := (Below.refl _ _).alloc (Nat.le_refl _) _
  rcases h with h | h
  all_goals
    go_enter Tryz.func55, Tryz.ntmps55
    go_wp2_with (first
      | (refine wpList_alN (d := 4) z32 zero29 w.heap.size rfl ?_; simp only [List.setIfInBounds_toArray, List.set_cons_succ, List.set_cons_zero])
      | (refine wpList_bd (d := 17) z32 (by kernel_rfl) (wpList_st_row w.heap.size z32 rfl rfl 36 z32 hL (by rw [size29]; rfl) rfl (by kernel_rfl) ?_); simp only [List.setIfInBounds_toArray, List.set_cons_succ, List.set_cons_zero]))
    refine bodyPost_ret (results_row_slot rfl _ _ w.heap.size 36 z32 (0, 0) _ rfl (hL.row _) Tryz.underlying36 rfl (by rw [size29]; rfl)) rfl ⟨rfl, below_setRow hb (Nat.le_refl _) _⟩

set_option maxRecDepth 100000 in
set_option maxHeartbeats 2000000 in
/-- Parts that are too long together. -/
theorem tsum_long (t : Int) (pa : Option Addr) (ss : List ByteArray) (c : Nat) (w : World) (ht0 : 0 ≤ t) (ht4 : t ≤ 4) (hn : ss.length * 16 ≤ 140737488351232) (hx : Strs w pa ss) (hz : ∀ j, j < ss.length → (ss.getD j ByteArray.empty).size ≤ 140737488351232) (htot : 65536 < total ss) :
    Calls Tryz.prog 55 #[.int .i64 t, .slice pa ss.length c] w fun e w' => e = .returned tagNo ∧ Below w.heap.size w w' := by
  have hL : Blk (w.alloc (.cells z32 36)) w.heap.size 36 z32 := Blk.new _ _ _
  have hb : Below w.heap.size w (w.alloc (.cells z32 36)) := (Below.refl _ _).alloc (Nat.le_refl _) _
  have hx1 := hx.below hb
  have HTOT := Lib.hid htot
  have HZ := Lib.hid hz
  obtain ⟨n, en⟩ : ∃ n, n = ss.length := ⟨_, rfl⟩
  have EN := Lib.hid en
  have hn2 : n ≤ 9223372036854775806 := by omega
  rw [← en]
  clear en htot hx hz hn
  go_enter Tryz.func55, Tryz.ntmps55
  go_wp2_with (refine wpList_alN (d := 4) z32 zero29 w.heap.size rfl ?_; simp only [List.setIfInBounds_toArray, List.set_cons_succ, List.set_cons_zero])
  go_loop [6, 20] (fun s i => ∃ (k m : Nat), i = .int .i64 (k : Int) ∧ s = .int .i64 (m : Int) ∧ k ≤ n ∧ m ≤ 65536 ∧ Hid (m = total (ss.take k))) (fun _ i => n - (intOf i).toNat)
  case atStart => exact ⟨0, 0, rfl, rfl, by omega, by omega, Lib.hid (by simp [total])⟩
  case round =>
    obtain ⟨k, m, rfl, rfl, hk, hm, HM⟩ := hrel
    by_cases h1 : k < n
    · obtain ⟨a, rfl, hbl, hcx⟩ := hx1.at (j := k) (by rw [← EN.out]; exact h1)
      have hq := HZ.out k (by rw [← EN.out]; exact h1)
      have hts := total_take_succ ss k (by rw [← EN.out]; exact h1)
      rw [← HM.out] at hts
      obtain ⟨q, eq⟩ : ∃ q, q = ss.getD k ByteArray.empty := ⟨_, rfl⟩
      rw [← eq] at hcx hq hts
      have HTS := Lib.hid hts
      clear eq hts
      by_cases h2 : m + q.size ≤ 65536
      · have h2' : ((m : Int) + (q.size : Int)) ≤ 65536 := by omega
        go_wp2
        go_round
        case rel => exact ⟨k + 1, m + q.size, by go_num, by go_num, by omega, h2, Lib.hid HTS.out.symm⟩
        case measure => simp [intOf]; omega
      · have h2' : 65536 < ((m : Int) + (q.size : Int)) := by omega
        clear h2
        go_wp2_with (refine wpList_bd (d := 30) z32 (by kernel_rfl) (wpList_st_row w.heap.size z32 rfl rfl 36 z32 hL (by rw [size29]; rfl) rfl (by kernel_rfl) ?_); simp only [List.setIfInBounds_toArray, List.set_cons_succ, List.set_cons_zero])
        refine bodyPost_ret (results_row_slot rfl _ _ w.heap.size 36 z32 (0, 0) _ rfl (hL.row _) Tryz.underlying36 rfl (by rw [size29]; rfl)) rfl ⟨rfl, below_setRow hb (Nat.le_refl _) _⟩
    · exfalso
      have e : k = ss.length := by rw [← EN.out]; omega
      have := HTOT.out
      rw [← List.take_length (l := ss), ← e, ← HM.out] at this
      omega
end Go.Proofs.YtmhbkilpllgchaaGreatDoor
