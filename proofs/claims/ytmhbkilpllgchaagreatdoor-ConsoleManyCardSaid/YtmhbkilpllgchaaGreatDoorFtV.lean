/- The walk of Builds. -/
import Derived.Test.YtmhbkilpllgchaaGreatDoorFtQ
namespace Go.Proofs.YtmhbkilpllgchaaGreatDoor
open Go.RowKit BigFrame
set_option linter.unusedVariables false
set_option linter.unusedSimpArgs false

def hashF (s : ByteArray) : List UInt8 := if s.size ≤ 4096 then rootH s.data.toList else zeros32
def objsF (s : ByteArray) : List ByteArray := if s.size ≤ 4096 then buildO s.data.toList else []
def errF (s : ByteArray) : Int := if s.size ≤ 4096 then 0 else 1200
theorem hashF_length (s : ByteArray) : (hashF s).length = 32 := by
  unfold hashF
  split
  · exact objH_length _
  · rw [zeros32, List.length_replicate]
theorem buildO_few (L : List UInt8) (h : L.length ≤ 4096) : (buildO L).length ≤ 73 := by
  have h1 := buildH_few L h
  have h2 := buildJ_few L h
  have h3 := foldl_onceA_length (buildB L) []
  have h4 := foldl_onceA_length (buildI L) ((buildB L).foldl onceA [])
  have h5 := onceA_length ((buildI L).foldl onceA ((buildB L).foldl onceA [])) (buildR L)
  rw [buildH, List.length_map] at h1
  rw [buildJ, List.length_map] at h2
  rw [buildO]
  simp only [List.length_nil] at h3
  omega
theorem objsF_few (s : ByteArray) : (objsF s).length ≤ 73 := by
  unfold objsF
  split
  · rename_i h
    exact buildO_few _ h
  · exact Nat.zero_le _
theorem build_full (s : ByteArray) (w : World) (hs : s.size ≤ 140737488351232) : Calls Tryz.prog 36 #[.string s] w fun e w' => ∃ p m c, e = .returned (.tuple #[.agg (bcells (hashF s)), .slice p m c, .int .i64 (errF s)]) ∧ m = (objsF s).length ∧
    w'.ownsRow w.heap.size 9 1 (.slice p m c) m ((objsF s).map SV) ∧ Below w.heap.size w w' := by
  by_cases h : s.size ≤ 4096
  · have := build_any s w h
    simpa only [hashF, objsF, errF, if_pos h] using this
  · rw [hashF, objsF, errF, if_neg h, if_neg h, if_neg h]
    refine (build_big s w (by omega) hs).mono ?_
    rintro e w' ⟨rfl, hb⟩
    exact ⟨none, 0, 0, rfl, rfl, World.ownsRow_nil _ _ _ _, hb⟩
theorem bfile_full (s : ByteArray) (w : World) (hs : s.size ≤ 140737488351232) : Calls Tryz.prog 48 #[.string s] w fun e w' => ∃ p m c, e = .returned (.tuple #[.agg (bcells (hashF s)), .slice p m c, .int .i64 (errF s)]) ∧ m = (objsF s).length ∧
    w'.ownsRow w.heap.size 9 1 (.slice p m c) m ((objsF s).map SV) ∧ Below w.heap.size w w' := by
  by_cases h : s.size ≤ 4096
  · have := bfile_any s w h
    simpa only [hashF, objsF, errF, if_pos h] using this
  · rw [hashF, objsF, errF, if_neg h, if_neg h, if_neg h]
    refine (bfile_big s w (by omega) hs).mono ?_
    rintro e w' ⟨rfl, hb⟩
    exact ⟨none, 0, 0, rfl, rfl, World.ownsRow_nil _ _ _ _, hb⟩

end Go.Proofs.YtmhbkilpllgchaaGreatDoor
