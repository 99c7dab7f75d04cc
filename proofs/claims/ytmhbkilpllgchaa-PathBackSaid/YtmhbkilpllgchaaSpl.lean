/- path.Split. -/
import Derived.Test.YtmhbkilpllgchaaNmsA
import Derived.Test.YtmhbkilpllgchaaLend
import Derived.OwnWalkIn
import Derived.Maps.AppendAt
namespace Go.Proofs.Ytmhbkilpllgchaa
open Go.RowKit Go.Shelf
set_option linter.unusedVariables false
set_option linter.unusedSimpArgs false
attribute [local go_sem] Oper.semAt_some

/-- The names that Split gives, and its error. -/
def okN (l : List UInt8) : List ByteArray := ((namesL l).getD []).map bs
def okE (l : List UInt8) : Int := match namesL l with | some _ => 0 | none => 1600
/-- What Split answers. -/
def SplitPost (l : List UInt8) (w : World) (e : Ending) (w' : World) : Prop :=
  ∃ p c, e = .returned (.tuple #[.slice p (okN l).length c, .int .i64 (okE l)]) ∧ Strs w' p (okN l) ∧ Below w.heap.size w w'

theorem split_no {l : List UInt8} (h : namesL l = none) {w w' : World} {e : Ending} (he : e = .returned (.tuple #[.slice none 0 0, .int .i64 1600])) (hb : Below w.heap.size w w') : SplitPost l w e w' := by
  refine ⟨none, 0, ?_, ?_, hb⟩
  · rw [he, okN, okE, h]; rfl
  · rw [okN, h]; exact ⟨fun _ => rfl, fun a e => by cases e⟩

theorem hasPrefix_slash (l : List UInt8) : Lib.hasPrefix l [47] = decide (l.head? = some 47) := by
  cases l with
  | nil => rfl
  | cons b l =>
    by_cases hb : b = 47
    · subst hb; rfl
    · have h1 : ((47 : UInt8) == b) = false := by rw [beq_eq_false_iff_ne]; exact fun e => hb e.symm
      show (((47 : UInt8) == b) && _) = _
      rw [h1, Bool.false_and]
      symm
      rw [decide_eq_false_iff_not]
      intro e
      injection e with e
      exact hb e

set_option maxRecDepth 100000 in
set_option maxHeartbeats 1000000 in
theorem split_bad (s : ByteArray) (w : World) (hs : s.size ≤ 140737488351232) (h : 128 < s.size ∨ s.data.toList.head? ≠ some 47) :
    Calls Try.prog 46 #[.string s] w (SplitPost s.data.toList w) := by
  have hn : namesL s.data.toList = none := by
    rw [namesL, if_neg]
    rintro ⟨h1, h2⟩
    have e : s.data.toList.length = s.size := rfl
    rcases h with h | h
    · omega
    · exact h h2
  have HN := Lib.hid hn
  have hb : Below w.heap.size w ((w.alloc (.cells #[.slice none 0 0] 23)).alloc (.cells #[.int .i64 1600] 40)) := ((Below.refl _ _).alloc (Nat.le_refl _) _).alloc (by simp) _
  by_cases h1 : 128 < s.size
  · have h1' : (128 : Int) < (s.size : Int) := by omega
    clear h h1 hn
    go_enter Try.func46, Try.ntmps46
    go_wp2
    exact bodyPost_ret (v := .tuple #[.slice none 0 0, .int .i64 1600]) (by simp [results, Try.f46, go_sem]) rfl (split_no HN.out rfl hb)
  · have h1' : (s.size : Int) ≤ 128 := by omega
    have hp : Lib.hasPrefix s.data.toList [47] = false := by
      rw [hasPrefix_slash, decide_eq_false]
      rcases h with h | h
      · omega
      · exact h
    have hc := t_strings_HasPrefix s ⟨#[47]⟩ w
    have hl : (⟨#[47]⟩ : ByteArray).data.toList = [47] := rfl
    rw [hl, hp] at hc
    have HC := Lib.hid (show Calls Try.prog 75 #[.string s, .string ⟨#[47]⟩] w fun e w' => e = .returned (.bool false) ∧ w = w' from hc.mono fun _ _ h => ⟨h.1, h.2.symm⟩)
    have HC2 := Lib.hid (fun (o1 o2 : Obj) => show Calls Try.prog 75 #[.string s, .string ⟨#[47]⟩] ((w.alloc o1).alloc o2) fun e w' => e = .returned (.bool false) ∧ ((w.alloc o1).alloc o2) = w' from by
      have hc := t_strings_HasPrefix s ⟨#[47]⟩ ((w.alloc o1).alloc o2)
      rw [hl, hp] at hc
      exact hc.mono fun _ _ h => ⟨h.1, h.2.symm⟩)
    clear hp hc hl h h1 hn
    go_enter Try.func46, Try.ntmps46
    go_wp2_with (go_at_call 75; refine (HC2.out _ _).mono ?_; rintro e _ ⟨rfl, rfl⟩)
    exact bodyPost_ret (v := .tuple #[.slice none 0 0, .int .i64 1600]) (by simp [results, Try.f46, go_sem]) rfl (split_no HN.out rfl hb)

set_option maxRecDepth 100000 in
set_option maxHeartbeats 1000000 in
theorem split_root (s : ByteArray) (w : World) (h : s.data.toList = [47]) : Calls Try.prog 46 #[.string s] w (SplitPost s.data.toList w) := by
  have hn : namesL s.data.toList = some [] := by rw [h]; rfl
  have h1 : (s.size : Int) ≤ 128 := by
    have e : s.data.toList.length = s.size := rfl
    rw [h] at e
    simp at e
    omega
  have heq : (s.toList == [47]) = true := by rw [Lib.toList_data, h]; rfl
  have heq2 : s.toList = [47] := by rw [Lib.toList_data, h]
  have hp : Lib.hasPrefix s.data.toList [47] = true := by rw [h]; rfl
  have hl : (⟨#[47]⟩ : ByteArray).data.toList = [47] := rfl
  have HC2 := Lib.hid (fun (o1 o2 : Obj) => show Calls Try.prog 75 #[.string s, .string ⟨#[47]⟩] ((w.alloc o1).alloc o2) fun e w' => e = .returned (.bool true) ∧ ((w.alloc o1).alloc o2) = w' from by
    have hc := t_strings_HasPrefix s ⟨#[47]⟩ ((w.alloc o1).alloc o2)
    rw [hl, hp] at hc
    exact hc.mono fun _ _ h => ⟨h.1, h.2.symm⟩)
  have HN := Lib.hid hn
  have hb : Below w.heap.size w ((w.alloc (.cells #[.slice none 0 0] 23)).alloc (.cells #[.int .i64 0] 40)) := ((Below.refl _ _).alloc (Nat.le_refl _) _).alloc (by simp) _
  clear hp hl h hn
  go_enter Try.func46, Try.ntmps46
  go_wp2_with (go_at_call 75; refine (HC2.out _ _).mono ?_; rintro e _ ⟨rfl, rfl⟩)
  refine bodyPost_ret (v := .tuple #[.slice none 0 0, .int .i64 0]) (by simp [results, Try.f46, go_sem]) rfl ⟨none, 0, ?_, ?_, hb⟩
  · rw [okN, okE, HN.out]; rfl
  · rw [okN, HN.out]; exact ⟨fun _ => rfl, fun a e => by cases e⟩

theorem own_kept {w w' : World} {base : Nat} {v : Value} {n : Nat} {xs : List Value} {row : Option Nat} (h : w.ownsRow base 9 1 v n xs) (hg : w.grownBy w' row) (hr : ∀ r, row = some r → r < base ∨ ∃ o : Obj, w.heap[r]? = some o ∧ o.isCells = false) : w'.ownsRow base 9 1 v n xs := by
  refine ⟨h.1, ?_⟩
  rcases h.2 with h2 | ⟨g, cap, cur, hv, hb, hh, rest⟩
  · exact .inl h2
  · refine .inr ⟨g, cap, cur, hv, hb, (hg.block g (Array.getElem?_eq_some_iff.1 hh).1 ?_).trans hh, rest⟩
    intro e
    rcases hr g e.symm with h3 | ⟨o, ho, hc⟩
    · omega
    · rw [hh] at ho
      injection ho with ho
      subst ho
      cases hc
theorem blk_kept2 {w w' : World} {g : Nat} {t : TypeId} {cs : Array Value} {row : Option Nat} (h : Blk w g t cs) (hg : w.grownBy w' row) (hr : ∀ r, row = some r → r ≠ g ∨ ∃ o : Obj, w.heap[r]? = some o ∧ o.isCells = false) : Blk w' g t cs := by
  refine (hg.block g h.lt ?_).trans h
  intro e
  rcases hr g e.symm with h3 | ⟨o, ho, hc⟩
  · exact h3 rfl
  · unfold Blk at h
    rw [h] at ho
    injection ho with ho
    subst ho
    cases hc

/-- What path.Split's loop holds between two rounds. -/
structure SplI (L : Nat) (w : World) (pre : List ByteArray) (W : World) : Prop where
  out : ∃ p c, Blk W (L + 2) 23 #[.slice p pre.length c] ∧ W.ownsRow (L + 4) 9 1 (.slice p pre.length c) pre.length (pre.map Value.string)
  res : Blk W L 23 #[.slice none 0 0]
  err : Blk W (L + 1) 40 #[.int .i64 0]
  few : pre.length ≤ 8
  all : ∀ x ∈ pre, nameB x = true
  below : Below L w W
  size : L + 4 ≤ W.heap.size
/-- Where it says no. -/
structure SplX (L : Nat) (w : World) (pre : List ByteArray) (W : World) : Prop where
  bad : (∃ x ∈ pre, nameB x = false) ∨ 8 < pre.length
  res : Blk W L 23 #[.slice none 0 0]
  err : Blk W (L + 1) 40 #[.int .i64 1600]
  below : Below L w W
theorem SplI.grown {L : Nat} {w : World} {pre : List ByteArray} {W W' : World} {row : Option Nat} (h : SplI L w pre W) (hg : W.grownBy W' row) (hr : ∀ r, row = some r → r = L + 3 ∨ (L + 4 ≤ r ∧ ∃ o : Obj, W.heap[r]? = some o ∧ o.isCells = false)) (hL : L ≤ w.heap.size) : SplI L w pre W' := by
  have h1 : ∀ g, g ≠ L + 3 → ∀ r, row = some r → r ≠ g ∨ ∃ o : Obj, W.heap[r]? = some o ∧ o.isCells = false := fun g hne r e => by
    rcases hr r e with h | h
    · exact .inl (by omega)
    · exact .inr h.2
  obtain ⟨p, c, ho, hw⟩ := h.out
  exact ⟨⟨p, c, blk_kept2 ho hg (h1 _ (by omega)), own_kept hw hg (fun r e => by
    rcases hr r e with h | h
    · exact .inl (by omega)
    · exact .inr h.2)⟩, blk_kept2 h.res hg (h1 _ (by omega)), blk_kept2 h.err hg (h1 _ (by omega)), h.few, h.all, h.below.grown hg (by have := h.size; omega) (fun k e => by rcases hr k e with h | h <;> omega), Nat.le_trans h.size hg.size⟩
theorem SplX.grown {L : Nat} {w : World} {pre : List ByteArray} {W W' : World} {row : Option Nat} (h : SplX L w pre W) (hg : W.grownBy W' row) (hr : ∀ r, row = some r → L + 4 ≤ r ∧ ∃ o : Obj, W.heap[r]? = some o ∧ o.isCells = false) : SplX L w pre W' := by
  have h1 : ∀ g, ∀ r, row = some r → r ≠ g ∨ ∃ o : Obj, W.heap[r]? = some o ∧ o.isCells = false := fun g r e => .inr (hr r e).2
  exact ⟨h.bad, blk_kept2 h.res hg (h1 _), blk_kept2 h.err hg (h1 _), h.below.grown hg (by have := h.res.lt; omega) (fun k e => by have := (hr k e).1; omega)⟩
theorem strs_of_row {W : World} {base : Nat} {p : Option Addr} {c : Nat} {ns : List ByteArray} (h : W.ownsRow base 9 1 (.slice p ns.length c) ns.length (ns.map Value.string)) : Strs W p ns := by
  rcases h.2 with ⟨e, _⟩ | ⟨g, cap, cur, e, hb, hh, _⟩
  · simp only [Value.slice.injEq] at e
    exact ⟨fun _ => List.length_eq_zero_iff.1 e.2.1, fun a ha => by rw [e.1] at ha; cases ha⟩
  · simp only [Value.slice.injEq] at e
    obtain ⟨rfl, -, -⟩ := e
    refine ⟨(fun e => by cases e), fun a e j hj => ?_⟩
    injection e with e
    subst e
    refine ⟨by rw [Addr.add_mid]; exact (Array.getElem?_eq_some_iff.1 hh).1, ?_⟩
    have := h.cells (g := g) rfl j (.string ns[j]) (by rw [List.getElem?_map, List.getElem?_eq_getElem hj]; rfl)
    rw [this, List.getD, List.getElem?_eq_getElem hj]
    rfl

set_option maxRecDepth 100000 in
set_option maxHeartbeats 4000000 in
theorem split_main (s : ByteArray) (w : World) (hs : s.size ≤ 128) (h47 : s.data.toList.head? = some 47) (hne : s.data.toList ≠ [47]) : Calls Try.prog 46 #[.string s] w (SplitPost s.data.toList w) := by
  obtain ⟨L, eL⟩ : ∃ L, L = w.heap.size := ⟨_, rfl⟩
  obtain ⟨i0, hi0, hz0, hz1, hz2⟩ := info_parts info9
  have h1 : (s.size : Int) ≤ 128 := by omega
  have heq : (s.toList == [47]) = false := by rw [Lib.toList_data, beq_eq_false_iff_ne]; exact hne
  have heq2 : ¬ s.toList = [47] := by rw [Lib.toList_data]; exact hne
  have hp : Lib.hasPrefix s.data.toList [47] = true := by rw [hasPrefix_slash, decide_eq_true h47]
  have hl : (⟨#[47]⟩ : ByteArray).data.toList = [47] := rfl
  have hpos : 1 ≤ s.size := by
    have e : s.data.toList.length = s.size := rfl
    cases hs2 : s.data.toList with
    | nil => rw [hs2] at h47; cases h47
    | cons b l => rw [hs2] at e; simp at e; omega
  have HC2 := Lib.hid (fun (w : World) => show Calls Try.prog 75 #[.string s, .string ⟨#[47]⟩] w fun e w' => e = .returned (.bool true) ∧ w = w' from by
    have hc := t_strings_HasPrefix s ⟨#[47]⟩ w
    rw [hl, hp] at hc
    exact hc.mono fun _ _ h => ⟨h.1, h.2.symm⟩)
  obtain ⟨p1, ep⟩ : ∃ p1, p1 = s.extract 1 s.size := ⟨_, rfl⟩
  have hpl : p1.data.toList = s.data.toList.drop 1 := by
    rw [ep, ByteArray.data_extract, Array.toList_extract, List.extract_eq_take_drop, List.take_of_length_le (by rw [List.length_drop]; exact Nat.le_refl _)]
  have hps : p1.size ≤ 128 := by rw [ep, ByteArray.size_extract]; omega
  have hsl : ∀ w', (Instr.slice 9 (.string s) (some (.int .i64 1)) none none).run Try.prog w' = .ok (.string p1) w' := fun w' => by
    have := run_slice_string_from_if (P := Try.prog) w' 9 s .i64 1 Try.underlying9
    rw [this, if_pos (by omega), ep]
    rfl
  have hnl : namesL s.data.toList = if (splitL (s.data.toList.drop 1)).all nameL = true ∧ (splitL (s.data.toList.drop 1)).length ≤ 8 then some (splitL (s.data.toList.drop 1)) else none := by
    have e : s.data.toList.length = s.size := rfl
    rw [namesL, if_pos ⟨by omega, h47⟩, if_neg hne]
  have HNL := Lib.hid (And.intro hnl (And.intro hpl ep))
  have EL := Lib.hid eL
  have hLs : L ≤ w.heap.size := by omega
  clear hp hl h47 hne hnl hpl ep eL
  refine (callsIn_wide (n := 6)).1 ?_
  refine callsIn_of_wp_marks Try.func46 rfl trivial ?_ rfl
  simp only [Try.ntmps46, List.size_toArray, List.length_cons, List.length_nil, Nat.reduceAdd, Nat.reduceSub, Array.replicate_succ, Array.replicate_zero, List.push_toArray, List.append_toArray, List.nil_append, List.cons_append]
  gi_wp2_with fail
  refine ⟨trivial, ?_⟩
  refine (callsIn_wide.2 (HC2.out _)).mono ?_
  rintro e _ ⟨rfl, rfl⟩
  gi_wp2_with fail
  refine ⟨trivial, ?_⟩
  refine (callsIn_wide.2 (names_any p1 _)).mono ?_
  rintro e _ ⟨rfl, rfl⟩
  have b0 : Blk (w.alloc (.cells #[.slice none 0 0] 23)) L 23 #[.slice none 0 0] := by rw [EL.out]; exact Blk.new _ _ _
  have s0 : (w.alloc (.cells #[.slice none 0 0] 23)).heap.size = L + 1 := by simp [EL.out]
  have b1 : Blk ((w.alloc (.cells #[.slice none 0 0] 23)).alloc (.cells #[.int .i64 0] 40)) (L + 1) 40 #[.int .i64 0] := by rw [← s0]; exact Blk.new _ _ _
  have s1 : ((w.alloc (.cells #[.slice none 0 0] 23)).alloc (.cells #[.int .i64 0] 40)).heap.size = L + 2 := by rw [World.size_alloc, s0]
  have b2 : Blk (((w.alloc (.cells #[.slice none 0 0] 23)).alloc (.cells #[.int .i64 0] 40)).alloc (.cells #[.slice none 0 0] 23)) (L + 2) 23 #[.slice none 0 0] := by rw [← s1]; exact Blk.new _ _ _
  have s2 : (((w.alloc (.cells #[.slice none 0 0] 23)).alloc (.cells #[.int .i64 0] 40)).alloc (.cells #[.slice none 0 0] 23)).heap.size = L + 3 := by rw [World.size_alloc, s1]
  have b3 : Blk ((((w.alloc (.cells #[.slice none 0 0] 23)).alloc (.cells #[.int .i64 0] 40)).alloc (.cells #[.slice none 0 0] 23)).alloc (.cells #[.string p1] 9)) (L + 3) 9 #[.string p1] := by rw [← s2]; exact Blk.new _ _ _
  have s3 : ((((w.alloc (.cells #[.slice none 0 0] 23)).alloc (.cells #[.int .i64 0] 40)).alloc (.cells #[.slice none 0 0] 23)).alloc (.cells #[.string p1] 9)).heap.size = L + 4 := by rw [World.size_alloc, s2]
  have hb : Below L w ((((w.alloc (.cells #[.slice none 0 0] 23)).alloc (.cells #[.int .i64 0] 40)).alloc (.cells #[.slice none 0 0] 23)).alloc (.cells #[.string p1] 9)) := ((((Below.refl _ _).alloc hLs _).alloc (by omega) _).alloc (by omega) _).alloc (by omega) _
  have b0' := ((b0.alloc (.cells #[.int .i64 0] 40)).alloc (.cells #[.slice none 0 0] 23)).alloc (.cells #[.string p1] 9)
  have b1' := (b1.alloc (.cells #[.slice none 0 0] 23)).alloc (.cells #[.string p1] 9)
  have b2' := b2.alloc (.cells #[.string p1] 9)
  obtain ⟨W0, eW0⟩ : ∃ W0, W0 = (((w.alloc (.cells #[.slice none 0 0] 23)).alloc (.cells #[.int .i64 0] 40)).alloc (.cells #[.slice none 0 0] 23)).alloc (.cells #[.string p1] 9) := ⟨_, rfl⟩
  rw [s2]
  rw [← eW0] at b3 s3 hb b0' b1' b2' ⊢
  have hI0 : SplI L w [] W0 := ⟨⟨none, 0, b2', World.ownsRow_nil _ _ _ _⟩, b0', b1', by simp, (fun x hx => by cases hx), hb, by omega⟩
  have S3 := Lib.hid s3
  clear eW0 b0 b1 b2 s0 s1 s2 s3 b0' b1' b2' hb
  rw [← EL.out]
  gi_wp2_with fail
  refine range_cell (gf := 98) (lb := #[.pointer (some ⟨L + 3, 0, none⟩)]) rfl (enters_of Try.func98 (by kernel_rfl) rfl) (names_at _ (L + 3) p1 (by omega) W0 b3)
    (fun h k => k.trans h) (fun W l o hl hlt => World.putObj_heap_other (by rw [S3.out] at hl; omega))
    (fun A B l o hg hl ho => (hg.block l (Array.getElem?_eq_some_iff.1 ho).1 (fun e => by cases e; rw [S3.out] at hl; omega)).trans ho)
    (SplI L w) (SplX L w) (fun s W l o' o h hl ho hc => h.grown (grownBy_putObj' W l o') (fun r e => by cases e; rw [S3.out] at hl; exact .inr ⟨hl, o, ho, hc⟩) hLs)
    (fun s W l o' o h hl ho hc => h.grown (grownBy_putObj' W l o') (fun r e => by cases e; rw [S3.out] at hl; exact ⟨hl, o, ho, hc⟩))
    (fun s W o h => h.grown (World.grownBy_alloc W o none) (fun r e => by cases e) hLs)
    (fun s A B h hg => h.grown hg (fun r e => by cases e; exact .inl rfl) hLs) hI0
    (fun x => { tmps := #[.string s, undef, .pointer (some ⟨L, 0, none⟩), .pointer (some ⟨L + 1, 0, none⟩), .pointer (some ⟨L + 1 + 1, 0, none⟩), .string x, .bool (decide (128 < (s.size : Int))), .string s, .int .i64 (s.size : Int), .bool (decide (128 < (s.size : Int))), .bool (decide (128 < (s.size : Int))), .string s, .bool true, .bool false, .bool (decide (128 < (s.size : Int))), .bool false, .string s, .bool false, .string s, .string p1, .func (.func 98) #[] #[.pointer (some ⟨L + 3, 0, none⟩)], .string x, undef, undef, undef, undef, undef, undef, undef, undef, undef, undef, undef, undef, undef], defers := [] }) ?assign ?body ?done ?stop
  case assign =>
    intro l x W K hK
    gi_wp2
    exact hK
  case body =>
    intro l pre x W hI hlen
    obtain ⟨p, c, ho, hw⟩ := hI.out
    obtain ⟨k, ek⟩ : ∃ k, k = pre.length := ⟨_, rfl⟩
    have hk8 : k ≤ 8 := by rw [ek]; exact hI.few
    rw [← ek] at ho hw
    have EK := Lib.hid ek
    have c0 : W.cell? ⟨L, 0, none⟩ = some (.slice none 0 0) := by rw [hI.res.cell]; rfl
    have f0 := hI.res.frozen 0
    have c1 : W.cell? ⟨L + 1, 0, none⟩ = some (.int .i64 0) := by rw [hI.err.cell]; rfl
    have f1 := hI.err.frozen 0
    have c2 : W.cell? ⟨L + 1 + 1, 0, none⟩ = some (.slice p k c) := by rw [show L + 1 + 1 = L + 2 from rfl, ho.cell]; rfl
    have f2 : W.frozen? ⟨L + 1 + 1, 0, none⟩ = false := ho.frozen 0
    have hn := pname_any x W
    have hsz := hI.size
    have HI := Lib.hid hI
    clear ek hlen hI
    have no : SplX L w (pre ++ [x]) ((W.setCell ⟨L, 0, none⟩ (.slice none 0 0)).setCell ⟨L + 1, 0, none⟩ (.int .i64 1600)) ∨ ((∀ y ∈ pre ++ [x], nameB y = true) ∧ k < 8) := by
      by_cases hb : nameB x = true ∧ k < 8
      · refine .inr ⟨fun y hy => ?_, hb.2⟩
        rcases List.mem_append.1 hy with h | h
        · exact HI.out.all y h
        · simp at h; rw [h]; exact hb.1
      · refine .inl ⟨?_, ?_, ?_, ?_⟩
        · rcases Decidable.em (nameB x = true) with h | h
          · refine .inr ?_
            rw [List.length_append, ← EK.out]
            have : ¬ k < 8 := fun h2 => hb ⟨h, h2⟩
            simp; omega
          · exact .inl ⟨x, by simp, by simpa using h⟩
        · exact (HI.out.res.set_ 0 _).far (p := ⟨L + 1, 0, none⟩) (by show L ≠ L + 1; omega) _
        · exact (HI.out.err.far (p := ⟨L, 0, none⟩) (by show L + 1 ≠ L; omega) _).set_ 0 _
        · exact (HI.out.below.setCell (p := ⟨L, 0, none⟩) (Nat.le_refl _) _).setCell (p := ⟨L + 1, 0, none⟩) (by show L ≤ L + 1; omega) _
    have NO := Lib.hid no
    clear no
    cases hb : nameB x with
    | false =>
      rw [hb] at hn
      have HN := Lib.hid hn
      have HX : SplX L w (pre ++ [x]) ((W.setCell ⟨L, 0, none⟩ (.slice none 0 0)).setCell ⟨L + 1, 0, none⟩ (.int .i64 1600)) := by
        rcases NO.out with h | h
        · exact h
        · have := h.1 x (by simp); rw [hb] at this; cases this
      have HX := Lib.hid HX
      clear hn hb
      gi_wp2_with fail
      refine ⟨trivial, ?_⟩
      refine (CallsIn.inRound l (callsIn_wide.2 HN.out)).mono ?_
      rintro e _ ⟨rfl, rfl⟩
      gi_wp2
      exact ⟨(KeepsOthers.setCell _ _ _).trans (KeepsOthers.setCell _ _ _), HX.out⟩
    | true =>
      rw [hb] at hn
      have HN := Lib.hid hn
      have HB := Lib.hid hb
      clear hn hb
      by_cases hk : k = 8
      · have HX : SplX L w (pre ++ [x]) ((W.setCell ⟨L, 0, none⟩ (.slice none 0 0)).setCell ⟨L + 1, 0, none⟩ (.int .i64 1600)) := by
          rcases NO.out with h | h
          · exact h
          · have := h.2; omega
        have HX := Lib.hid HX
        have hk1 : ((k : Int) == 8) = true := by rw [hk]; rfl
        clear hk hk8
        gi_wp2_with fail
        refine ⟨trivial, ?_⟩
        refine (CallsIn.inRound l (callsIn_wide.2 HN.out)).mono ?_
        rintro e _ ⟨rfl, rfl⟩
        gi_wp2
        exact ⟨(KeepsOthers.setCell _ _ _).trans (KeepsOthers.setCell _ _ _), HX.out⟩
      · have hk1 : ((k : Int) == 8) = false := by rw [beq_eq_false_iff_ne]; omega
        have hkl : k + 1 ≤ 8 := by omega
        have hR2 : (W.alloc (.cells #[.string x] 9)).ownsRow (L + 4) 9 1 (.slice p k c) k (pre.map Value.string) := own_kept hw (World.grownBy_alloc W _ none) (fun r e => by cases e)
        have b1 : k + 1 ≤ maxLen := by simp only [maxLen]; omega
        have b2 : (k + 1) * 16 ≤ 140737488355328 := by omega
        have b3 : L + 4 ≤ (W.alloc (.cells #[.string x] 9)).heap.size := by rw [World.size_alloc]; omega
        have ho2 : Blk (W.alloc (.cells #[.string x] 9)) (L + 2) 23 #[.slice p k c] := ho.alloc _
        have hrow : ∀ r, (Value.slice p k c).ownBlock = some r → L + 4 ≤ r ∧ ∃ o : Obj, (W.alloc (.cells #[.string x] 9)).heap[r]? = some o ∧ o.isCells = true := fun r e => by
          rcases hR2.2 with ⟨hv, _⟩ | ⟨g, cap, cur, hv, hbg, hh, _⟩
          · rw [hv] at e; cases e
          · rw [hv] at e
            injection e with e
            have e : g = r := e
            subst e
            exact ⟨hbg, _, hh, rfl⟩
        have HROW := Lib.hid hrow
        clear hk hk8 hrow
        gi_wp2_with fail
        refine ⟨trivial, ?_⟩
        refine (CallsIn.inRound l (callsIn_wide.2 HN.out)).mono ?_
        rintro e _ ⟨rfl, rfl⟩
        gi_wp2_with (gi_at_builtin; refine wpListIn_append_own _ rfl _ _ 23 rfl (L + 4) 9 i0 (.string ⟨#[]⟩) 1 16 Try.underlying23 hi0 hz0 hz1 hz2 rfl (by decide) (.slice p k c) k (pre.map Value.string) rfl hR2 ⟨_, 0, none⟩ 1 1 [.string x] rfl rfl (cell_one_new _ _ _) (by simp [Value.oneCell']) b1 b2 b3 ?_)
        intro v5 w5 hR5 hg5 hnn5
        obtain ⟨p5, c5, rfl⟩ := row_slice hR5
        have hO5 : Blk w5 (L + 2) 23 #[.slice p k c] := ho2.grown hg5 (fun e => by have := (HROW.out _ e.symm).1; omega)
        have d2 : w5.cell? ⟨L + 1 + 1, 0, none⟩ = some (.slice p k c) := by rw [show L + 1 + 1 = L + 2 from rfl, hO5.cell]; rfl
        have g2 : w5.frozen? ⟨L + 1 + 1, 0, none⟩ = false := hO5.frozen 0
        gi_wp2
        have hlt : ∀ g, g < L + 4 → some g ≠ (Value.slice p k c).ownBlock := fun g hg e => by have := (HROW.out _ e.symm).1; omega
        have hlen : (pre ++ [x]).length = k + 1 := by rw [List.length_append, ← EK.out]; rfl
        have hne5 : (Value.slice p5 (k + 1) c5).ownBlock ≠ some (L + 2) := fun e => by have := (hR5.lt _ e).1; omega
        have hBA : Below L w (W.alloc (.cells #[.string x] 9)) := HI.out.below.alloc (by omega) _
        refine ⟨(KeepsOthers.alloc W _).trans ((KeepsOthers.of_grownBy hg5 (fun j o e ho => ?_)).trans (KeepsOthers.setCell _ _ _)),
          (Below.heap_setCell w5 ⟨L + 1 + 1, 0, none⟩ _ (L + 3) (by show L + 3 ≠ L + 1 + 1; omega)).trans ((hg5.block (L + 3) (by rw [World.size_alloc]; omega) (hlt _ (by omega))).trans (Below.heap_alloc W _ _ (by omega))), ?_⟩
        · obtain ⟨_, o', ho', hc'⟩ := HROW.out j e
          rw [ho'] at ho
          injection ho with ho
          rw [← ho]
          exact hc'
        · refine ⟨⟨p5, c5, ?_, ?_⟩, ?_, ?_, by rw [hlen]; exact hkl, ?_, ?_, ?_⟩
          · rw [hlen]; exact hO5.set_ 0 _
          · rw [hlen, List.map_append]; exact row_setCell (p := ⟨L + 2, 0, none⟩) hR5 hne5 _
          · exact ((HI.out.res.alloc _).grown hg5 (hlt _ (by omega))).far (p := ⟨L + 1 + 1, 0, none⟩) (by show L ≠ L + 1 + 1; omega) _
          · exact ((HI.out.err.alloc _).grown hg5 (hlt _ (by omega))).far (p := ⟨L + 1 + 1, 0, none⟩) (by show L + 1 ≠ L + 1 + 1; omega) _
          · intro y hy
            rcases List.mem_append.1 hy with h | h
            · exact HI.out.all y h
            · simp at h; rw [h]; exact HB.out
          · exact (hBA.grown hg5 (by rw [World.size_alloc]; omega) (fun g e => by have := (HROW.out _ e).1; omega)).setCell (p := ⟨L + 1 + 1, 0, none⟩) (by show L ≤ L + 1 + 1; omega) _
          · have := hg5.size
            rw [World.size_alloc] at this
            show L + 4 ≤ (w5.setCell _ _).heap.size
            simp only [World.setCell, Array.size_modify]
            omega
  case done =>
    rintro D ys W hD rfl hI hK
    obtain ⟨p, c, ho, hw⟩ := hI.out
    have hD4 : L + 4 ≤ D := by rw [← S3.out]; exact hD
    have hgood : namesL s.data.toList = some (splitL (s.data.toList.drop 1)) := by
      rw [HNL.out.1, if_pos]
      refine ⟨?_, ?_⟩
      · rw [List.all_eq_true]
        intro n hn
        have := hI.all (bs n) (List.mem_map.2 ⟨n, by rw [HNL.out.2.1]; exact hn, rfl⟩)
        rwa [nameB, bs_list] at this
      · have := hI.few
        rw [piecesP, List.length_map, HNL.out.2.1] at this
        exact this
    have hokN : okN s.data.toList = piecesP p1 := by rw [okN, hgood, piecesP, HNL.out.2.1]; rfl
    have hokE : okE s.data.toList = 0 := by rw [okE, hgood]
    obtain ⟨ys, eys⟩ : ∃ ys, ys = piecesP p1 := ⟨_, rfl⟩
    rw [← eys] at ho hw hokN
    obtain ⟨k, ek⟩ : ∃ k, k = ys.length := ⟨_, rfl⟩
    have c0 : W.cell? ⟨L, 0, none⟩ = some (.slice none 0 0) := by rw [hI.res.cell]; rfl
    have f0 := hI.res.frozen 0
    have c1 : W.cell? ⟨L + 1, 0, none⟩ = some (.int .i64 0) := by rw [hI.err.cell]; rfl
    have f1 := hI.err.frozen 0
    rw [← ek] at ho hw
    have c2 : W.cell? ⟨L + 1 + 1, 0, none⟩ = some (.slice p k c) := by rw [show L + 1 + 1 = L + 2 from rfl, ho.cell]; rfl
    have HI := Lib.hid (And.intro hI (And.intro hokN (And.intro hokE (And.intro ek hK))))
    clear hI hokN hokE hgood eys ek hK hD ho
    gi_wp2
    obtain ⟨hI, hokN, hokE, ek, hK⟩ := HI.out
    have hK' : ((W.setCell ⟨L, 0, none⟩ (.slice p k c)).setCell ⟨L + 1, 0, none⟩ (.int .i64 0)).heap[D]? = some (.deferred (some [])) :=
      (KeepsOthers.setCell _ _ _).same D _ ((KeepsOthers.setCell _ _ _).same D _ hK rfl) rfl
    have hb0 : Blk ((W.setCell ⟨L, 0, none⟩ (.slice p k c)).setCell ⟨L + 1, 0, none⟩ (.int .i64 0)) L 23 #[.slice p k c] := (hI.res.set_ 0 _).far (p := ⟨L + 1, 0, none⟩) (by show L ≠ L + 1; omega) _
    have hb1 : Blk ((W.setCell ⟨L, 0, none⟩ (.slice p k c)).setCell ⟨L + 1, 0, none⟩ (.int .i64 0)) (L + 1) 40 #[.int .i64 0] := (hI.err.far (p := ⟨L, 0, none⟩) (by show L + 1 ≠ L; omega) _).set_ 0 _
    have hlt : ∀ g, g < L + 4 → (Value.slice p k c).ownBlock ≠ some g := fun g hg e => by have := (hw.lt g e).1; omega
    have hw2 := row_setCell (p := ⟨L + 1, 0, none⟩) (row_setCell (p := ⟨L, 0, none⟩) hw (hlt L (by omega)) (.slice p k c)) (hlt (L + 1) (by omega)) (.int .i64 0)
    have hB2 : Below L w ((W.setCell ⟨L, 0, none⟩ (.slice p k c)).setCell ⟨L + 1, 0, none⟩ (.int .i64 0)) := (hI.below.setCell (p := ⟨L, 0, none⟩) (Nat.le_refl _) _).setCell (p := ⟨L + 1, 0, none⟩) (by show L ≤ L + 1; omega) _
    obtain ⟨W2, eW2⟩ : ∃ W2, W2 = (W.setCell ⟨L, 0, none⟩ (.slice p k c)).setCell ⟨L + 1, 0, none⟩ (.int .i64 0) := ⟨_, rfl⟩
    rw [← eW2] at hK' hb0 hb1 hw2 hB2 ⊢
    refine ⟨by simp, .inl ⟨_, _, rfl, run_takeDeferred hK', ?_⟩⟩
    have hg := grownBy_putObj' W2 D (.deferred none)
    have hr : ∀ r, some D = some r → ∃ o : Obj, W2.heap[r]? = some o ∧ o.isCells = false := fun r e => by cases e; exact ⟨_, hK', rfl⟩
    have hc0 : (W2.putObj D (.deferred none)).cell? ⟨L, 0, none⟩ = some (.slice p k c) := by rw [(blk_kept2 hb0 hg (fun r e => .inr (hr r e))).cell]; rfl
    have hc1 : (W2.putObj D (.deferred none)).cell? ⟨L + 1, 0, none⟩ = some (.int .i64 0) := by rw [(blk_kept2 hb1 hg (fun r e => .inr (hr r e))).cell]; rfl
    have hw3 := own_kept hw2 hg (fun r e => .inr (hr r e))
    rw [ek] at hw3
    refine ⟨.tuple #[.slice p k c, .int .i64 0], by simp [results, Try.f46, go_sem, hc0, hc1], p, c, ?_, ?_, ?_⟩
    · rw [hokN, hokE, ← ek]
    · rw [hokN]; exact strs_of_row hw3
    · rw [← EL.out]
      exact hB2.grown hg (by have := hb0.lt; omega) (fun g e => by cases e; omega)
  case stop =>
    rintro D pre W hD hpre hX hK
    have hD4 : L + 4 ≤ D := by rw [← S3.out]; exact hD
    have hn : namesL s.data.toList = none := by
      rw [HNL.out.1, if_neg]
      rintro ⟨h1, h2⟩
      rcases hX.bad with ⟨x, hx, hb⟩ | h8
      · have hx2 := hpre.subset hx
        rw [piecesP, HNL.out.2.1] at hx2
        obtain ⟨n, hn, rfl⟩ := List.mem_map.1 hx2
        have := List.all_eq_true.1 h1 n hn
        rw [nameB, bs_list, this] at hb
        cases hb
      · have := hpre.length_le
        rw [piecesP, List.length_map, HNL.out.2.1] at this
        omega
    have HX := Lib.hid (And.intro hX (And.intro hn hK))
    clear hX hn hK hD hpre
    gi_wp2
    obtain ⟨hX, hn, hK⟩ := HX.out
    refine ⟨by simp, .inl ⟨_, _, rfl, run_takeDeferred hK, ?_⟩⟩
    have hg := grownBy_putObj' W D (.deferred none)
    have hr : ∀ r, some D = some r → ∃ o : Obj, W.heap[r]? = some o ∧ o.isCells = false := fun r e => by cases e; exact ⟨_, hK, rfl⟩
    have hc0 : (W.putObj D (.deferred none)).cell? ⟨L, 0, none⟩ = some (.slice none 0 0) := by rw [(blk_kept2 hX.res hg (fun r e => .inr (hr r e))).cell]; rfl
    have hc1 : (W.putObj D (.deferred none)).cell? ⟨L + 1, 0, none⟩ = some (.int .i64 1600) := by rw [(blk_kept2 hX.err hg (fun r e => .inr (hr r e))).cell]; rfl
    refine ⟨.tuple #[.slice none 0 0, .int .i64 1600], by simp [results, Try.f46, go_sem, hc0, hc1], split_no hn rfl ?_⟩
    rw [← EL.out]
    exact hX.below.grown hg (by have := hX.res.lt; omega) (fun g e => by cases e; omega)

/-- **path.Split.** -/
theorem split_any (s : ByteArray) (w : World) (hs : s.size ≤ 140737488351232) : Calls Try.prog 46 #[.string s] w (SplitPost s.data.toList w) := by
  by_cases h1 : 128 < s.size ∨ s.data.toList.head? ≠ some 47
  · exact split_bad s w hs h1
  · by_cases h2 : s.data.toList = [47]
    · exact split_root s w h2
    · exact split_main s w (by omega) (Decidable.byContradiction fun h => h1 (.inr h)) h2
end Go.Proofs.Ytmhbkilpllgchaa
