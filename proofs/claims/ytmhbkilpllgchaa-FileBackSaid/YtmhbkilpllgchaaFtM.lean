/- ftree.LoadFrom. -/
import Derived.Test.YtmhbkilpllgchaaFtLoader
namespace Go.Proofs.Ytmhbkilpllgchaa
open Go.RowKit BigFrame
set_option linter.unusedVariables false
set_option linter.unusedSimpArgs false

/-- What a load tells. -/
structure LR where
  out : ByteArray
  ws : List (List UInt8)
  er : Int
def doneR (wants : List (List UInt8)) (bad : Bool) : Option LR :=
  if bad then some ⟨⟨#[]⟩, [], 1200⟩ else if wants.length = 0 then none else some ⟨⟨#[]⟩, wants, 1201⟩
/-- After j of the inner nodes: the blocks' hashes, what is wanted, whether something is bad. -/
def stI (kv : KV) (many : Nat) (hs : List (List UInt8)) (ws : List (List UInt8)) (b : Bool) : Nat → List (List UInt8) × List (List UInt8) × Bool
  | 0 => ([], ws, b)
  | j + 1 => ((stI kv many hs ws b j).1 ++ namedH kv (hs.getD j []) 73 (min 8 (many - 8 * j)), wantsG kv (stI kv many hs ws b j).2.1 (hs.getD j []), namedB kv (hs.getD j []) 73 (min 8 (many - 8 * j)) (stI kv many hs ws b j).2.2)
/-- Is it a block of so many bytes? -/
def isBlock (s : ByteArray) (k : Nat) : Prop := s.size = 1 + k ∧ s.data.toList.take 1 = [66]
instance (s : ByteArray) (k : Nat) : Decidable (isBlock s k) := by unfold isBlock; exact inferInstance
def blkOut (kv : KV) (L : List UInt8) (k : Nat) : List UInt8 := match findL kv L with | none => [] | some s => if isBlock s k then s.data.toList.drop 1 else []
def blkBad (kv : KV) (L : List UInt8) (k : Nat) (b : Bool) : Bool := match findL kv L with | none => b | some s => if isBlock s k then b else true
/-- After j of the blocks: the bytes, what is wanted, whether something is bad. -/
def stB (kv : KV) (size : Nat) (hs : List (List UInt8)) (ws : List (List UInt8)) (b : Bool) : Nat → List UInt8 × List (List UInt8) × Bool
  | 0 => ([], ws, b)
  | j + 1 => ((stB kv size hs ws b j).1 ++ blkOut kv (hs.getD j []) (min 64 (size - 64 * j)), wantsG kv (stB kv size hs ws b j).2.1 (hs.getD j []), blkBad kv (hs.getD j []) (min 64 (size - 64 * j)) (stB kv size hs ws b j).2.2)
def loadR (kv : KV) (root : List UInt8) (size : Nat) : LR :=
  let many := partsN size 64
  let inn := namedH kv root 82 (partsN many 8)
  let w1 := wantsG kv [] root
  let b1 := namedB kv root 82 (partsN many 8) false
  match doneR w1 b1 with
  | some r => r
  | none =>
    let s2 := stI kv many inn w1 b1 inn.length
    match doneR s2.2.1 s2.2.2 with
    | some r => r
    | none =>
      let s3 := stB kv size s2.1 s2.2.1 s2.2.2 s2.1.length
      match doneR s3.2.1 s3.2.2 with
      | some r => r
      | none => ⟨⟨s3.1.toArray⟩, [], 0⟩

/-- A whole own row of hashes as the source of an append. -/
theorem src_hashes {w : World} {base m c : Nat} {p : Option Addr} {xs : List Value} (h : w.ownsRow base 29 32 (.slice p m c) m xs) (h1 : ∀ u ∈ xs, u.oneCell' = true) : Src Try.prog 32 82 (.slice p m c) m xs w := by
  rcases h.2 with ⟨e1, e2⟩ | ⟨g, cap, cur, e1, hb, hh, h3, h4, h5, h6⟩
  · injection e1 with e1 e3 e4
    subst e1; subst e3; subst e4
    have : xs = [] := List.length_eq_zero_iff.1 (by simpa using h.1)
    subst this
    exact Src.ofNil w under82 0
  · injection e1 with e1 _ e4
    subst e1
    refine Src.ofSlice w under82 _ m c xs h.1 (fun j u hu => ?_) h1
    exact h.cells (g := g) rfl j u hu
theorem hcells_one (hs : List (List UInt8)) : ∀ u ∈ hcells hs, u.oneCell' = true := fun u hu => by
  obtain ⟨L, _, h2⟩ := List.mem_flatMap.1 hu
  have : u ∈ L.map B := by simpa [bcells] using h2
  obtain ⟨b, _, rfl⟩ := List.mem_map.1 this
  rfl
/-- An append onto an own row that is none of the loader's: the loader stays. -/
theorem LdAt.keep {w w' : World} {base Bw Bt g : Nat} {wants : List (List UInt8)} {bad : Bool} (h : LdAt w base Bw Bt wants bad) (hg : WApart w Bw g) (hk : ∀ i, i < w.heap.size → i ≠ g → w'.heap[i]? = w.heap[i]?) : LdAt w' base Bw Bt wants bad := by
  obtain ⟨p, c, sv, hB, hR, hne, hs⟩ := h.ex
  have hBg : Bw ≠ g := fun e => hg.ne e.symm
  have hRg := hg.row p _ c (hB.cell 1)
  refine ⟨⟨p, c, sv, (hk Bw hB.lt hBg).trans hB, row_same hR (fun i e => hk i (hR.lt i e).2 (fun e2 => hRg (by rw [e, e2]))), hne, ?_⟩, h.ge, h.len⟩
  rcases hs with hs | ⟨B, e, h1, h2, h3, h4⟩
  · exact .inl hs
  · exact .inr ⟨B, e, h1.same (hk B h1.lt (hg.map B (by rw [← e]; exact hB.cell 2))), h2, h3, h4⟩
theorem ld_app {w w8 w9 : World} {base Bw Bt j c9 : Nat} {wants : List (List UInt8)} {bad : Bool} {v : Value} {p9 : Option Addr} {xs : List Value} (hL : LdAt w8 base Bw Bt wants bad) (hK : WKeeps w w8 Bw) (hb : Below base w w8) (hbse : base ≤ w.heap.size)
    (hA : ∀ g, v.ownBlock = some g → WApart w8 Bw g) {n e size : Nat} (hown : w8.ownsRow w.heap.size e size v n xs) (hg : w8.grownBy w9 v.ownBlock)
    (hat : (Value.slice p9 j c9).ownBlock = v.ownBlock ∨ (Value.slice p9 j c9).ownBlock = some w8.heap.size) :
    LdAt w9 base Bw Bt wants bad ∧ WKeeps w w9 Bw ∧ Below base w w9 ∧ (∀ g, (Value.slice p9 j c9).ownBlock = some g → WApart w9 Bw g) ∧ w.heap.size ≤ w9.heap.size := by
  have hlow : ∀ g, v.ownBlock = some g → w.heap.size ≤ g := fun g e => (hown.lt g e).1
  have hBl : w9.heap[Bw]? = w8.heap[Bw]? := hg.block Bw hL.lt (fun e => (hA Bw e.symm).ne rfl)
  have hL9 : LdAt w9 base Bw Bt wants bad := by
    cases ho : v.ownBlock with
    | none => exact hL.below ⟨hg.os, hg.tape, hg.output, hg.size, fun i hi => hg.block i hi (by rw [ho]; simp)⟩
    | some g => exact hL.keep (hA g ho) (fun i hi hne => hg.block i hi (by rw [ho]; intro e; exact hne (Option.some.inj e)))
  have hs8 := hb.size
  refine ⟨hL9, fun i hi hl => ?_, hb.grown hg (by omega) (fun g e => by have := hlow g e; omega), fun g e => ?_, by have := hg.size; omega⟩
  · obtain ⟨k1, k2⟩ := hK i hi hl
    exact ⟨k1.same hBl, (hg.block i (by omega) (fun e => by have := hlow i e.symm; omega)).trans k2⟩
  · rcases hat with h | h
    · rw [h] at e
      exact (hA g e).same hBl
    · rw [h] at e
      have := Option.some.inj e
      exact (WApart.new hL (.inl (by omega))).same hBl
section
variable {w : World} {base Bw Bt : Nat} {wants : List (List UInt8)} {bad : Bool} {kv : KV}
theorem ldone_any (h : LdAt w base Bw Bt wants bad) (hn : wants.length ≤ 1000000) :
    Calls Try.prog 103 #[.pointer (some ⟨Bw, 0, none⟩)] w fun e w' => ∃ p n c E, e = .returned (.tuple #[.string ⟨#[]⟩, .slice p n c, .int .i64 E]) ∧ Below w.heap.size w w' ∧
      ((∃ r, doneR wants bad = some r ∧ r.out = ⟨#[]⟩ ∧ E = r.er ∧ (E = 1200 ∨ E = 1201) ∧ n = r.ws.length ∧ w'.ownsRow base 29 32 (.slice p n c) n (hcells r.ws)) ∨ (doneR wants bad = none ∧ E = 0 ∧ wants = [] ∧ bad = false)) := by
  cases bad with
  | true =>
    refine (ldone_bad h).mono fun e w' ⟨he, hw⟩ => ⟨none, 0, 0, 1200, he, by rw [← hw]; exact Below.refl _ _, .inl ⟨_, rfl, rfl, rfl, .inl rfl, rfl, World.ownsRow_nil _ _ _ _⟩⟩
  | false =>
    by_cases g : wants.length = 0
    · have : wants = [] := List.length_eq_zero_iff.1 g
      subst this
      exact (ldone_ok h).mono fun e w' ⟨he, hw⟩ => ⟨none, 0, 0, 0, he, by rw [← hw]; exact Below.refl _ _, .inr ⟨rfl, rfl, rfl, rfl⟩⟩
    · refine (ldone_want h (by omega) hn).mono fun e w' ⟨p, c, he, hr, hb⟩ => ⟨p, wants.length, c, 1201, he, hb, .inl ⟨⟨⟨#[]⟩, wants, 1201⟩, ?_, rfl, rfl, .inr rfl, rfl, hr⟩⟩
      unfold doneR
      rw [if_neg (by simp), if_neg g]
theorem wantsG_length (kv : KV) (ws : List (List UInt8)) (L : List UInt8) : (wantsG kv ws L).length ≤ ws.length + 1 := by
  unfold wantsG
  split
  · omega
  · exact onceH_length _ _
theorem namedH_len (kv : KV) (L : List UInt8) (kd : UInt8) (many : Nat) : (∀ x ∈ namedH kv L kd many, x.length = 32) ∧ (namedH kv L kd many).length ≤ many := by
  unfold namedH
  cases hq : findL kv L with
  | none => exact ⟨fun x hx => (by cases hx), Nat.zero_le _⟩
  | some s =>
    by_cases g : isNode s kd many
    · simp only [g, if_true]
      have := cut32 many (s.data.toList.drop 2) (by rw [List.length_drop, ← ba_list, g.1]; omega)
      exact ⟨this.1, Nat.le_of_eq this.2⟩
    · simp only [g, if_false]
      exact ⟨fun x hx => (by cases hx), Nat.zero_le _⟩

theorem stI_len (kv : KV) (many : Nat) (hs ws : List (List UInt8)) (b : Bool) : ∀ j, ∀ x ∈ (stI kv many hs ws b j).1, x.length = 32
  | 0, x, h => by cases h
  | j + 1, x, h => by
    rcases List.mem_append.1 h with h | h
    · exact stI_len kv many hs ws b j x h
    · exact (namedH_len kv _ 73 _).1 x h

theorem stI_max (kv : KV) (many : Nat) (hs ws : List (List UInt8)) (b : Bool) : ∀ j, (stI kv many hs ws b j).1.length ≤ min (8 * j) many
  | 0 => Nat.zero_le _
  | j + 1 => by
    have h1 := stI_max kv many hs ws b j
    have h2 := (namedH_len kv (hs.getD j []) 73 (min 8 (many - 8 * j))).2
    have h3 : (stI kv many hs ws b (j + 1)).1.length = (stI kv many hs ws b j).1.length + (namedH kv (hs.getD j []) 73 (min 8 (many - 8 * j))).length := List.length_append
    omega

theorem findL_size {kv : KV} (hkv : ∀ p ∈ kv, p.2.size ≤ 140737488351232) {L : List UInt8} {s : ByteArray} (hq : findL kv L = some s) : s.size ≤ 140737488351232 := by
  unfold findL at hq
  cases hf : kv.find? (fun p => decide (p.1 = L)) with
  | none => rw [hf] at hq; cases hq
  | some p =>
    rw [hf] at hq
    have := hkv p (List.mem_of_find?_eq_some hf)
    simp only [Option.map_some, Option.some.injEq] at hq
    rw [← hq]; exact this
set_option maxRecDepth 100000 in
set_option maxHeartbeats 20000000 in
theorem loadfrom_any {w : World} {Bt : Nat} {kv : KV} (hM : MapW w Bt kv) (hkv : ∀ p ∈ kv, p.2.size ≤ 140737488351232) (root : List UInt8) (hr : root.length = 32) (size : Nat) (hs : size ≤ 4096) :
    Calls Try.prog 90 #[.agg (bcells root), .int .i64 (size : Int), .map (some Bt)] w fun e w' => ∃ p n c, e = .returned (.tuple #[.string (loadR kv root size).out, .slice p n c, .int .i64 (loadR kv root size).er]) ∧ n = (loadR kv root size).ws.length ∧
      w'.ownsRow w.heap.size 29 32 (.slice p n c) n (hcells (loadR kv root size).ws) ∧ Below w.heap.size w w' := by
  obtain ⟨i0, hi0, hz0, hz1, hz2⟩ := info_parts info29
  have hs1 : (0 : Int) ≤ (size : Int) := by omega
  have hs2 : (size : Int) ≤ 4096 := by omega
  have hX0 : Blk (w.alloc (.cells (bcells root) 29)) w.heap.size 29 (bcells root) := Blk.new _ _ _
  have hb0 : Below w.heap.size w (w.alloc (.cells (bcells root) 29)) := (Below.refl _ _).alloc (Nat.le_refl _) _
  have hM0 := hM.below hb0 hM.lt
  have hBt := hM.lt
  obtain ⟨w1, e1⟩ : ∃ w1, w1 = w.alloc (.cells (bcells root) 29) := ⟨_, rfl⟩
  rw [← e1] at hX0 hb0 hM0
  have hs01 : w1.heap.size = w.heap.size + 1 := by rw [e1]; simp
  have hBk : Blk (w1.alloc (.cells #[.map (some Bt), .slice none 0 0, .map none, .bool false] 137)) w1.heap.size 137 #[.map (some Bt), .slice none 0 0, .map none, .bool false] := Blk.new _ _ _
  have hld : LdAt (w1.alloc (.cells #[.map (some Bt), .slice none 0 0, .map none, .bool false] 137)) w1.heap.size w1.heap.size Bt [] false :=
    ⟨⟨none, 0, none, hBk, World.ownsRow_nil _ _ _ _, by simp [Value.ownBlock], .inl ⟨rfl, rfl⟩⟩, Nat.le_refl _, fun k h => by cases h⟩
  have hb1 : Below w1.heap.size w1 (w1.alloc (.cells #[.map (some Bt), .slice none 0 0, .map none, .bool false] 137)) := (Below.refl _ _).alloc (Nat.le_refl _) _
  have hM1 := hM0.below hb1 hM0.lt
  have hX1 := hX0.below hb1 hX0.lt
  have hbw1 : Below w.heap.size w (w1.alloc (.cells #[.map (some Bt), .slice none 0 0, .map none, .bool false] 137)) := hb0.trans (hb1.mono (by omega))
  obtain ⟨w2, e2⟩ : ∃ w2, w2 = w1.alloc (.cells #[.map (some Bt), .slice none 0 0, .map none, .bool false] 137) := ⟨_, rfl⟩
  rw [← e2] at hld hM1 hX1 hbw1
  obtain ⟨Bw, eBw⟩ : ∃ B, B = w1.heap.size := ⟨_, rfl⟩
  rw [← eBw] at hld
  have hwB : w.heap.size < Bw := by omega
  have E := Lib.hid (And.intro e1 (And.intro e2 eBw))
  have H2 := Lib.hid (And.intro hld (And.intro hM1 (And.intro hX1 hbw1)))
  clear e1 e2 eBw hX0 hb0 hM0 hBk hld hb1 hM1 hX1 hbw1 hs01 hM
  obtain ⟨RR, eRR⟩ : ∃ R, R = loadR kv root size := ⟨_, rfl⟩
  rw [← eRR]
  have ER := Lib.hid eRR
  clear eRR
  go_enter Try.func90, Try.ntmps90
  go_upto_region 1 with fail
  rw [← E.out.1]
  go_upto_region 4 with fail
  rw [← E.out.2.1, ← E.out.2.2]
  obtain ⟨hld, hM2, hX2, hbw2⟩ := H2.out
  obtain ⟨mm, emm⟩ : ∃ m, m = partsN size 64 := ⟨_, rfl⟩
  have hmm : mm ≤ 64 := by rw [emm, partsN]; omega
  obtain ⟨m8, em8⟩ : ∃ m, m = partsN mm 8 := ⟨_, rfl⟩
  have hm8 : m8 ≤ 8 ∧ mm ≤ 8 * m8 ∧ 8 * m8 < mm + 8 := by rw [em8, partsN]; omega
  have c64 : ∀ w', Calls Try.prog 101 #[.int .i64 (size : Int), .int .i64 64] w' fun e w'' => e = .returned (.int .i64 (mm : Int)) ∧ w' = w'' := fun w' => by rw [emm]; exact parts64 size w' (by omega)
  have c8 : ∀ w', Calls Try.prog 101 #[.int .i64 (mm : Int), .int .i64 8] w' fun e w'' => e = .returned (.int .i64 (m8 : Int)) ∧ w' = w'' := fun w' => by rw [em8]; exact parts8 mm w' (by omega)
  have EM := Lib.hid (And.intro emm (And.intro em8 (And.intro c64 c8)))
  clear emm em8 c64 c8 H2
  go_upto_region 5 with (go_at_call 101; refine (EM.out.2.2.1 _).mono ?_; rintro e w' ⟨rfl, rfl⟩)
  have hXx : ∀ x, Blk (later w2 x) w.heap.size 29 (bcells root) := fun x => hX2.below (later_below w2 x) hX2.lt
  have c8x : ∀ x, Calls Try.prog 101 #[.int .i64 (mm : Int), .int .i64 8] (later w2 x) fun e w'' => e = .returned (.int .i64 (m8 : Int)) ∧ ∃ k, w'' = later w2 k := fun x => later_call_same ((EM.out.2.2.2 _).mono fun _ _ h => ⟨h.1, h.2.symm⟩)
  have HX := Lib.hid (And.intro hXx c8x)
  clear hXx c8x
  refine wp_region_later_tail 4 (by kernel_rfl) (by kernel_rfl) ?_
  simp only [List.take_succ_cons, List.take_zero, List.drop_succ_cons, List.drop_zero]
  repeat (first
    | (refine wpQuiet_ld_g (d := 41) w.heap.size 0 (bcells root).toList rfl rfl (by rintro _ ⟨x, rfl⟩; exact range_of_blk (HX.out.1 x)) Try.underlying29 rfl (by rw [size29, Array.length_toList, bcells_size, hr]) ?_; simp only [List.setIfInBounds_toArray, List.set_cons_succ, List.set_cons_zero, Array.toArray_toList])
    | (go_big_quiet_step ((go_at_call 101; exact HX.out.2 _))))
  refine wpQuiet_nil ?_
  rintro _ ⟨x, rfl⟩
  have hld3 := hld.below (later_below w2 x)
  have hM3 := hM2.below (later_below w2 x) hM2.lt
  have hbw3 := hbw2.trans ((later_below w2 x).mono hbw2.size)
  obtain ⟨w3, e3⟩ : ∃ w3, w3 = later w2 x := ⟨_, rfl⟩
  rw [← e3] at hld3 hM3 hbw3 ⊢
  clear e3 HX hld hM2 hbw2 hX2 x
  obtain ⟨INN, eINN⟩ : ∃ I, I = namedH kv root 82 m8 := ⟨_, rfl⟩
  obtain ⟨W1, eW1⟩ : ∃ I, I = wantsG kv [] root := ⟨_, rfl⟩
  obtain ⟨B1, eB1⟩ : ∃ I, I = namedB kv root 82 m8 false := ⟨_, rfl⟩
  have c102 := lnamed_any hld3 hM3 (by omega) root hr (by simp) 82 m8 (by omega) hkv
  have hINl := namedH_len kv root 82 m8
  have hW1l := wantsG_length kv [] root
  rw [← eINN, ← eW1, ← eB1] at c102
  rw [← eINN] at hINl
  rw [← eW1] at hW1l
  have EI := Lib.hid (And.intro eINN (And.intro eW1 (And.intro eB1 (And.intro hINl hW1l))))
  have C102 := Lib.hid (And.intro c102 (And.intro hM3 hbw3))
  have hs3 : w.heap.size ≤ w3.heap.size := hbw3.size
  clear c102 eINN eW1 eB1 hINl hW1l hld3 hM3 hbw3
  go_wp2_with fail
  refine C102.out.1.mono ?_
  rintro e w4 ⟨p1, n1, c1, rfl, hn1, hR1, hld4, hb34, hk34, hA4⟩
  have hM4 := C102.out.2.1.below hb34 (by omega)
  have hbw4 : Below w.heap.size w w4 := C102.out.2.2.trans (hb34.mono (by omega))
  have H4 := Lib.hid (And.intro hn1 (And.intro hR1 (And.intro hld4 (And.intro hA4 (And.intro hM4 hbw4)))))
  clear hn1 hR1 hld4 hb34 hk34 hA4 hM4 hbw4
  go_wp2_with fail
  refine (ldone_any H4.out.2.2.1 (by have := EI.out.2.2.2.2; simp only [List.length_nil] at this; omega)).mono ?_
  rintro e w5 ⟨p5, n5, c5, E5, rfl, hb45, hd5⟩
  rcases hd5 with ⟨r, hd1, hd2, hd3, hd4, hd5, hd6⟩ | ⟨hd1, rfl, hw1, hbb1⟩
  · have hRR : RR = r := by
      rw [ER.out, loadR]
      simp only [← EM.out.1, ← EM.out.2.1, ← EI.out.1, ← EI.out.2.1, ← EI.out.2.2.1, hd1]
    have HD := Lib.hid (And.intro hRR (And.intro hd2 (And.intro hd3 (And.intro hd5 hd6))))
    clear hRR hd2 hd3 hd5 hd6 hd1
    rcases hd4 with rfl | rfl
    · go_wp2
      refine bodyPost_ret (v := .tuple #[.string ⟨#[]⟩, .slice p5 n5 c5, .int .i64 1200]) (by simp [results, Try.f90, go_sem]) rfl ⟨p5, n5, c5, by rw [HD.out.1, HD.out.2.1, ← HD.out.2.2.1], by rw [HD.out.1]; exact HD.out.2.2.2.1, by rw [HD.out.1]; exact row_mono HD.out.2.2.2.2 (by omega), H4.out.2.2.2.2.2.trans (hb45.mono H4.out.2.2.2.2.2.size)⟩
    · go_wp2
      refine bodyPost_ret (v := .tuple #[.string ⟨#[]⟩, .slice p5 n5 c5, .int .i64 1201]) (by simp [results, Try.f90, go_sem]) rfl ⟨p5, n5, c5, by rw [HD.out.1, HD.out.2.1, ← HD.out.2.2.1], by rw [HD.out.1]; exact HD.out.2.2.2.1, by rw [HD.out.1]; exact row_mono HD.out.2.2.2.2 (by omega), H4.out.2.2.2.2.2.trans (hb45.mono H4.out.2.2.2.2.2.size)⟩
  · subst hw1
    subst hbb1
    have hld5 := H4.out.2.2.1.below hb45
    have hM5 := H4.out.2.2.2.2.1.below hb45 H4.out.2.2.2.2.1.lt
    have hbw5 : Below w.heap.size w w5 := H4.out.2.2.2.2.2.trans (hb45.mono H4.out.2.2.2.2.2.size)
    have hR5 : w5.ownsRow w3.heap.size 29 32 (.slice p1 n1 c1) n1 (hcells INN) := H4.out.2.1.kept (grown_below hb45 (Nat.le_refl _) none) (by cases (Value.slice p1 n1 c1).ownBlock <;> simp)
    have hA5 : ∀ g, (Value.slice p1 n1 c1).ownBlock = some g → WApart w5 Bw g := fun g e => (H4.out.2.2.2.1 g e).below H4.out.2.2.1.lt hb45
    have hn1 : n1 ≤ 8 := by have := EI.out.2.2.2.1.2; have := H4.out.1; omega
    have hBw5 : Bw ≤ w5.heap.size := Nat.le_of_lt hld5.lt
    have H5 := Lib.hid (And.intro hld5 (And.intro hM5 (And.intro hbw5 (And.intro hR5 (And.intro hA5 (And.intro H4.out.1 hd1))))))
    clear hld5 hM5 hbw5 hR5 hA5 H4 hb45 hd1
    go_wp2
    go_loopw [15, 16, 17, 58] (fun t15 s16 s17 i wr => ∃ (j m c : Nat) (p : Option Addr) (xs : List Value), t15 = .slice p m c ∧ i = .int .i64 (j : Int) ∧ j ≤ n1 ∧ m ≤ 8 * j ∧ wr.ownsRow w5.heap.size 29 32 (.slice p m c) m xs ∧ Hid (xs = hcells (stI kv mm INN [] false j).1) ∧ Hid (m = (stI kv mm INN [] false j).1.length) ∧
      Hid (LdAt wr Bw Bw Bt (stI kv mm INN [] false j).2.1 (stI kv mm INN [] false j).2.2) ∧ Hid ((stI kv mm INN [] false j).2.1.length ≤ j) ∧ Below Bw w5 wr ∧ Hid (WKeeps w5 wr Bw) ∧ Hid (∀ g, (Value.slice p m c).ownBlock = some g → WApart wr Bw g) ∧ w5.heap.size ≤ wr.heap.size) (fun _ _ _ i _ => n1 - (intOf i).toNat)
    case atStart => exact ⟨0, 0, 0, none, [], rfl, rfl, by omega, by omega, World.ownsRow_nil _ _ _ _, Lib.hid rfl, Lib.hid rfl, Lib.hid H5.out.1, Lib.hid (Nat.le_refl _), Below.refl _ _, Lib.hid (WKeeps.refl _ _), Lib.hid (fun g e => by cases e), Nat.le_refl _⟩
    case round =>
      obtain ⟨j, m, c, p, xs, rfl, rfl, hj, hm, hR, HXS, HMM, HL, HLL, hb, HK, HA, hsz⟩ := hrel
      by_cases h1 : j < n1
      · have hjl : j < INN.length := by rw [← H5.out.2.2.2.2.2.1]; exact h1
        obtain ⟨g, c', e1, _, hgl, _, _⟩ := row_form H5.out.2.2.2.1 (by intro e; injection e with _ e _; omega)
        injection e1 with e1 _ e2
        subst e1; subst e2
        obtain ⟨Lh, eL⟩ : ∃ L, L = INN.getD j [] := ⟨_, rfl⟩
        have eL2 : Lh = INN[j] := by rw [eL, List.getD, List.getElem?_eq_getElem hjl]; rfl
        have hLl : Lh.length = 32 := by rw [eL2]; exact EI.out.2.2.2.1.1 _ (List.getElem_mem hjl)
        have hkg := (HK.out g hgl (H5.out.2.2.2.2.1 g rfl)).2
        have hrg : wr.rangeAt g (j * 32) (bcells Lh).toList := fun i v hv => by
          have hi : i < 32 := by
            have := (List.getElem?_eq_some_iff.1 hv).1
            rwa [Array.length_toList, bcells_size, hLl] at this
          have := H5.out.2.2.2.1.cells (g := g) rfl (j * 32 + i) v (by rw [hcells_get INN EI.out.2.2.2.1.1 j hjl i hi, ← eL2]; exact hv)
          rw [Addr.add_mid, Nat.zero_add] at this
          exact (cell_same hkg _).trans this
        obtain ⟨d, ed⟩ : ∃ d, d = mm - 8 * j := ⟨_, rfl⟩
        have hd0 : 0 < d := by
          have := EI.out.2.2.2.1.2
          have := H5.out.2.2.2.2.2.1
          omega
        have hsub : (mm : Int) - (j : Int) * 8 = (d : Int) := by omega
        obtain ⟨k, ek⟩ : ∃ k, k = min 8 (mm - 8 * j) := ⟨_, rfl⟩
        have hkk : (k = d ∧ (d : Int) < 8) ∨ (k = 8 ∧ (8 : Int) < (d : Int)) ∨ (k = 8 ∧ d = 8) := by omega
        have hk8 : k ≤ 8 := by omega
        have hX0 : Blk (wr.alloc (.cells z32 29)) wr.heap.size 29 z32 := Blk.new _ _ _
        have hX7 : Blk ((wr.alloc (.cells z32 29)).setRow wr.heap.size (bcells Lh)) wr.heap.size 29 (bcells Lh) := hX0.row _
        have hb7 : Below wr.heap.size wr ((wr.alloc (.cells z32 29)).setRow wr.heap.size (bcells Lh)) := below_setRow ((Below.refl _ _).alloc (Nat.le_refl _) _) (Nat.le_refl _) _
        have hld7 := HL.out.below hb7
        have hM7 := H5.out.2.1.below (hb.trans (hb7.mono (Nat.le_trans hBw5 hsz))) (by omega)
        have hkr7 : WKeeps wr ((wr.alloc (.cells z32 29)).setRow wr.heap.size (bcells Lh)) Bw := WKeeps.below HL.out.lt hb7
        have hbr7 : Below Bw w5 ((wr.alloc (.cells z32 29)).setRow wr.heap.size (bcells Lh)) := hb.trans (hb7.mono (Nat.le_trans hBw5 hsz))
        have hs7 := hb7.size
        obtain ⟨WJ, eWJ⟩ : ∃ W, W = (stI kv mm INN [] false j).2.1 := ⟨_, rfl⟩
        obtain ⟨bj, ebj⟩ : ∃ W, W = (stI kv mm INN [] false j).2.2 := ⟨_, rfl⟩
        obtain ⟨BJ, eBJ⟩ : ∃ W, W = (stI kv mm INN [] false j).1 := ⟨_, rfl⟩
        have hst1 : (stI kv mm INN [] false (j + 1)).1 = BJ ++ namedH kv Lh 73 k := by rw [eBJ, eL, ek]; rfl
        have hst2 : (stI kv mm INN [] false (j + 1)).2.1 = wantsG kv WJ Lh := by rw [eWJ, eL]; rfl
        have hst3 : (stI kv mm INN [] false (j + 1)).2.2 = namedB kv Lh 73 k bj := by rw [ebj, eL, ek]; rfl
        have hxs := HXS.out
        have hmm' := HMM.out
        have hll := HLL.out
        rw [← eBJ] at hxs hmm'
        rw [← eWJ] at hll
        rw [← eWJ, ← ebj] at hld7
        have c102 := lnamed_any hld7 hM7 (by omega) Lh hLl (by omega) 73 k (by omega) hkv
        have hNl := namedH_len kv Lh 73 k
        obtain ⟨NH, eNH⟩ : ∃ N, N = namedH kv Lh 73 k := ⟨_, rfl⟩
        rw [← eNH] at c102 hNl hst1
        have HC := Lib.hid (And.intro c102 (And.intro hNl (And.intro hst1 (And.intro hst2 (And.intro hst3 (And.intro hxs (And.intro hmm' (And.intro hll hLl))))))))
        have H7 := Lib.hid (And.intro hkr7 (And.intro hbr7 (And.intro hrg (And.intro hX0 hX7))))
        clear c102 hNl hst1 hst2 hst3 hxs hmm' hll hkr7 hbr7 hX0 hX7 hrg hld7 hM7 eWJ ebj eBJ eNH eL eL2 hLl hkg hb7 ek ed hjl hb
        rcases hkk with ⟨rfl, hk3⟩ | ⟨rfl, hk3⟩ | ⟨rfl, rfl⟩
        all_goals
          go_upto_region 12 with fail
          iterate 7 (first | go_skip | go_guarded | go_step | go_upon)
          with_reducible refine wpList_ld_mid (d := 62) g (j * 32) (bcells Lh).toList ?_ H7.out.2.2.1 Try.underlying29 ?_ ?_ ?_
          · rfl
          · rfl
          · rw [size29, Array.length_toList, bcells_size, HC.out.2.2.2.2.2.2.2.2]
          simp only [List.setIfInBounds_toArray, List.set_cons_succ, List.set_cons_zero, Array.toArray_toList]
          refine wpList_alN (d := 17) z32 zero29 wr.heap.size rfl ?_
          simp only [List.setIfInBounds_toArray, List.set_cons_succ, List.set_cons_zero]
          iterate 3 (first | go_skip | go_guarded | go_step | go_upon)
          refine wpList_st_row wr.heap.size (bcells Lh) rfl rfl 29 z32 H7.out.2.2.2.1 (by rw [size29, bcells_size, HC.out.2.2.2.2.2.2.2.2]) (by rw [bcells_size, HC.out.2.2.2.2.2.2.2.2]; rfl) (bcells_one _) ?_
          go_upto_region 13 with fail
          iterate 7 (first | go_skip | go_guarded | go_step | go_upon)
          refine wpList_ld_row (d := 65) wr.heap.size (bcells Lh) rfl 29 H7.out.2.2.2.2 Try.underlying29 rfl (by rw [size29, bcells_size, HC.out.2.2.2.2.2.2.2.2]) ?_
          simp only [List.setIfInBounds_toArray, List.set_cons_succ, List.set_cons_zero]
          go_wp2_with fail
          refine HC.out.1.mono ?_
          rintro e w8 ⟨p8, n8, c8, rfl, hn8, hR8, hld8, hb8, hk8', hA8⟩
          have hk78 : WKeeps wr w8 Bw := H7.out.1.trans hs7 hk8'
          have hR8' : w8.ownsRow w5.heap.size 29 32 (.slice p m c) m xs := row_same hR (fun g e => (hk78 g (hR.lt g e).2 (HA.out g e)).2)
          have hA8' : ∀ g, (Value.slice p m c).ownBlock = some g → WApart w8 Bw g := fun g e => (hk78 g (hR.lt g e).2 (HA.out g e)).1
          have hK8 : WKeeps w5 w8 Bw := HK.out.trans hsz hk78
          have hbw8 : Below Bw w5 w8 := H7.out.2.1.trans hb8
          have hs8 : wr.heap.size ≤ w8.heap.size := Nat.le_trans hs7 hb8.size
          have hn8k : n8 ≤ 8 := by have := HC.out.2.1.2; omega
          have hsrc := src_hashes hR8 (hcells_one _)
          have b1 : m + n8 ≤ maxLen := by simp only [maxLen]; omega
          have b2 : (m + n8) * 32 ≤ 140737488355328 := by omega
          have hsa : w5.heap.size ≤ w8.heap.size := by omega
          have HQ := Lib.hid (And.intro hR8' (And.intro hsrc hsa))
          have HS := Lib.hid (And.intro hld8 (And.intro hK8 (And.intro hbw8 (And.intro hA8' hn8))))
          clear hn8 hR8 hld8 hb8 hk8' hA8 hk78 hR8' hA8' hK8 hbw8 hsrc hsa hR
          go_wp2_with (at_builtin; refine wpList_app _ w5.heap.size 29 i0 (.agg z32) 32 32 under82 hi0 hz0 hz1 hz2 rfl (.slice p m c) m xs rfl HQ.out.1 _ n8 _ rfl HQ.out.2.1 b1 b2 HQ.out.2.2 ?_; intro v9 w9 hR9 hg9 hat9 _; obtain ⟨p9, c9, rfl⟩ := row_slice hR9; simp only [List.setIfInBounds_toArray, List.set_cons_succ, List.set_cons_zero])
          obtain ⟨k1, k2, k3, k4, k5⟩ := ld_app HS.out.1 HS.out.2.1 HS.out.2.2.1 hBw5 HS.out.2.2.2.1 HQ.out.1 hg9 hat9
          exact ⟨⟨j + 1, m + n8, c9, p9, _, rfl, by go_num, by omega, by omega, hR9, Lib.hid (by rw [HC.out.2.2.1, HC.out.2.2.2.2.2.1, hcells, hcells, hcells, List.flatMap_append]), Lib.hid (by rw [HC.out.2.2.1, List.length_append, HC.out.2.2.2.2.2.2.1, HS.out.2.2.2.2]), Lib.hid (by rw [HC.out.2.2.2.1, HC.out.2.2.2.2.1]; exact k1), Lib.hid (by rw [HC.out.2.2.2.1]; exact Nat.le_trans (wantsG_length _ _ _) (by have := HC.out.2.2.2.2.2.2.2.1; omega)), k3, Lib.hid k2, Lib.hid k4, k5⟩, by simp [intOf]; omega⟩
      · have hjI : j = INN.length := by have := H5.out.2.2.2.2.2.1; omega
        have hj8 : j ≤ 8 := by omega
        have hL6 := HL.out
        have hxs := HXS.out
        have hmm2 := HMM.out
        have hll := HLL.out
        rw [hjI] at hL6 hxs hmm2 hll
        obtain ⟨BL, eBL⟩ : ∃ B, B = (stI kv mm INN [] false INN.length).1 := ⟨_, rfl⟩
        obtain ⟨W2, eW2⟩ : ∃ B, B = (stI kv mm INN [] false INN.length).2.1 := ⟨_, rfl⟩
        obtain ⟨b2, eb2⟩ : ∃ B, B = (stI kv mm INN [] false INN.length).2.2 := ⟨_, rfl⟩
        rw [← eBL] at hxs hmm2
        rw [← eW2] at hL6 hll
        rw [← eb2] at hL6
        have hBLl : ∀ x ∈ BL, x.length = 32 := by rw [eBL]; exact stI_len _ _ _ _ _ _
        have hW2l : W2.length ≤ 8 := by omega
        have hm64 : m ≤ 64 := by omega
        have hM6 := H5.out.2.1.below (hb.mono (Nat.le_refl _)) (by omega)
        have hbw6 : Below w.heap.size w wr := H5.out.2.2.1.trans (hb.mono (by omega))
        have H6 := Lib.hid (And.intro hL6 (And.intro hM6 (And.intro hbw6 (And.intro hR (And.intro HA.out (And.intro hmm2 (And.intro hBLl (And.intro hxs (And.intro eBL (And.intro eW2 eb2))))))))))
        clear hL6 hxs hmm2 hll eBL eW2 eb2 hBLl hM6 hbw6 hR HA HMM HXS HL HLL HK hb hj hm hjI
        go_wp2_with fail
        refine (ldone_any H6.out.1 (by omega)).mono ?_
        rintro e w6 ⟨p6, n6, c6, E6, rfl, hb6, hd6⟩
        rcases hd6 with ⟨r, hd1, hd2, hd3, hd4, hd5, hd6⟩ | ⟨hd1, rfl, hw2, hbb2⟩
        · have hRR : RR = r := by
            rw [ER.out, loadR]
            simp only [← EM.out.1, ← EM.out.2.1, ← EI.out.1, ← EI.out.2.1, ← EI.out.2.2.1, H5.out.2.2.2.2.2.2, ← H6.out.2.2.2.2.2.2.2.2.2.1, ← H6.out.2.2.2.2.2.2.2.2.2.2, hd1]
          have HD := Lib.hid (And.intro hRR (And.intro hd2 (And.intro hd3 (And.intro hd5 hd6))))
          clear hRR hd2 hd3 hd5 hd6 hd1
          rcases hd4 with rfl | rfl
          · go_wp2
            refine bodyPost_ret (v := .tuple #[.string ⟨#[]⟩, .slice p6 n6 c6, .int .i64 1200]) (by simp [results, Try.f90, go_sem]) rfl ⟨p6, n6, c6, by rw [HD.out.1, HD.out.2.1, ← HD.out.2.2.1], by rw [HD.out.1]; exact HD.out.2.2.2.1, by rw [HD.out.1]; exact row_mono HD.out.2.2.2.2 (by omega), H6.out.2.2.1.trans (hb6.mono H6.out.2.2.1.size)⟩
          · go_wp2
            refine bodyPost_ret (v := .tuple #[.string ⟨#[]⟩, .slice p6 n6 c6, .int .i64 1201]) (by simp [results, Try.f90, go_sem]) rfl ⟨p6, n6, c6, by rw [HD.out.1, HD.out.2.1, ← HD.out.2.2.1], by rw [HD.out.1]; exact HD.out.2.2.2.1, by rw [HD.out.1]; exact row_mono HD.out.2.2.2.2 (by omega), H6.out.2.2.1.trans (hb6.mono H6.out.2.2.1.size)⟩
        · subst hw2
          subst hbb2
          have hld6 := H6.out.1.below hb6
          have hM6 := H6.out.2.1.below hb6 H6.out.2.1.lt
          have hbw6 : Below w.heap.size w w6 := H6.out.2.2.1.trans (hb6.mono H6.out.2.2.1.size)
          have hR6 : w6.ownsRow w5.heap.size 29 32 (.slice p m c) m xs := H6.out.2.2.2.1.kept (grown_below hb6 (Nat.le_refl _) none) (by cases (Value.slice p m c).ownBlock <;> simp)
          have hA6 : ∀ g, (Value.slice p m c).ownBlock = some g → WApart w6 Bw g := fun g e => (H6.out.2.2.2.2.1 g e).below H6.out.1.lt hb6
          have hBw6 : Bw ≤ w6.heap.size := Nat.le_of_lt hld6.lt
          have hxs := H6.out.2.2.2.2.2.2.2.1
          have hBLl := H6.out.2.2.2.2.2.2.1
          have hmB := H6.out.2.2.2.2.2.1
          have H7 := Lib.hid (And.intro hld6 (And.intro hM6 (And.intro hbw6 (And.intro hR6 (And.intro hA6 (And.intro hxs (And.intro hBLl hmB)))))))
          have HD1 := Lib.hid hd1
          clear hld6 hM6 hbw6 hR6 hA6 hxs hBLl hmB hb6 hd1
          go_wp2
          go_loopw [21, 22, 23, 24, 25, 87] (fun t21 s22 s23 s24 s25 i wr => ∃ (j : Nat) (O : ByteArray), t21 = .string O ∧ i = .int .i64 (j : Int) ∧ j ≤ m ∧ O.size ≤ 64 * j ∧ Hid (O.data.toList = (stB kv size BL [] false j).1) ∧
            Hid (LdAt wr Bw Bw Bt (stB kv size BL [] false j).2.1 (stB kv size BL [] false j).2.2) ∧ Hid ((stB kv size BL [] false j).2.1.length ≤ j) ∧ Below Bw w6 wr ∧ Hid (WKeeps w6 wr Bw) ∧ w6.heap.size ≤ wr.heap.size) (fun _ _ _ _ _ i _ => m - (intOf i).toNat)
          case atStart => exact ⟨0, ⟨#[]⟩, rfl, rfl, by omega, by decide, Lib.hid rfl, Lib.hid H7.out.1, Lib.hid (Nat.le_refl _), Below.refl _ _, Lib.hid (WKeeps.refl _ _), Nat.le_refl _⟩
          case round =>
            obtain ⟨j2, O, rfl, rfl, hj2, hO, HOL, HL2, HLL2, hb2, HK2, hsz2⟩ := hrel
            by_cases h2 : j2 < m
            · have hjl : j2 < BL.length := by rw [← H7.out.2.2.2.2.2.2.2]; exact h2
              obtain ⟨g, c', e1, _, hgl, _, _⟩ := row_form H7.out.2.2.2.1 (by intro e; injection e with _ e _; omega)
              injection e1 with e1 _ e2
              subst e1; subst e2
              obtain ⟨Lh, eL⟩ : ∃ L, L = BL.getD j2 [] := ⟨_, rfl⟩
              have eL2 : Lh = BL[j2] := by rw [eL, List.getD, List.getElem?_eq_getElem hjl]; rfl
              have hLl : Lh.length = 32 := by rw [eL2]; exact H7.out.2.2.2.2.2.2.1 _ (List.getElem_mem hjl)
              have hkg := (HK2.out g hgl (H7.out.2.2.2.2.1 g rfl)).2
              have hrg : wr.rangeAt g (j2 * 32) (bcells Lh).toList := fun i v hv => by
                have hi : i < 32 := by
                  have := (List.getElem?_eq_some_iff.1 hv).1
                  rwa [Array.length_toList, bcells_size, hLl] at this
                have := H7.out.2.2.2.1.cells (g := g) rfl (j2 * 32 + i) v (by rw [H7.out.2.2.2.2.2.1, hcells_get BL H7.out.2.2.2.2.2.2.1 j2 hjl i hi, ← eL2]; exact hv)
                rw [Addr.add_mid, Nat.zero_add] at this
                exact (cell_same hkg _).trans this
              obtain ⟨d, ed⟩ : ∃ d, d = size - 64 * j2 := ⟨_, rfl⟩
              have hd0 : 0 < d := by
                have h1 : BL.length ≤ mm := by rw [H6.out.2.2.2.2.2.2.2.2.1]; exact Nat.le_trans (stI_max _ _ _ _ _ _) (Nat.min_le_right _ _)
                have h3 := EM.out.1
                unfold partsN at h3
                omega
              have hsub : (size : Int) - (j2 : Int) * 64 = (d : Int) := by omega
              obtain ⟨k, ek⟩ : ∃ k, k = min 64 (size - 64 * j2) := ⟨_, rfl⟩
              have hkk : (k = d ∧ (d : Int) < 64) ∨ (k = 64 ∧ (64 : Int) < (d : Int)) ∨ (k = 64 ∧ d = 64) := by omega
              have hk8 : k ≤ 64 := by omega
              have hX0 : Blk (wr.alloc (.cells z32 29)) wr.heap.size 29 z32 := Blk.new _ _ _
              have hX7 : Blk ((wr.alloc (.cells z32 29)).setRow wr.heap.size (bcells Lh)) wr.heap.size 29 (bcells Lh) := hX0.row _
              have hb7 : Below wr.heap.size wr ((wr.alloc (.cells z32 29)).setRow wr.heap.size (bcells Lh)) := below_setRow ((Below.refl _ _).alloc (Nat.le_refl _) _) (Nat.le_refl _) _
              have hld7 := HL2.out.below hb7
              have hM7 := H7.out.2.1.below (hb2.trans (hb7.mono (Nat.le_trans hBw6 hsz2))) (by omega)
              have hkr7 : WKeeps w6 ((wr.alloc (.cells z32 29)).setRow wr.heap.size (bcells Lh)) Bw := HK2.out.trans hsz2 (WKeeps.below HL2.out.lt hb7)
              have hbr7 : Below Bw w6 ((wr.alloc (.cells z32 29)).setRow wr.heap.size (bcells Lh)) := hb2.trans (hb7.mono (Nat.le_trans hBw6 hsz2))
              have hs7 : w6.heap.size ≤ ((wr.alloc (.cells z32 29)).setRow wr.heap.size (bcells Lh)).heap.size := Nat.le_trans hsz2 hb7.size
              obtain ⟨WJ, eWJ⟩ : ∃ W, W = (stB kv size BL [] false j2).2.1 := ⟨_, rfl⟩
              obtain ⟨bj, ebj⟩ : ∃ W, W = (stB kv size BL [] false j2).2.2 := ⟨_, rfl⟩
              obtain ⟨BJ, eBJ⟩ : ∃ W, W = (stB kv size BL [] false j2).1 := ⟨_, rfl⟩
              have hst1 : (stB kv size BL [] false (j2 + 1)).1 = BJ ++ blkOut kv Lh k := by rw [eBJ, eL, ek]; rfl
              have hst2 : (stB kv size BL [] false (j2 + 1)).2.1 = wantsG kv WJ Lh := by rw [eWJ, eL]; rfl
              have hst3 : (stB kv size BL [] false (j2 + 1)).2.2 = blkBad kv Lh k bj := by rw [ebj, eL, ek]; rfl
              have hol := HOL.out
              have hll := HLL2.out
              rw [← eBJ] at hol
              rw [← eWJ] at hll
              rw [← eWJ, ← ebj] at hld7
              have c104 := lget_any hld7 hM7 Lh hLl (by omega)
              have HC := Lib.hid (And.intro c104 (And.intro hst1 (And.intro hst2 (And.intro hst3 (And.intro hol (And.intro hll hLl))))))
              have H8 := Lib.hid (And.intro hkr7 (And.intro hbr7 (And.intro hrg (And.intro hX0 hX7))))
              clear c104 hst1 hst2 hst3 hol hll hkr7 hbr7 hX0 hX7 hrg hld7 hM7 eWJ ebj eBJ eL eL2 hLl hkg hb7 ek ed hjl hb2 HOL HL2 HLL2 HK2
              have hs65 : ∀ s, findL kv Lh = some s → s.size ≤ 140737488351232 := fun s hq => findL_size hkv hq
              cases hq : findL kv Lh with
              | none =>
                rw [hq] at HC
                go_upto_region 21 with fail
                iterate 7 (first | go_skip | go_guarded | go_step | go_upon)
                with_reducible refine wpList_ld_mid (d := 91) g (j2 * 32) (bcells Lh).toList ?_ H8.out.2.2.1 Try.underlying29 ?_ ?_ ?_
                · rfl
                · rfl
                · rw [size29, Array.length_toList, bcells_size, HC.out.2.2.2.2.2.2]
                simp only [List.setIfInBounds_toArray, List.set_cons_succ, List.set_cons_zero, Array.toArray_toList]
                refine wpList_alN (d := 23) z32 zero29 wr.heap.size rfl ?_
                simp only [List.setIfInBounds_toArray, List.set_cons_succ, List.set_cons_zero]
                iterate 3 (first | go_skip | go_guarded | go_step | go_upon)
                refine wpList_st_row wr.heap.size (bcells Lh) rfl rfl 29 z32 H8.out.2.2.2.1 (by rw [size29, bcells_size, HC.out.2.2.2.2.2.2]) (by rw [bcells_size, HC.out.2.2.2.2.2.2]; rfl) (bcells_one _) ?_
                go_upto_region 22 with fail
                iterate 4 (first | go_skip | go_guarded | go_step | go_upon)
                refine wpList_ld_row (d := 94) wr.heap.size (bcells Lh) rfl 29 H8.out.2.2.2.2 Try.underlying29 rfl (by rw [size29, bcells_size, HC.out.2.2.2.2.2.2]) ?_
                simp only [List.setIfInBounds_toArray, List.set_cons_succ, List.set_cons_zero]
                go_wp2_with fail
                refine HC.out.1.mono ?_
                rintro e w8 ⟨rfl, hld8, hb8, hk8'⟩
                have HF := Lib.hid (And.intro hld8 (And.intro hb8 hk8'))
                clear hld8 hb8 hk8' hkk hsub hd0 hs65
                go_wp2
                exact ⟨⟨j2 + 1, O, rfl, by go_num, by omega, by omega, Lib.hid (by rw [HC.out.2.1, blkOut, hq, HC.out.2.2.2.2.1, List.append_nil]), Lib.hid (by rw [HC.out.2.2.1, HC.out.2.2.2.1, blkBad, hq]; exact HF.out.1), Lib.hid (by rw [HC.out.2.2.1]; exact Nat.le_trans (wantsG_length _ _ _) (by have := HC.out.2.2.2.2.2.1; omega)), H8.out.2.1.trans HF.out.2.1, Lib.hid (H8.out.1.trans hs7 HF.out.2.2), Nat.le_trans hs7 HF.out.2.1.size⟩, by simp [intOf]; omega⟩
              | some s =>
                rw [hq] at HC
                have hs16 := hs65 s hq
                obtain ⟨PX, ePX⟩ : ∃ P, P = s.extract 0 1 := ⟨_, rfl⟩
                have hPXl : PX.data.toList = s.data.toList.take 1 := by
                  rw [ePX, ByteArray.data_extract, Array.toList_extract, List.extract_eq_take_drop]
                  simp
                have hway : (blkOut kv Lh k = [] ∧ blkBad kv Lh k bj = true ∧ ¬ s.size = 1 + k) ∨ (blkOut kv Lh k = [] ∧ blkBad kv Lh k bj = true ∧ s.size = 1 + k ∧ ¬ PX = ⟨#[66]⟩) ∨ (blkOut kv Lh k = s.data.toList.drop 1 ∧ blkBad kv Lh k bj = bj ∧ s.size = 1 + k ∧ PX = ⟨#[66]⟩) := by
                  by_cases g : s.size = 1 + k
                  · by_cases g2 : PX = ⟨#[66]⟩
                    · refine .inr (.inr ?_)
                      have : isBlock s k := ⟨g, by rw [← hPXl, g2]⟩
                      simp only [blkOut, blkBad, hq, this, if_true]
                      exact ⟨trivial, trivial, g, g2⟩
                    · refine .inr (.inl ?_)
                      have : ¬ isBlock s k := fun h => g2 (ba_ext3 (by rw [hPXl, h.2]))
                      simp only [blkOut, blkBad, hq, this, if_false]
                      exact ⟨trivial, trivial, g, g2⟩
                  · refine .inl ?_
                    have : ¬ isBlock s k := fun h => g h.1
                    simp only [blkOut, blkBad, hq, this, if_false]
                    exact ⟨trivial, trivial, g⟩
                clear hPXl hs65
                rcases hway with ⟨ho1, ho2, ho3⟩ | ⟨ho1, ho2, ho3, ho4⟩ | ⟨ho1, ho2, ho3, ho4⟩
                · have HO := Lib.hid (And.intro ho1 ho2)
                  clear ho1 ho2 ePX
                  rcases hkk with ⟨rfl, hk3⟩ | ⟨rfl, hk3⟩ | ⟨rfl, rfl⟩
                  · have q1 : ((s.size : Int) == 1 + (k : Int)) = false := by rw [beq_eq_false_iff_ne]; omega
                    have q2 : ¬ (s.size : Int) = 1 + (k : Int) := by omega
                    clear ho3
                    go_upto_region 21 with fail
                    iterate 7 (first | go_skip | go_guarded | go_step | go_upon)
                    with_reducible refine wpList_ld_mid (d := 91) g (j2 * 32) (bcells Lh).toList ?_ H8.out.2.2.1 Try.underlying29 ?_ ?_ ?_
                    · rfl
                    · rfl
                    · rw [size29, Array.length_toList, bcells_size, HC.out.2.2.2.2.2.2]
                    simp only [List.setIfInBounds_toArray, List.set_cons_succ, List.set_cons_zero, Array.toArray_toList]
                    refine wpList_alN (d := 23) z32 zero29 wr.heap.size rfl ?_
                    simp only [List.setIfInBounds_toArray, List.set_cons_succ, List.set_cons_zero]
                    iterate 3 (first | go_skip | go_guarded | go_step | go_upon)
                    refine wpList_st_row wr.heap.size (bcells Lh) rfl rfl 29 z32 H8.out.2.2.2.1 (by rw [size29, bcells_size, HC.out.2.2.2.2.2.2]) (by rw [bcells_size, HC.out.2.2.2.2.2.2]; rfl) (bcells_one _) ?_
                    go_upto_region 22 with fail
                    iterate 4 (first | go_skip | go_guarded | go_step | go_upon)
                    refine wpList_ld_row (d := 94) wr.heap.size (bcells Lh) rfl 29 H8.out.2.2.2.2 Try.underlying29 rfl (by rw [size29, bcells_size, HC.out.2.2.2.2.2.2]) ?_
                    simp only [List.setIfInBounds_toArray, List.set_cons_succ, List.set_cons_zero]
                    go_wp2_with fail
                    refine HC.out.1.mono ?_
                    rintro e w8 ⟨rfl, hld8, hb8, hk8'⟩
                    obtain ⟨p0, c0, sv0, hB8, _⟩ := hld8.ex
                    have hc8 : w8.cell? ⟨Bw, 3, none⟩ = some (.bool bj) := hB8.cell 3
                    have hf8 : w8.frozen? ⟨Bw, 3, none⟩ = false := hB8.frozen 3
                    have HF := Lib.hid (And.intro hld8 (And.intro hb8 hk8'))
                    clear hld8 hb8 hk8' hB8 hq
                    go_wp2
                    exact ⟨⟨j2 + 1, O, rfl, by go_num, by omega, by omega, Lib.hid (by rw [HC.out.2.1, HO.out.1, HC.out.2.2.2.2.1, List.append_nil]), Lib.hid (by rw [HC.out.2.2.1, HC.out.2.2.2.1, HO.out.2]; exact (HF.out.1.bad).1), Lib.hid (by rw [HC.out.2.2.1]; exact Nat.le_trans (wantsG_length _ _ _) (by have := HC.out.2.2.2.2.2.1; omega)), H8.out.2.1.trans (HF.out.2.1.trans (HF.out.1.bad).2.1), Lib.hid ((H8.out.1.trans hs7 HF.out.2.2).trans (Nat.le_trans hs7 HF.out.2.1.size) (HF.out.1.bad).2.2), Nat.le_trans hs7 (Nat.le_trans HF.out.2.1.size (HF.out.1.bad).2.1.size)⟩, by simp [intOf]; omega⟩
                  all_goals
                    have q1 : ((s.size : Int) == 65) = false := by rw [beq_eq_false_iff_ne]; omega
                    have q2 : ¬ (s.size : Int) = 65 := by omega
                    clear ho3
                    go_upto_region 21 with fail
                    iterate 7 (first | go_skip | go_guarded | go_step | go_upon)
                    with_reducible refine wpList_ld_mid (d := 91) g (j2 * 32) (bcells Lh).toList ?_ H8.out.2.2.1 Try.underlying29 ?_ ?_ ?_
                    · rfl
                    · rfl
                    · rw [size29, Array.length_toList, bcells_size, HC.out.2.2.2.2.2.2]
                    simp only [List.setIfInBounds_toArray, List.set_cons_succ, List.set_cons_zero, Array.toArray_toList]
                    refine wpList_alN (d := 23) z32 zero29 wr.heap.size rfl ?_
                    simp only [List.setIfInBounds_toArray, List.set_cons_succ, List.set_cons_zero]
                    iterate 3 (first | go_skip | go_guarded | go_step | go_upon)
                    refine wpList_st_row wr.heap.size (bcells Lh) rfl rfl 29 z32 H8.out.2.2.2.1 (by rw [size29, bcells_size, HC.out.2.2.2.2.2.2]) (by rw [bcells_size, HC.out.2.2.2.2.2.2]; rfl) (bcells_one _) ?_
                    go_upto_region 22 with fail
                    iterate 4 (first | go_skip | go_guarded | go_step | go_upon)
                    refine wpList_ld_row (d := 94) wr.heap.size (bcells Lh) rfl 29 H8.out.2.2.2.2 Try.underlying29 rfl (by rw [size29, bcells_size, HC.out.2.2.2.2.2.2]) ?_
                    simp only [List.setIfInBounds_toArray, List.set_cons_succ, List.set_cons_zero]
                    go_wp2_with fail
                    refine HC.out.1.mono ?_
                    rintro e w8 ⟨rfl, hld8, hb8, hk8'⟩
                    obtain ⟨p0, c0, sv0, hB8, _⟩ := hld8.ex
                    have hc8 : w8.cell? ⟨Bw, 3, none⟩ = some (.bool bj) := hB8.cell 3
                    have hf8 : w8.frozen? ⟨Bw, 3, none⟩ = false := hB8.frozen 3
                    have HF := Lib.hid (And.intro hld8 (And.intro hb8 hk8'))
                    clear hld8 hb8 hk8' hB8 hq
                    go_wp2
                    exact ⟨⟨j2 + 1, O, rfl, by go_num, by omega, by omega, Lib.hid (by rw [HC.out.2.1, HO.out.1, HC.out.2.2.2.2.1, List.append_nil]), Lib.hid (by rw [HC.out.2.2.1, HC.out.2.2.2.1, HO.out.2]; exact (HF.out.1.bad).1), Lib.hid (by rw [HC.out.2.2.1]; exact Nat.le_trans (wantsG_length _ _ _) (by have := HC.out.2.2.2.2.2.1; omega)), H8.out.2.1.trans (HF.out.2.1.trans (HF.out.1.bad).2.1), Lib.hid ((H8.out.1.trans hs7 HF.out.2.2).trans (Nat.le_trans hs7 HF.out.2.1.size) (HF.out.1.bad).2.2), Nat.le_trans hs7 (Nat.le_trans HF.out.2.1.size (HF.out.1.bad).2.1.size)⟩, by simp [intOf]; omega⟩
                · have HO := Lib.hid (And.intro ho1 ho2)
                  clear ho1 ho2
                  have hsl : ∀ w', (Instr.slice 9 (.string s) none (some (.int .i64 1)) none).run Try.prog w' = .ok (.string PX) w' := fun w' => by
                    rw [run_slice_string_to_if w' 9 s .i64 1 Try.underlying9, if_pos (by omega), ePX]
                    rfl
                  have q3 : ¬ PX.toList = (⟨#[66]⟩ : ByteArray).toList := fun e => ho4 (ba_ext3 (by rw [← Lib.toList_data, ← Lib.toList_data, e]))
                  have q4 : (PX.toList == (⟨#[66]⟩ : ByteArray).toList) = false := by rw [beq_eq_false_iff_ne]; exact q3
                  have q5 : ¬ PX.toList = [66] := fun e => q3 (e.trans (Lib.toList_data ⟨#[66]⟩).symm)
                  have q6 : (PX.toList == [66]) = false := by rw [beq_eq_false_iff_ne]; exact q5
                  clear ePX ho4
                  rcases hkk with ⟨rfl, hk3⟩ | ⟨rfl, hk3⟩ | ⟨rfl, rfl⟩
                  · have q1 : ((s.size : Int) == 1 + (k : Int)) = true := by rw [beq_iff_eq]; omega
                    have q2 : (s.size : Int) = 1 + (k : Int) := by omega
                    go_upto_region 21 with fail
                    iterate 7 (first | go_skip | go_guarded | go_step | go_upon)
                    with_reducible refine wpList_ld_mid (d := 91) g (j2 * 32) (bcells Lh).toList ?_ H8.out.2.2.1 Try.underlying29 ?_ ?_ ?_
                    · rfl
                    · rfl
                    · rw [size29, Array.length_toList, bcells_size, HC.out.2.2.2.2.2.2]
                    simp only [List.setIfInBounds_toArray, List.set_cons_succ, List.set_cons_zero, Array.toArray_toList]
                    refine wpList_alN (d := 23) z32 zero29 wr.heap.size rfl ?_
                    simp only [List.setIfInBounds_toArray, List.set_cons_succ, List.set_cons_zero]
                    iterate 3 (first | go_skip | go_guarded | go_step | go_upon)
                    refine wpList_st_row wr.heap.size (bcells Lh) rfl rfl 29 z32 H8.out.2.2.2.1 (by rw [size29, bcells_size, HC.out.2.2.2.2.2.2]) (by rw [bcells_size, HC.out.2.2.2.2.2.2]; rfl) (bcells_one _) ?_
                    go_upto_region 22 with fail
                    iterate 4 (first | go_skip | go_guarded | go_step | go_upon)
                    refine wpList_ld_row (d := 94) wr.heap.size (bcells Lh) rfl 29 H8.out.2.2.2.2 Try.underlying29 rfl (by rw [size29, bcells_size, HC.out.2.2.2.2.2.2]) ?_
                    simp only [List.setIfInBounds_toArray, List.set_cons_succ, List.set_cons_zero]
                    go_wp2_with fail
                    refine HC.out.1.mono ?_
                    rintro e w8 ⟨rfl, hld8, hb8, hk8'⟩
                    obtain ⟨p0, c0, sv0, hB8, _⟩ := hld8.ex
                    have hc8 : w8.cell? ⟨Bw, 3, none⟩ = some (.bool bj) := hB8.cell 3
                    have hf8 : w8.frozen? ⟨Bw, 3, none⟩ = false := hB8.frozen 3
                    have HF := Lib.hid (And.intro hld8 (And.intro hb8 hk8'))
                    clear hld8 hb8 hk8' hB8 hq
                    go_wp2
                    exact ⟨⟨j2 + 1, O, rfl, by go_num, by omega, by omega, Lib.hid (by rw [HC.out.2.1, HO.out.1, HC.out.2.2.2.2.1, List.append_nil]), Lib.hid (by rw [HC.out.2.2.1, HC.out.2.2.2.1, HO.out.2]; exact (HF.out.1.bad).1), Lib.hid (by rw [HC.out.2.2.1]; exact Nat.le_trans (wantsG_length _ _ _) (by have := HC.out.2.2.2.2.2.1; omega)), H8.out.2.1.trans (HF.out.2.1.trans (HF.out.1.bad).2.1), Lib.hid ((H8.out.1.trans hs7 HF.out.2.2).trans (Nat.le_trans hs7 HF.out.2.1.size) (HF.out.1.bad).2.2), Nat.le_trans hs7 (Nat.le_trans HF.out.2.1.size (HF.out.1.bad).2.1.size)⟩, by simp [intOf]; omega⟩
                  all_goals
                    have q1 : ((s.size : Int) == 65) = true := by rw [beq_iff_eq]; omega
                    have q2 : (s.size : Int) = 65 := by omega
                    go_upto_region 21 with fail
                    iterate 7 (first | go_skip | go_guarded | go_step | go_upon)
                    with_reducible refine wpList_ld_mid (d := 91) g (j2 * 32) (bcells Lh).toList ?_ H8.out.2.2.1 Try.underlying29 ?_ ?_ ?_
                    · rfl
                    · rfl
                    · rw [size29, Array.length_toList, bcells_size, HC.out.2.2.2.2.2.2]
                    simp only [List.setIfInBounds_toArray, List.set_cons_succ, List.set_cons_zero, Array.toArray_toList]
                    refine wpList_alN (d := 23) z32 zero29 wr.heap.size rfl ?_
                    simp only [List.setIfInBounds_toArray, List.set_cons_succ, List.set_cons_zero]
                    iterate 3 (first | go_skip | go_guarded | go_step | go_upon)
                    refine wpList_st_row wr.heap.size (bcells Lh) rfl rfl 29 z32 H8.out.2.2.2.1 (by rw [size29, bcells_size, HC.out.2.2.2.2.2.2]) (by rw [bcells_size, HC.out.2.2.2.2.2.2]; rfl) (bcells_one _) ?_
                    go_upto_region 22 with fail
                    iterate 4 (first | go_skip | go_guarded | go_step | go_upon)
                    refine wpList_ld_row (d := 94) wr.heap.size (bcells Lh) rfl 29 H8.out.2.2.2.2 Try.underlying29 rfl (by rw [size29, bcells_size, HC.out.2.2.2.2.2.2]) ?_
                    simp only [List.setIfInBounds_toArray, List.set_cons_succ, List.set_cons_zero]
                    go_wp2_with fail
                    refine HC.out.1.mono ?_
                    rintro e w8 ⟨rfl, hld8, hb8, hk8'⟩
                    obtain ⟨p0, c0, sv0, hB8, _⟩ := hld8.ex
                    have hc8 : w8.cell? ⟨Bw, 3, none⟩ = some (.bool bj) := hB8.cell 3
                    have hf8 : w8.frozen? ⟨Bw, 3, none⟩ = false := hB8.frozen 3
                    have HF := Lib.hid (And.intro hld8 (And.intro hb8 hk8'))
                    clear hld8 hb8 hk8' hB8 hq
                    go_wp2
                    exact ⟨⟨j2 + 1, O, rfl, by go_num, by omega, by omega, Lib.hid (by rw [HC.out.2.1, HO.out.1, HC.out.2.2.2.2.1, List.append_nil]), Lib.hid (by rw [HC.out.2.2.1, HC.out.2.2.2.1, HO.out.2]; exact (HF.out.1.bad).1), Lib.hid (by rw [HC.out.2.2.1]; exact Nat.le_trans (wantsG_length _ _ _) (by have := HC.out.2.2.2.2.2.1; omega)), H8.out.2.1.trans (HF.out.2.1.trans (HF.out.1.bad).2.1), Lib.hid ((H8.out.1.trans hs7 HF.out.2.2).trans (Nat.le_trans hs7 HF.out.2.1.size) (HF.out.1.bad).2.2), Nat.le_trans hs7 (Nat.le_trans HF.out.2.1.size (HF.out.1.bad).2.1.size)⟩, by simp [intOf]; omega⟩
                · have HO := Lib.hid (And.intro ho1 ho2)
                  clear ho1 ho2
                  have hsl : ∀ w', (Instr.slice 9 (.string s) none (some (.int .i64 1)) none).run Try.prog w' = .ok (.string PX) w' := fun w' => by
                    rw [run_slice_string_to_if w' 9 s .i64 1 Try.underlying9, if_pos (by omega), ePX]
                    rfl
                  obtain ⟨S1, eS1⟩ : ∃ S, S = s.extract 1 s.size := ⟨_, rfl⟩
                  have hS1l : S1.data.toList = s.data.toList.drop 1 := by
                    rw [eS1, ByteArray.data_extract, Array.toList_extract, List.extract_eq_take_drop, List.take_of_length_le (by rw [List.length_drop]; exact Nat.le_refl _)]
                  have hsl2 : ∀ w', (Instr.slice 9 (.string s) (some (.int .i64 1)) none none).run Try.prog w' = .ok (.string S1) w' := fun w' => by
                    rw [run_slice_string_from_if w' 9 s .i64 1 Try.underlying9, if_pos (by omega), eS1]
                    rfl
                  have hS1s : S1.size = k := by rw [ba_list, hS1l, List.length_drop, ← ba_list]; omega
                  obtain ⟨OO, eOO⟩ : ∃ X, O ++ S1 = X := ⟨_, rfl⟩
                  have hadd : ∀ w', (Op.stringOp .add O S1).run Try.prog w' = .ok (.string OO) w' := fun w' => add_texts w' _ _ (by omega) eOO
                  have hOOl : OO.data.toList = O.data.toList ++ s.data.toList.drop 1 := by rw [← eOO, ByteArray.data_append, Array.toList_append, hS1l]
                  have hOOs : OO.size ≤ 64 * (j2 + 1) := by rw [← eOO, ByteArray.size_append]; omega
                  subst ho4
                  have HOO := Lib.hid hOOl
                  clear ePX eS1 eOO hS1l hS1s hOOl
                  rcases hkk with ⟨rfl, hk3⟩ | ⟨rfl, hk3⟩ | ⟨rfl, rfl⟩
                  · have q1 : ((s.size : Int) == 1 + (k : Int)) = true := by rw [beq_iff_eq]; omega
                    have q2 : (s.size : Int) = 1 + (k : Int) := by omega
                    go_upto_region 21 with fail
                    iterate 7 (first | go_skip | go_guarded | go_step | go_upon)
                    with_reducible refine wpList_ld_mid (d := 91) g (j2 * 32) (bcells Lh).toList ?_ H8.out.2.2.1 Try.underlying29 ?_ ?_ ?_
                    · rfl
                    · rfl
                    · rw [size29, Array.length_toList, bcells_size, HC.out.2.2.2.2.2.2]
                    simp only [List.setIfInBounds_toArray, List.set_cons_succ, List.set_cons_zero, Array.toArray_toList]
                    refine wpList_alN (d := 23) z32 zero29 wr.heap.size rfl ?_
                    simp only [List.setIfInBounds_toArray, List.set_cons_succ, List.set_cons_zero]
                    iterate 3 (first | go_skip | go_guarded | go_step | go_upon)
                    refine wpList_st_row wr.heap.size (bcells Lh) rfl rfl 29 z32 H8.out.2.2.2.1 (by rw [size29, bcells_size, HC.out.2.2.2.2.2.2]) (by rw [bcells_size, HC.out.2.2.2.2.2.2]; rfl) (bcells_one _) ?_
                    go_upto_region 22 with fail
                    iterate 4 (first | go_skip | go_guarded | go_step | go_upon)
                    refine wpList_ld_row (d := 94) wr.heap.size (bcells Lh) rfl 29 H8.out.2.2.2.2 Try.underlying29 rfl (by rw [size29, bcells_size, HC.out.2.2.2.2.2.2]) ?_
                    simp only [List.setIfInBounds_toArray, List.set_cons_succ, List.set_cons_zero]
                    go_wp2_with fail
                    refine HC.out.1.mono ?_
                    rintro e w8 ⟨rfl, hld8, hb8, hk8'⟩
                    have HF := Lib.hid (And.intro hld8 (And.intro hb8 hk8'))
                    clear hld8 hb8 hk8' hq
                    go_wp2
                    exact ⟨⟨j2 + 1, OO, rfl, by go_num, by omega, hOOs, Lib.hid (by rw [HC.out.2.1, HO.out.1, ← HC.out.2.2.2.2.1, HOO.out]), Lib.hid (by rw [HC.out.2.2.1, HC.out.2.2.2.1, HO.out.2]; exact HF.out.1), Lib.hid (by rw [HC.out.2.2.1]; exact Nat.le_trans (wantsG_length _ _ _) (by have := HC.out.2.2.2.2.2.1; omega)), H8.out.2.1.trans HF.out.2.1, Lib.hid (H8.out.1.trans hs7 HF.out.2.2), Nat.le_trans hs7 HF.out.2.1.size⟩, by simp [intOf]; omega⟩
                  all_goals
                    have q1 : ((s.size : Int) == 65) = true := by rw [beq_iff_eq]; omega
                    have q2 : (s.size : Int) = 65 := by omega
                    go_upto_region 21 with fail
                    iterate 7 (first | go_skip | go_guarded | go_step | go_upon)
                    with_reducible refine wpList_ld_mid (d := 91) g (j2 * 32) (bcells Lh).toList ?_ H8.out.2.2.1 Try.underlying29 ?_ ?_ ?_
                    · rfl
                    · rfl
                    · rw [size29, Array.length_toList, bcells_size, HC.out.2.2.2.2.2.2]
                    simp only [List.setIfInBounds_toArray, List.set_cons_succ, List.set_cons_zero, Array.toArray_toList]
                    refine wpList_alN (d := 23) z32 zero29 wr.heap.size rfl ?_
                    simp only [List.setIfInBounds_toArray, List.set_cons_succ, List.set_cons_zero]
                    iterate 3 (first | go_skip | go_guarded | go_step | go_upon)
                    refine wpList_st_row wr.heap.size (bcells Lh) rfl rfl 29 z32 H8.out.2.2.2.1 (by rw [size29, bcells_size, HC.out.2.2.2.2.2.2]) (by rw [bcells_size, HC.out.2.2.2.2.2.2]; rfl) (bcells_one _) ?_
                    go_upto_region 22 with fail
                    iterate 4 (first | go_skip | go_guarded | go_step | go_upon)
                    refine wpList_ld_row (d := 94) wr.heap.size (bcells Lh) rfl 29 H8.out.2.2.2.2 Try.underlying29 rfl (by rw [size29, bcells_size, HC.out.2.2.2.2.2.2]) ?_
                    simp only [List.setIfInBounds_toArray, List.set_cons_succ, List.set_cons_zero]
                    go_wp2_with fail
                    refine HC.out.1.mono ?_
                    rintro e w8 ⟨rfl, hld8, hb8, hk8'⟩
                    have HF := Lib.hid (And.intro hld8 (And.intro hb8 hk8'))
                    clear hld8 hb8 hk8' hq
                    go_wp2
                    exact ⟨⟨j2 + 1, OO, rfl, by go_num, by omega, hOOs, Lib.hid (by rw [HC.out.2.1, HO.out.1, ← HC.out.2.2.2.2.1, HOO.out]), Lib.hid (by rw [HC.out.2.2.1, HC.out.2.2.2.1, HO.out.2]; exact HF.out.1), Lib.hid (by rw [HC.out.2.2.1]; exact Nat.le_trans (wantsG_length _ _ _) (by have := HC.out.2.2.2.2.2.1; omega)), H8.out.2.1.trans HF.out.2.1, Lib.hid (H8.out.1.trans hs7 HF.out.2.2), Nat.le_trans hs7 HF.out.2.1.size⟩, by simp [intOf]; omega⟩
            · have hjm : j2 = BL.length := by have := H7.out.2.2.2.2.2.2.2; omega
              have hj64 : j2 ≤ 64 := by omega
              have hL9 := HL2.out
              have hol := HOL.out
              have hll := HLL2.out
              rw [hjm] at hL9 hol hll
              obtain ⟨W3, eW3⟩ : ∃ B, B = (stB kv size BL [] false BL.length).2.1 := ⟨_, rfl⟩
              obtain ⟨b3, eb3⟩ : ∃ B, B = (stB kv size BL [] false BL.length).2.2 := ⟨_, rfl⟩
              rw [← eW3] at hL9 hll
              rw [← eb3] at hL9
              have hW3l : W3.length ≤ 64 := by omega
              have hbw9 : Below w.heap.size w wr := H7.out.2.2.1.trans (hb2.mono (by omega))
              have H9 := Lib.hid (And.intro hL9 (And.intro hbw9 (And.intro hol (And.intro eW3 eb3))))
              clear hL9 hbw9 hol eW3 eb3 hll HOL HL2 HLL2 HK2 hb2 hO hj2 hjm
              go_wp2_with fail
              refine (ldone_any H9.out.1 (by omega)).mono ?_
              rintro e w10 ⟨p6, n6, c6, E6, rfl, hb6, hd6⟩
              rcases hd6 with ⟨r, hd1, hd2, hd3, hd4, hd5, hd6⟩ | ⟨hd1, rfl, hw2, hbb2⟩
              · have hRR : RR = r := by
                  rw [ER.out, loadR]
                  simp only [← EM.out.1, ← EM.out.2.1, ← EI.out.1, ← EI.out.2.1, ← EI.out.2.2.1, H5.out.2.2.2.2.2.2, ← H6.out.2.2.2.2.2.2.2.2.1, ← H6.out.2.2.2.2.2.2.2.2.2.1, ← H6.out.2.2.2.2.2.2.2.2.2.2, HD1.out, ← H9.out.2.2.2.1, ← H9.out.2.2.2.2, hd1]
                have HD := Lib.hid (And.intro hRR (And.intro hd2 (And.intro hd3 (And.intro hd5 hd6))))
                clear hRR hd2 hd3 hd5 hd6 hd1
                rcases hd4 with rfl | rfl
                · go_wp2
                  refine bodyPost_ret (v := .tuple #[.string ⟨#[]⟩, .slice p6 n6 c6, .int .i64 1200]) (by simp [results, Try.f90, go_sem]) rfl ⟨p6, n6, c6, by rw [HD.out.1, HD.out.2.1, ← HD.out.2.2.1], by rw [HD.out.1]; exact HD.out.2.2.2.1, by rw [HD.out.1]; exact row_mono HD.out.2.2.2.2 (by omega), H9.out.2.1.trans (hb6.mono H9.out.2.1.size)⟩
                · go_wp2
                  refine bodyPost_ret (v := .tuple #[.string ⟨#[]⟩, .slice p6 n6 c6, .int .i64 1201]) (by simp [results, Try.f90, go_sem]) rfl ⟨p6, n6, c6, by rw [HD.out.1, HD.out.2.1, ← HD.out.2.2.1], by rw [HD.out.1]; exact HD.out.2.2.2.1, by rw [HD.out.1]; exact row_mono HD.out.2.2.2.2 (by omega), H9.out.2.1.trans (hb6.mono H9.out.2.1.size)⟩
              · have hRR : RR = ⟨O, [], 0⟩ := by
                  rw [ER.out, loadR]
                  simp only [← EM.out.1, ← EM.out.2.1, ← EI.out.1, ← EI.out.2.1, ← EI.out.2.2.1, H5.out.2.2.2.2.2.2, ← H6.out.2.2.2.2.2.2.2.2.1, ← H6.out.2.2.2.2.2.2.2.2.2.1, ← H6.out.2.2.2.2.2.2.2.2.2.2, HD1.out, ← H9.out.2.2.2.1, ← H9.out.2.2.2.2, hd1, ← H9.out.2.2.1]
                have HD := Lib.hid hRR
                clear hRR hd1 hw2 hbb2
                go_wp2
                refine bodyPost_ret (v := .tuple #[.string O, .slice none 0 0, .int .i64 0]) (by simp [results, Try.f90, go_sem]) rfl ⟨none, 0, 0, by rw [HD.out], by rw [HD.out]; rfl, by rw [HD.out]; exact World.ownsRow_nil _ _ _ _, H9.out.2.1.trans (hb6.mono H9.out.2.1.size)⟩
end
end Go.Proofs.Ytmhbkilpllgchaa
