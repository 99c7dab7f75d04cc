/- A map from hashes to true; the loader's list of wanted hashes: object.List[Hash].Add. The loader's wanted hashes: object.List[Hash].Add. The loader's get and done. The loader's named. A table of objects; how many parts. -/
import Derived.Test.YtmhbkilpllgchaaFtG
namespace Go.Proofs.Ytmhbkilpllgchaa
open Go.RowKit BigFrame
set_option linter.unusedVariables false
set_option linter.unusedSimpArgs false

theorem under133 : Try.prog.underlying 133 = some (.map 29 4) := by kernel_rfl
def HT (L : List UInt8) : Value × Value := (.agg (bcells L), .bool true)
theorem ask_seen (w : World) (L : List UInt8) (hL : L.length = 32) : ∀ (es : List MapEntry) (ks : List (List UInt8)) (i : Nat), es.map (fun e => (e.key, e.val)) = ks.map HT → (∀ k ∈ ks, k.length = 32) →
    (L ∉ ks → (Instr.findAsking 29 (.agg (bcells L)) es i).run Try.prog w = .ok none w) ∧ (L ∈ ks → ∃ j, (Instr.findAsking 29 (.agg (bcells L)) es i).run Try.prog w = .ok (some (j, .bool true)) w)
  | [], [], i, _, _ => ⟨fun _ => rfl, fun h => by cases h⟩
  | [], p :: ks, i, h, _ => by cases h
  | e :: es, [], i, h, _ => by cases h
  | e :: es, p :: ks, i, h, hl => by
    rw [List.map_cons, List.map_cons] at h
    injection h with h1 h2
    have hk : e.key = .agg (bcells p) := congrArg Prod.fst h1
    have hv : e.val = .bool true := congrArg Prod.snd h1
    have hp := hl p (by simp)
    have he : (Op.equal 29 (.agg (bcells L)) e.key).run Try.prog w = .ok (decide (L = p)) w := by
      rw [hk]
      exact run_equal_bytes w L p hL hp
    have ih := ask_seen w L hL es ks (i + 1) h2 (fun q hq => hl q (List.mem_cons_of_mem _ hq))
    by_cases hx : L = p
    · refine ⟨fun h => absurd (by rw [hx]; simp) h, fun _ => ⟨i, ?_⟩⟩
      rw [Instr.findAsking]
      simp only [Sem.run_bind, he, Result.andThen_ok, decide_eq_true hx, if_true, Sem.run_pure, hv]
    · have e1 : (Instr.findAsking 29 (.agg (bcells L)) (e :: es) i).run Try.prog w = (Instr.findAsking 29 (.agg (bcells L)) es (i + 1)).run Try.prog w := by
        rw [Instr.findAsking]
        simp only [Sem.run_bind, he, Result.andThen_ok, decide_eq_false hx, Bool.false_eq_true, if_false]
      rw [e1]
      exact ⟨fun h => ih.1 (fun g => h (List.mem_cons_of_mem _ g)), fun h => ih.2 ((List.mem_cons.1 h).resolve_left hx)⟩
theorem key_seen (w : World) (L : List UInt8) (hL : L.length = 32) (es : List MapEntry) (ks : List (List UInt8)) (h : es.map (fun e => (e.key, e.val)) = ks.map HT) (hl : ∀ k ∈ ks, k.length = 32) :
    (L ∉ ks → (Instr.findKey 29 (.agg (bcells L)) es).run Try.prog w = .ok none w) ∧ (L ∈ ks → ∃ j, (Instr.findKey 29 (.agg (bcells L)) es).run Try.prog w = .ok (some (j, .bool true)) w) := by
  have ha := ask_seen w L hL es ks 0 h hl
  cases es with
  | nil =>
    cases ks with
    | nil => exact ⟨fun _ => by simp [Instr.findKey, Instr.findNow, run_underlying Try.underlying29], fun h => by cases h⟩
    | cons p ks => cases h
  | cons e es =>
    have e1 : (Instr.findKey 29 (.agg (bcells L)) (e :: es)).run Try.prog w = (Instr.findAsking 29 (.agg (bcells L)) (e :: es) 0).run Try.prog w := by
      unfold Instr.findKey
      simp only [Sem.run_bind, run_underlying Try.underlying29, Result.andThen_ok, Instr.findNow, Instr.sameNow]
    rw [e1]
    exact ha
/-- Block B is a map that says true of these hashes. -/
structure HSeenW (w : World) (B : Nat) (ks : List (List UInt8)) : Prop where
  blk : ∃ es clock, w.heap[B]? = some (.map es clock) ∧ es.toList.map (fun e => (e.key, e.val)) = ks.map HT
  len : ∀ k ∈ ks, k.length = 32
theorem HSeenW.lt {w : World} {B : Nat} {ks : List (List UInt8)} (h : HSeenW w B ks) : B < w.heap.size := by
  obtain ⟨es, clock, hb, _⟩ := h.blk
  exact (Array.getElem?_eq_some_iff.1 hb).1
theorem HSeenW.same {w w' : World} {B : Nat} {ks : List (List UInt8)} (h : HSeenW w B ks) (e : w'.heap[B]? = w.heap[B]?) : HSeenW w' B ks := by
  obtain ⟨es, clock, h1, h2⟩ := h.blk
  exact ⟨⟨es, clock, e.trans h1, h2⟩, h.len⟩
theorem HSeenW.new (w : World) : HSeenW (w.alloc (.map #[] 0)) w.heap.size [] := ⟨⟨#[], 0, heap_alloc_new w _, rfl⟩, fun k h => by cases h⟩
theorem HSeenW.lookup {w : World} {B : Nat} {ks : List (List UInt8)} (h : HSeenW w B ks) (L : List UInt8) (hL : L.length = 32) :
    (Instr.lookup 133 (.map (some B)) (.agg (bcells L)) false).run Try.prog w = .ok (.bool (decide (L ∈ ks))) w := by
  obtain ⟨es, clock, hb, he⟩ := h.blk
  have hk := key_seen w L hL es.toList ks he h.len
  by_cases g : L ∈ ks
  · obtain ⟨j, hj⟩ := hk.2 g
    simp [Instr.lookup, run_underlying under133, MapKept.run_getObj_map hb, run_check w _ L hL, hj, Result.andThen, g]
  · simp [Instr.lookup, run_underlying under133, MapKept.run_getObj_map hb, run_check w _ L hL, hk.1 g, zero4, Result.andThen, g]
theorem HSeenW.update {w : World} {B : Nat} {ks : List (List UInt8)} (h : HSeenW w B ks) (L : List UInt8) (hL : L.length = 32) (hn : L ∉ ks) :
    ∃ w', (Instr.mapUpdate 133 (.map (some B)) (.agg (bcells L)) (.bool true)).run Try.prog w = .ok () w' ∧ HSeenW w' B (ks ++ [L]) ∧ w.grownBy w' (some B) ∧ w'.heap.size = w.heap.size := by
  obtain ⟨es, clock, hb, he⟩ := h.blk
  have hk := (key_seen w L hL es.toList ks he h.len).1 hn
  refine ⟨ChangeMaps.setBlock w B (.map (es.push { key := .agg (bcells L), val := .bool true, born := clock }) (clock + 1)), ?_, ⟨⟨_, _, ChangeMaps.heap_setBlock_same hb _, ?_⟩, ?_⟩, ⟨rfl, rfl, rfl, by simp [ChangeMaps.setBlock], fun i _ hi => ChangeMaps.heap_setBlock_other hb _ (fun e => hi (by rw [e]))⟩, by simp [ChangeMaps.setBlock]⟩
  · simp [Instr.mapUpdate, run_underlying under133, MapKept.run_getObj_map hb, run_check w _ L hL, hk, MapKept.run_setObj_map _ hb, Result.andThen, ChangeMaps.setBlock]
  · rw [Array.toList_push, List.map_append, List.map_append, he]; rfl
  · intro k hk
    rcases List.mem_append.1 hk with h' | h'
    · exact h.len k h'
    · rw [List.mem_singleton.1 h']; exact hL
/-- A look-up in a quiet head, with or without its second answer. -/
theorem wpQuiet_lkb {P : Program} {ops : Array Oper} {C : World → Prop} {Q : Act → Prop} {a : Act} {rest : List Oper} {t : TypeId} {m x : Operand} {b : Bool} {d : Nat} {ot : TypeId} {pos : String} {after : Array Edge} (mv key v : Value)
    (hm : a.eval m = mv) (hx : a.eval x = key) (hw : ∀ w, C w → (Instr.lookup t mv key b).run P w = .ok v w)
    (h : wpQuiet P ops C Q rest ⟨a.tmps.setIfInBounds d v, a.defers⟩) : wpQuiet P ops C Q (⟨some d, .lookup t m x b, ot, pos, after, none⟩ :: rest) a := by
  refine wpQuiet_step fun K hK => ?_
  rw [if_pos (show Region.wanted ⟨some d, .lookup t m x b, ot, pos, after, none⟩ (yielded ops a.tmps) = true from rfl)]
  refine ⟨v, fun w hC => ?_, hK _ h⟩
  unfold Oper.quietAt execOp
  simp only [hm, hx, Sem.run_bind, Sem.run_pure, Result.andThen_ok, hw w hC]
  exact ⟨rfl, rfl⟩
theorem eqlSome133 (B : Nat) (w : World) : (binOp .eql 133 (.map (some B)) (.map none)).run Try.prog w = .ok (.bool false) w := by kernel_rfl
theorem eqlNil133 (w : World) : (binOp .eql 133 (.map none) (.map none)).run Try.prog w = .ok (.bool true) w := by kernel_rfl

def onceH (all : List (List UInt8)) (s : List UInt8) : List (List UInt8) := if s ∈ all then all else all ++ [s]
theorem onceH_length (all : List (List UInt8)) (s : List UInt8) : (onceH all s).length ≤ all.length + 1 := by
  unfold onceH
  split
  · omega
  · rw [List.length_append]; exact Nat.le_refl _
theorem onceH_len {all : List (List UInt8)} {s : List UInt8} (h : ∀ k ∈ all, k.length = 32) (hs : s.length = 32) : ∀ k ∈ onceH all s, k.length = 32 := by
  unfold onceH
  split
  · exact h
  · intro k hk
    rcases List.mem_append.1 hk with g | g
    · exact h k g
    · rw [List.mem_singleton.1 g]; exact hs
/-- Block i is none of the loader's own. -/
structure WApart (w : World) (Bw i : Nat) : Prop where
  ne : i ≠ Bw
  row : ∀ p n c, w.cell? ⟨Bw, 1, none⟩ = some (.slice p n c) → (Value.slice p n c).ownBlock ≠ some i
  map : ∀ B, w.cell? ⟨Bw, 2, none⟩ = some (.map (some B)) → B ≠ i
/-- A loader: its table, what it wants, whether something is bad. -/
structure LdAt (w : World) (base Bw Bt : Nat) (wants : List (List UInt8)) (bad : Bool) : Prop where
  ex : ∃ p c sv, Blk w Bw 137 #[.map (some Bt), .slice p wants.length c, .map sv, .bool bad] ∧ w.ownsRow base 29 32 (.slice p wants.length c) wants.length (hcells wants) ∧ (Value.slice p wants.length c).ownBlock ≠ some Bw ∧
    ((sv = none ∧ wants = []) ∨ ∃ B, sv = some B ∧ HSeenW w B wants ∧ base ≤ B ∧ B ≠ Bw ∧ (Value.slice p wants.length c).ownBlock ≠ some B)
  ge : base ≤ Bw
  len : ∀ k ∈ wants, k.length = 32
theorem LdAt.lt {w : World} {base Bw Bt : Nat} {wants : List (List UInt8)} {bad : Bool} (h : LdAt w base Bw Bt wants bad) : Bw < w.heap.size := by
  obtain ⟨p, c, sv, hB, _⟩ := h.ex
  exact hB.lt
theorem LdAt.below {w w' : World} {base Bw Bt : Nat} {wants : List (List UInt8)} {bad : Bool} (h : LdAt w base Bw Bt wants bad) (hb : Below w.heap.size w w') : LdAt w' base Bw Bt wants bad := by
  obtain ⟨p, c, sv, hB, hR, hne, hs⟩ := h.ex
  refine ⟨⟨p, c, sv, hB.below hb hB.lt, hR.kept (grown_below hb (Nat.le_refl _) none) (by cases (Value.slice p wants.length c).ownBlock <;> simp), hne, ?_⟩, h.ge, h.len⟩
  rcases hs with hs | ⟨B, e, h1, h2, h3, h4⟩
  · exact .inl hs
  · exact .inr ⟨B, e, h1.same (hb.block B h1.lt), h2, h3, h4⟩
theorem WApart.below {w w' : World} {Bw i : Nat} (h : WApart w Bw i) (hl : Bw < w.heap.size) (hb : Below w.heap.size w w') : WApart w' Bw i :=
  ⟨h.ne, fun p n c e => h.row p n c (((hb.cell (p := ⟨Bw, 1, none⟩) hl).symm.trans e)), fun B e => h.map B (((hb.cell (p := ⟨Bw, 2, none⟩) hl).symm.trans e))⟩
theorem WApart.same {w w' : World} {Bw i : Nat} (h : WApart w Bw i) (e : w'.heap[Bw]? = w.heap[Bw]?) : WApart w' Bw i :=
  ⟨h.ne, fun p n c g => h.row p n c ((cell_same e 1).symm.trans g), fun B g => h.map B ((cell_same e 2).symm.trans g)⟩
theorem WApart.new {w : World} {base Bw Bt : Nat} {wants : List (List UInt8)} {bad : Bool} (h : LdAt w base Bw Bt wants bad) {i : Nat} (hi : w.heap.size ≤ i ∨ i < base) : WApart w Bw i := by
  obtain ⟨p, c, sv, hB, hR, hne, hs⟩ := h.ex
  have hge := h.ge
  refine ⟨by have := hB.lt; omega, fun p' n' c' e g => ?_, fun B e g => ?_⟩
  · have e1 := hB.cell 1
    rw [e] at e1
    have e2 : Value.slice p' n' c' = .slice p wants.length c := Option.some.inj e1
    rw [e2] at g
    have := hR.lt i g
    omega
  · have e1 := hB.cell 2
    rw [e] at e1
    have e2 : sv = some B := by
      have : some (Value.map (some B)) = some (Value.map sv) := e1
      injection this with this
      injection this with this
      exact this.symm
    rcases hs with ⟨h1, _⟩ | ⟨B', h1, h2, h3, _⟩
    · rw [h1] at e2; cases e2
    · rw [h1] at e2
      obtain rfl : B' = B := Option.some.inj e2
      have := h2.lt
      omega
/-- All that is not the loader's own is as it was. -/
def WKeeps (w w' : World) (Bw : Nat) : Prop := ∀ i, i < w.heap.size → WApart w Bw i → WApart w' Bw i ∧ w'.heap[i]? = w.heap[i]?
theorem WKeeps.trans {a b c : World} {Bl : Nat} (h : WKeeps a b Bl) (hs : a.heap.size ≤ b.heap.size) (k : WKeeps b c Bl) : WKeeps a c Bl := fun i hi hl =>
  ⟨(k i (by omega) (h i hi hl).1).1, (k i (by omega) (h i hi hl).1).2.trans (h i hi hl).2⟩
theorem WKeeps.below {a b : World} {Bl : Nat} (hl : Bl < a.heap.size) (h : Below a.heap.size a b) : WKeeps a b Bl := fun i hi hp => ⟨hp.below hl h, h.block i hi⟩
theorem WKeeps.refl (a : World) (Bl : Nat) : WKeeps a a Bl := fun i _ h => ⟨h, rfl⟩
end Go.Proofs.Ytmhbkilpllgchaa
namespace Go.Proofs.Ytmhbkilpllgchaa
open Go.RowKit BigFrame
set_option linter.unusedVariables false
set_option linter.unusedSimpArgs false

section
variable {w : World} {base Bw Bt : Nat} {wants : List (List UInt8)} {bad : Bool}
set_option maxRecDepth 100000 in
set_option maxHeartbeats 4000000 in
theorem wadd_any (h : LdAt w base Bw Bt wants bad) (L : List UInt8) (hL : L.length = 32) (hn : wants.length ≤ 1000000) :
    Calls Try.prog 108 #[.pointer (some ⟨Bw, 1, none⟩), .agg (bcells L)] w fun e w' => e = .returned (.tuple #[]) ∧ LdAt w' base Bw Bt (onceH wants L) bad ∧ Below base w w' ∧ WKeeps w w' Bw := by
  obtain ⟨p, c, sv, hB, hR, hne, hs⟩ := h.ex
  have hge := h.ge
  have hlen := h.len
  have hlt := hB.lt
  obtain ⟨i0, hi0, hz0, hz1, hz2⟩ := info_parts info29
  have hbse : base ≤ w.heap.size := by omega
  have hown0 : ∀ g, (Value.slice p wants.length c).ownBlock = some g → base ≤ g ∧ g < w.heap.size := fun g e => hR.lt g e
  have hkeep0 : ∀ i, WApart w Bw i → i ≠ Bw ∧ (Value.slice p wants.length c).ownBlock ≠ some i ∧ ∀ B, sv = some B → B ≠ i := fun i hi =>
    ⟨hi.ne, hi.row p _ c (hB.cell 1), fun B e => hi.map B (by rw [← e]; exact hB.cell 2)⟩
  have hX0 : Blk (w.alloc (.cells (bcells L) 29)) w.heap.size 29 (bcells L) := Blk.new _ _ _
  have hB0 := hB.alloc (.cells (bcells L) 29)
  have hR0 := hR.alloc (.cells (bcells L) 29)
  have hb0 : Below w.heap.size w (w.alloc (.cells (bcells L) 29)) := (Below.refl _ _).alloc (Nat.le_refl _) _
  have hs0 : (w.alloc (.cells (bcells L) 29)).heap.size = w.heap.size + 1 := by simp
  obtain ⟨n, en⟩ : ∃ n, n = wants.length := ⟨_, rfl⟩
  rw [← en] at hB0 hR0 hne hs hn hown0 hkeep0
  have hq1 := eqlNil133
  have hq2 := eqlSome133
  have hmm := @run_makeMap Try.prog
  obtain ⟨U, eU⟩ : ∃ U, U = w.alloc (.cells (bcells L) 29) := ⟨_, rfl⟩
  rw [← eU] at hX0 hB0 hR0 hb0 hs0
  have EU := Lib.hid (And.intro eU en)
  have HG := Lib.hid (And.intro hkeep0 (And.intro hown0 hlen))
  clear eU en hkeep0 hown0 hlen hB hR
  have hW : ∀ (W : World) (B : Nat), Hid (Blk W Bw 137 #[.map (some Bt), .slice p n c, .map (some B), .bool bad] ∧ W.ownsRow base 29 32 (.slice p n c) n (hcells wants) ∧ HSeenW W B wants ∧ Below base w W ∧ (∀ i, i < w.heap.size → i ≠ Bw → W.heap[i]? = w.heap[i]?) ∧
      (∀ i, i < w.heap.size → WApart w Bw i → B ≠ i) ∧ (base ≤ B ∧ B ≠ Bw ∧ (Value.slice p n c).ownBlock ≠ some B ∧ B ≠ w.heap.size) ∧ Blk W w.heap.size 29 (bcells L)) → True := fun _ _ _ => trivial
  clear hW
  rcases hs with ⟨rfl, hall⟩ | ⟨B, rfl, hS, hBb, hBl, hown⟩
  case' inl =>
    have hc1 : U.cell? ⟨Bw, 2, none⟩ = some (.map none) := hB0.cell 2
    have hc2 : (U.alloc (.map #[] 0)).cell? ⟨Bw, 2, none⟩ = some (.map none) := (hB0.alloc _).cell 2
    have hf1 : (U.alloc (.map #[] 0)).frozen? ⟨Bw, 2, none⟩ = false := (hB0.alloc _).frozen 2
    obtain ⟨B, eB⟩ : ∃ B, B = U.heap.size := ⟨_, rfl⟩
    obtain ⟨V, eV⟩ : ∃ V, V = U.alloc (.map #[] 0) := ⟨_, rfl⟩
    have hVs : V.heap.size = U.heap.size + 1 := by rw [eV]; simp
    have hVB : Blk V Bw 137 #[.map (some Bt), .slice p n c, .map none, .bool bad] := by rw [eV]; exact hB0.alloc _
    have hVR : V.ownsRow base 29 32 (.slice p n c) n (hcells wants) := by rw [eV]; exact hR0.alloc _
    have hVS : HSeenW V B [] := by rw [eV, eB]; exact HSeenW.new U
    have hVk : ∀ i, i < U.heap.size → V.heap[i]? = U.heap[i]? := fun i hi => by rw [eV]; exact Below.heap_alloc U _ i hi
    have hVb : Below base U V := by rw [eV]; exact (Below.refl base U).alloc (by omega) _
    obtain ⟨W, eW⟩ : ∃ W, W = V.setCell ⟨Bw, 2, none⟩ (.map (some B)) := ⟨_, rfl⟩
    have hWk : ∀ i, i ≠ Bw → W.heap[i]? = V.heap[i]? := fun i hi => by rw [eW]; exact Below.heap_setCell _ _ _ i hi
    have hWb : Below base V W := ⟨by rw [eW]; rfl, by rw [eW]; rfl, by rw [eW]; rfl, by rw [eW]; simp [World.setCell], fun i hi => hWk i (by omega)⟩
    have HF := Lib.hid (show Blk W Bw 137 #[.map (some Bt), .slice p n c, .map (some B), .bool bad] ∧ W.ownsRow base 29 32 (.slice p n c) n (hcells wants) ∧ HSeenW W B wants ∧ Below base w W ∧ (∀ i, i < w.heap.size → i ≠ Bw → W.heap[i]? = w.heap[i]?) ∧
        (∀ i, i < w.heap.size → WApart w Bw i → B ≠ i) ∧ (base ≤ B ∧ B ≠ Bw ∧ (Value.slice p n c).ownBlock ≠ some B ∧ B ≠ w.heap.size) ∧ Blk W w.heap.size 29 (bcells L) from
      ⟨by rw [eW]; exact hVB.set_ 2 _, row_same hVR (fun g e => hWk g (fun e2 => hne (by rw [e, e2]))), by rw [hall]; exact hVS.same (hWk B (by omega)), ((hb0.mono hbse).trans hVb).trans hWb,
        fun i hi hiB => (hWk i hiB).trans ((hVk i (by omega)).trans (hb0.block i hi)), fun i hi _ => by omega,
        ⟨by omega, by omega, fun e => by have := (HG.out.2.1 _ e).2; omega, by omega⟩, (hWk w.heap.size (by omega)).trans ((hVk w.heap.size (by omega)).trans hX0)⟩)
    rw [eV] at eW
    have EW := Lib.hid (And.intro eB eW)
    clear eB eW eV hVs hVB hVR hVS hVk hVb hWk hWb hB0 hR0 hX0 hb0 hs0
    go_enter Try.func108, Try.ntmps108
    go_upto_region 1 with fail
    rw [← EU.out.1]
    go_upto_region 3 with fail
    rw [← EW.out.1, ← EW.out.2]
    clear EW hc1 hf1 hc2
  case' inr =>
    have hc1 : U.cell? ⟨Bw, 2, none⟩ = some (.map (some B)) := hB0.cell 2
    obtain ⟨W, eW⟩ : ∃ W, W = U := ⟨_, rfl⟩
    have HF := Lib.hid (show Blk W Bw 137 #[.map (some Bt), .slice p n c, .map (some B), .bool bad] ∧ W.ownsRow base 29 32 (.slice p n c) n (hcells wants) ∧ HSeenW W B wants ∧ Below base w W ∧ (∀ i, i < w.heap.size → i ≠ Bw → W.heap[i]? = w.heap[i]?) ∧
        (∀ i, i < w.heap.size → WApart w Bw i → B ≠ i) ∧ (base ≤ B ∧ B ≠ Bw ∧ (Value.slice p n c).ownBlock ≠ some B ∧ B ≠ w.heap.size) ∧ Blk W w.heap.size 29 (bcells L) from by
      rw [eW]
      exact ⟨hB0, hR0, hS.same (hb0.block B hS.lt), hb0.mono hbse, fun i hi _ => hb0.block i hi, fun i _ hi => (HG.out.1 i hi).2.2 B rfl, ⟨hBb, hBl, hown, by have := hS.lt; omega⟩, hX0⟩)
    have EW := Lib.hid eW
    clear eW hB0 hR0 hS hBb hBl hown hX0 hb0 hs0
    go_enter Try.func108, Try.ntmps108
    go_upto_region 1 with fail
    rw [← EU.out.1]
    go_upto_region 3 with fail
    rw [← EW.out]
    clear EW hc1
  all_goals
    have EN := Lib.hid EU.out.2
    clear EU
    have hc1 : ∀ x, (later W x).cell? ⟨Bw, 2, none⟩ = some (.map (some B)) := fun x => (HF.out.1.below (later_below W x) HF.out.1.lt).cell 2
    have hlk : ∀ x, (Instr.lookup 133 (.map (some B)) (.agg (bcells L)) false).run Try.prog (later W x) = .ok (.bool (decide (L ∈ wants))) (later W x) := fun x => (HF.out.2.2.1.same ((later_below W x).block B HF.out.2.2.1.lt)).lookup L hL
    have hXx : ∀ x, Blk (later W x) w.heap.size 29 (bcells L) := fun x => HF.out.2.2.2.2.2.2.2.below (later_below W x) HF.out.2.2.2.2.2.2.2.lt
    have HL := Lib.hid (And.intro hlk hXx)
    clear hlk hXx
    by_cases hin : L ∈ wants
    case pos =>
      have hlk := HL.out.1
      rw [decide_eq_true hin] at hlk
      have HLK := Lib.hid hlk
      clear hlk
      refine wp_region_later (by kernel_rfl) (by kernel_rfl) ?_
      repeat (first
        | (refine wpQuiet_ld_g (d := 17) w.heap.size 0 (bcells L).toList rfl rfl (by rintro _ ⟨x, rfl⟩; exact range_of_blk (HL.out.2 x)) Try.underlying29 rfl (by rw [size29, Array.length_toList, bcells_size, hL]) ?_; simp only [List.setIfInBounds_toArray, List.set_cons_succ, List.set_cons_zero, Array.toArray_toList])
        | (refine wpQuiet_lkb (d := 18) (.map (some B)) (.agg (bcells L)) _ rfl rfl (by rintro _ ⟨x, rfl⟩; exact HLK.out x) ?_; simp only [List.setIfInBounds_toArray, List.set_cons_succ, List.set_cons_zero])
        | (go_big_quiet_step (fail)))
      refine wpQuiet_nil ?_
      rintro _ ⟨x, rfl⟩
      have hl : LdAt (later W x) base Bw Bt (onceH wants L) bad ∧ Below base w (later W x) ∧ WKeeps w (later W x) Bw := by
        obtain ⟨f1, f2, f3, f4, f5, f6, ⟨f7, f8, f9, f10⟩, f11⟩ := HF.out
        have hLW : LdAt W base Bw Bt wants bad := by
          refine ⟨⟨p, c, some B, ?_, ?_, ?_, .inr ⟨B, rfl, f3, f7, f8, ?_⟩⟩, hge, HG.out.2.2⟩
          · rw [← EN.out]; exact f1
          · rw [← EN.out]; exact f2
          · rw [← EN.out]; exact hne
          · rw [← EN.out]; exact f9
        have hKW : WKeeps w W Bw := fun i hi hl => ⟨⟨hl.ne, fun p' n' c' e => by
            rw [f1.cell 1] at e
            have e2 : (Value.slice p n c) = .slice p' n' c' := Option.some.inj e
            rw [← e2]
            exact (HG.out.1 i hl).2.1, fun B' e => by
            rw [f1.cell 2] at e
            have e2 : (Value.map (some B)) = .map (some B') := Option.some.inj e
            injection e2 with e2
            injection e2 with e2
            rw [← e2]
            exact f6 i hi hl⟩, f5 i hi hl.ne⟩
        rw [onceH, if_pos hin]
        exact ⟨hLW.below (later_below W x), f4.trans ((later_below W x).mono (by have := f1.lt; omega)), hKW.trans f4.size (WKeeps.below f1.lt (later_below W x))⟩
      have HL2 := Lib.hid hl
      clear hl hc1
      go_wp2
      exact bodyPost_end (v := .tuple #[]) (by simp [results, Try.f108, go_sem]) rfl ⟨rfl, HL2.out⟩
    case neg =>
      have hlk := HL.out.1
      rw [decide_eq_false hin] at hlk
      have HLK := Lib.hid hlk
      clear hlk
      refine wp_region_later (by kernel_rfl) (by kernel_rfl) ?_
      repeat (first
        | (refine wpQuiet_ld_g (d := 17) w.heap.size 0 (bcells L).toList rfl rfl (by rintro _ ⟨x, rfl⟩; exact range_of_blk (HL.out.2 x)) Try.underlying29 rfl (by rw [size29, Array.length_toList, bcells_size, hL]) ?_; simp only [List.setIfInBounds_toArray, List.set_cons_succ, List.set_cons_zero, Array.toArray_toList])
        | (refine wpQuiet_lkb (d := 18) (.map (some B)) (.agg (bcells L)) _ rfl rfl (by rintro _ ⟨x, rfl⟩; exact HLK.out x) ?_; simp only [List.setIfInBounds_toArray, List.set_cons_succ, List.set_cons_zero])
        | (go_big_quiet_step (fail)))
      refine wpQuiet_nil ?_
      rintro _ ⟨x, rfl⟩
      clear hc1 HLK HL
      obtain ⟨f1, f2, f3, f4, f5, f6, f7, f11⟩ := HF.out
      have hB1 := f1.below (later_below W x) f1.lt
      have hR1 := f2.kept (grown_below (later_below W x) (Nat.le_refl _) none) (by cases (Value.slice p n c).ownBlock <;> simp)
      have hS1 := f3.same ((later_below W x).block B f3.lt)
      have hX1 := f11.below (later_below W x) f11.lt
      have hb1 : Below W.heap.size W (later W x) := later_below W x
      have hsW := f4.size
      have hF2 := Lib.hid (And.intro f4 (And.intro f5 (And.intro f6 (And.intro f7 (And.intro f1.lt (And.intro f3.lt f11.lt))))))
      clear f1 f2 f3 f4 f5 f6 f7 f11 HF
      obtain ⟨W1, eW1⟩ : ∃ W1, W1 = later W x := ⟨_, rfl⟩
      rw [← eW1] at hB1 hR1 hS1 hX1 hb1 ⊢
      clear eW1 x
      go_upto_region 4 with fail
      have hc1 : ∀ x, (later W1 x).cell? ⟨Bw, 2, none⟩ = some (.map (some B)) := fun x => (hB1.below (later_below W1 x) hB1.lt).cell 2
      refine wp_region_later_tail 5 (by kernel_rfl) (by kernel_rfl) ?_
      simp only [List.take_succ_cons, List.take_zero, List.drop_succ_cons, List.drop_zero]
      repeat (first
        | (refine wpQuiet_ld_g (d := 24) w.heap.size 0 (bcells L).toList rfl rfl (by rintro _ ⟨x, rfl⟩; exact range_of_blk (hX1.below (later_below W1 x) hX1.lt)) Try.underlying29 rfl (by rw [size29, Array.length_toList, bcells_size, hL]) ?_; simp only [List.setIfInBounds_toArray, List.set_cons_succ, List.set_cons_zero, Array.toArray_toList])
        | (go_big_quiet_step (fail)))
      refine wpQuiet_nil ?_
      rintro _ ⟨x, rfl⟩
      have hbx := later_below W1 x
      have hB2 := hB1.below hbx hB1.lt
      have hR2 := hR1.kept (grown_below hbx (Nat.le_refl _) none) (by cases (Value.slice p n c).ownBlock <;> simp)
      have hS2 := hS1.same (hbx.block B hS1.lt)
      have hX2 := hX1.below hbx hX1.lt
      have hb2 : Below W.heap.size W (later W1 x) := hb1.trans (hbx.mono hb1.size)
      obtain ⟨W2, eW2⟩ : ∃ W2, W2 = later W1 x := ⟨_, rfl⟩
      rw [← eW2] at hB2 hR2 hS2 hX2 hb2 ⊢
      clear eW2 hc1 hbx hB1 hR1 hS1 hX1 hb1 x
      clear W1
      obtain ⟨V, hrun, hSV, hgV, hsV⟩ := hS2.update L hL hin
      refine wpList_mu (.map (some B)) (.agg (bcells L)) (.bool true) rfl rfl rfl hrun ?_
      have hBV := hB2.grown hgV (fun e => hF2.out.2.2.2.1.2.1 (Option.some.inj e).symm)
      have hRV := hR2.kept hgV (.inr hF2.out.2.2.2.1.2.2.1)
      have hXV := hX2.grown hgV (fun e => hF2.out.2.2.2.1.2.2.2 (Option.some.inj e).symm)
      have hW2 := hb2.size
      have hVs : w.heap.size ≤ V.heap.size := by omega
      have HV := Lib.hid (And.intro hSV (And.intro hgV (And.intro hsV hb2)))
      clear hrun hB2 hR2 hS2 hX2 hSV hgV hsV hb2 hW2
      go_upto_region 5 with fail
      have hBd := hBV.drew
      have hRd := hRV.drew
      have hXd := hXV.drew
      refine wp_region_take (fun w' => w'.cell? ⟨Bw, 1, none⟩ = some (.slice p n c) ∧ Blk w' w.heap.size 29 (bcells L)) [0, 1, 2, 3, 4, 5] [6, 7] 8 (by kernel_rfl) (by kernel_rfl) (by intro c a d v w h; dsimp (config := { zetaDelta := true }) only [Exit.then, bodyPost] at h ⊢; cases d <;> exact h) ⟨hBd.cell 1, hXd⟩ ?_
      simp only [pick, List.filterMap_cons, List.getElem?_cons_succ, List.getElem?_cons_zero, List.filterMap_nil, List.drop_succ_cons, List.drop_zero]
      repeat (first
        | (refine wpTake_row (d := 30) w.heap.size (bcells L) 29 rfl (fun w' h => h.2) Try.underlying29 rfl (by rw [size29, bcells_size, hL]) ?_; simp only [List.setIfInBounds_toArray, List.set_cons_succ, List.set_cons_zero])
        | (apply wpTake_step; (focus (intro w' hS; have hc1 := hS.1; clear hS; go_simp; (try with_reducible rfl))); simp only [List.setIfInBounds_toArray, List.set_cons_succ, List.set_cons_zero]))
      refine wpTake_nil ?_
      obtain ⟨w6, e6⟩ : ∃ w6, w6 = V.drew := ⟨_, rfl⟩
      have h6k : ∀ i : Nat, w6.heap[i]? = V.heap[i]? := fun i => by rw [e6]; rfl
      have h6s : w6.heap.size = V.heap.size := by rw [e6]; rfl
      have h6b : Below base V w6 := by rw [e6]; exact (Below.refl base V).drew
      rw [← e6] at hBd hRd hXd ⊢
      clear e6 hBV hRV hXV
      have hB7 := hBd.alloc (.cells (bcells L) 29)
      have hR7 := hRd.alloc (.cells (bcells L) 29)
      have hX7 := hXd.alloc (.cells (bcells L) 29)
      have hsrc := src_hash hL (Blk.new w6 29 (bcells L))
      have hsa : (w6.alloc (.cells (bcells L) 29)).heap.size = w6.heap.size + 1 := by simp
      have b1 : n + 1 ≤ maxLen := by simp only [maxLen]; omega
      have b2 : (n + 1) * 32 ≤ 140737488355328 := by omega
      have b3 : base ≤ (w6.alloc (.cells (bcells L) 29)).heap.size := by omega
      refine wpOp_buildS #[(0, .agg (bcells L))] _ rfl (by rw [List.map_toArray]; rfl) (buildS82 L hL w6) ⟨⟨hB7.cell 1, hX7⟩, ?_⟩
      simp only [List.setIfInBounds_toArray, List.set_cons_succ, List.set_cons_zero]
      refine wpOp_app rfl base 29 i0 (.agg z32) 32 32 under82 hi0 hz0 hz1 hz2 rfl (.slice p n c) n (hcells wants) rfl hR7 _ 1 _ rfl hsrc b1 b2 b3 ?_
      intro p5 c5 w5 hR5 hg5 hat5
      have hB5 := hB7.grown hg5 (fun e => hne e.symm)
      have hX5 := hX7.grown hg5 (fun e => by have := (HG.out.2.1 _ e.symm).2; omega)
      refine ⟨⟨hB5.cell 1, hX5⟩, wpMem_nil ?_⟩
      simp only [List.setIfInBounds_toArray, List.set_cons_succ, List.set_cons_zero]
      have hc5 := hB5.cell 1
      have hf5 := hB5.frozen 1
      have hl : ∀ W', W' = w5.setCell ⟨Bw, 1, none⟩ (.slice p5 (n + 1) c5) → LdAt W' base Bw Bt (onceH wants L) bad ∧ Below base w W' ∧ WKeeps w W' Bw := by
        rintro _ rfl
        obtain ⟨f4, f5, f6, ⟨f7, f8, f9, f10⟩, g1, g3, g11⟩ := hF2.out
        obtain ⟨r2, r3, r6, r7⟩ := HV.out
        have r7s := r7.size
        have hown5 : ∀ g, (Value.slice p5 (n + 1) c5).ownBlock = some g → (Value.slice p n c).ownBlock = some g ∨ V.heap.size ≤ g := fun g e => by
          rcases hat5 with h | h
          · rw [h] at e; exact .inl e
          · rw [h] at e
            have := Option.some.inj e
            exact .inr (by omega)
        have hr2 := r2.lt
        have hnB : (Value.slice p5 (n + 1) c5).ownBlock ≠ some B := fun e => by
          rcases hown5 B e with h | h
          · exact f9 h
          · omega
        have hnL : (Value.slice p5 (n + 1) c5).ownBlock ≠ some Bw := fun e => by
          rcases hown5 Bw e with h | h
          · exact hne h
          · omega
        have hS5 : HSeenW w5 B (wants ++ [L]) := (r2.same ((Below.heap_alloc w6 (.cells (bcells L) 29) B (by omega)).trans (h6k B))).same (hg5.block B (by omega) (fun e => f9 e.symm))
        have hlen : (onceH wants L).length = n + 1 := by rw [onceH, if_neg hin, List.length_append, EN.out]; rfl
        have hmap : hcells (onceH wants L) = hcells wants ++ (bcells L).toList := by rw [onceH, if_neg hin, hcells, List.flatMap_append]; simp [hcells]
        have hbV : Below base W2 V := ⟨r3.os, r3.tape, r3.output, r3.size, fun i hi => r3.block i (by omega) (fun e => by have := Option.some.inj e; omega)⟩
        have hbW2 : Below base w W2 := f4.trans (r7.mono (by omega))
        refine ⟨⟨⟨p5, c5, some B, ?_, ?_, ?_, .inr ⟨B, rfl, ?_, f7, f8, ?_⟩⟩, hge, onceH_len HG.out.2.2 hL⟩, ?_, ?_⟩
        · rw [hlen]; exact hB5.set_ 1 _
        · rw [hlen, hmap]
          exact hR5.kept (grown_setCell (⟨rfl, rfl, rfl, Nat.le_refl _, fun i _ _ => rfl⟩ : w5.grownBy w5 (some Bw)) (p := ⟨Bw, 1, none⟩) rfl _) (.inr hnL)
        · rw [hlen]; exact hnL
        · rw [onceH, if_neg hin]; exact hS5.same (Below.heap_setCell _ _ _ _ f8)
        · rw [hlen]; exact hnB
        · refine Below.trans (((hbW2.trans hbV).trans h6b).alloc (by omega) (.cells (bcells L) 29)) ?_
          refine Below.trans (b := w5) ⟨hg5.os, hg5.tape, hg5.output, hg5.size, fun i hi => hg5.block i (by omega) (fun e => by have := (HG.out.2.1 i e.symm).1; omega)⟩ ?_
          exact ⟨rfl, rfl, rfl, by simp [World.setCell], fun i hi => Below.heap_setCell _ _ _ i (by show i ≠ Bw; omega)⟩
        · intro i hi hl
          obtain ⟨k1, k2, k3⟩ := HG.out.1 i hl
          have k4 := f6 i hi hl
          refine ⟨⟨k1, fun p' n' c' e => ?_, fun B' e => ?_⟩, ?_⟩
          · have e1 := (hB5.set_ 1 (.slice p5 (n + 1) c5)).cell 1
            rw [e] at e1
            have e2 : (Value.slice p' n' c') = .slice p5 (n + 1) c5 := Option.some.inj e1
            rw [e2]
            intro e3
            rcases hown5 i e3 with h | h
            · exact k2 h
            · omega
          · have e1 := (hB5.set_ 1 (.slice p5 (n + 1) c5)).cell 2
            rw [e] at e1
            have e2 : (Value.map (some B')) = .map (some B) := Option.some.inj e1
            injection e2 with e2
            injection e2 with e2
            rw [e2]; exact k4
          · refine (Below.heap_setCell _ _ _ i k1).trans ((hg5.block i (by omega) (fun e => k2 e.symm)).trans ((Below.heap_alloc w6 _ i (by omega)).trans ((h6k i).trans ((r3.block i (by omega) (fun e => k4 (Option.some.inj e).symm)).trans ((r7.block i (by omega)).trans (f5 i hi k1))))))
      go_wp2
      exact bodyPost_end (v := .tuple #[]) (by simp [results, Try.f108, go_sem]) rfl ⟨rfl, hl _ rfl⟩
end
end Go.Proofs.Ytmhbkilpllgchaa
namespace Go.Proofs.Ytmhbkilpllgchaa
open Go.RowKit BigFrame
set_option linter.unusedVariables false
set_option linter.unusedSimpArgs false

theorem under124 : Try.prog.underlying 124 = some (.map 29 9) := by kernel_rfl
theorem MapW.lookup124 {w : World} {B : Nat} {kv : KV} (h : MapW w B kv) (L : List UInt8) (hL : L.length = 32) :
    (Instr.lookup 124 (.map (some B)) (.agg (bcells L)) true).run Try.prog w = .ok (.tuple #[.string ((findL kv L).getD ⟨#[]⟩), .bool (findL kv L).isSome]) w := by
  obtain ⟨es, clock, hb, he⟩ := h.blk
  have hk := run_key w L hL es.toList kv he h.len
  cases hq : findL kv L with
  | none =>
    simp [Instr.lookup, run_underlying under124, MapKept.run_getObj_map hb, run_check w _ L hL, hk.1 hq, zero9, Result.andThen]
  | some s =>
    obtain ⟨j, hj⟩ := hk.2 s hq
    simp [Instr.lookup, run_underlying under124, MapKept.run_getObj_map hb, run_check w _ L hL, hj, Result.andThen]

section
variable {w : World} {base Bw Bt : Nat} {wants : List (List UInt8)} {bad : Bool} {kv : KV}
def wantsG (kv : KV) (wants : List (List UInt8)) (L : List UInt8) : List (List UInt8) := if (findL kv L).isSome then wants else onceH wants L
set_option maxRecDepth 100000 in
set_option maxHeartbeats 4000000 in
theorem lget_any (h : LdAt w base Bw Bt wants bad) (hM : MapW w Bt kv) (L : List UInt8) (hL : L.length = 32) (hn : wants.length ≤ 1000000) :
    Calls Try.prog 104 #[.pointer (some ⟨Bw, 0, none⟩), .agg (bcells L)] w fun e w' => e = .returned (.tuple #[.string ((findL kv L).getD ⟨#[]⟩), .bool (findL kv L).isSome]) ∧ LdAt w' base Bw Bt (wantsG kv wants L) bad ∧ Below base w w' ∧ WKeeps w w' Bw := by
  have hge := h.ge
  have hlt := h.lt
  have hb0 : Below w.heap.size w (w.alloc (.cells (bcells L) 29)) := (Below.refl _ _).alloc (Nat.le_refl _) _
  have hX0 : Blk (w.alloc (.cells (bcells L) 29)) w.heap.size 29 (bcells L) := Blk.new _ _ _
  obtain ⟨p, c, sv, hB, _⟩ := h.ex
  have hB0 := hB.below hb0 hB.lt
  have hM0 := hM.below hb0 hM.lt
  have H := Lib.hid (And.intro h (And.intro hb0 (And.intro hX0 (And.intro hB0 hM0))))
  clear h hb0 hX0 hB hB0 hM hM0
  unfold wantsG
  cases hq : findL kv L
  all_goals
    go_enter Try.func104, Try.ntmps104
    go_upto_region 1 with fail
    obtain ⟨hh, hb0, hX0, hB0, hM0⟩ := H.out
    obtain ⟨w1, e1⟩ : ∃ w1, w1 = w.alloc (.cells (bcells L) 29) := ⟨_, rfl⟩
    rw [← e1] at hb0 hX0 hB0 hM0 ⊢
    clear e1 H
    have hc0 : ∀ x, (later w1 x).cell? ⟨Bw, 0, none⟩ = some (.map (some Bt)) := fun x => (hB0.below (later_below w1 x) hB0.lt).cell 0
    have hlk : ∀ x, (Instr.lookup 124 (.map (some Bt)) (.agg (bcells L)) true).run Try.prog (later w1 x) = .ok (.tuple #[.string ((findL kv L).getD ⟨#[]⟩), .bool (findL kv L).isSome]) (later w1 x) := fun x => (hM0.below (later_below w1 x) hM0.lt).lookup124 L hL
    rw [hq] at hlk
    have HLK := Lib.hid hlk
    clear hlk
    refine wp_region_later (by kernel_rfl) (by kernel_rfl) ?_
    repeat (first
      | (refine wpQuiet_ld_g (d := 13) w.heap.size 0 (bcells L).toList rfl rfl (by rintro _ ⟨x, rfl⟩; exact range_of_blk (hX0.below (later_below w1 x) hX0.lt)) Try.underlying29 rfl (by rw [size29, Array.length_toList, bcells_size, hL]) ?_; simp only [List.setIfInBounds_toArray, List.set_cons_succ, List.set_cons_zero, Array.toArray_toList])
      | (refine wpQuiet_lkb (d := 14) (.map (some Bt)) (.agg (bcells L)) _ rfl rfl (by rintro _ ⟨x, rfl⟩; exact HLK.out x) ?_; simp only [List.setIfInBounds_toArray, List.set_cons_succ, List.set_cons_zero, Option.getD_some, Option.getD_none, Option.isSome_some, Option.isSome_none])
      | (go_big_quiet_step (fail)))
    refine wpQuiet_nil ?_
    rintro _ ⟨x, rfl⟩
    have hbx : Below w.heap.size w (later w1 x) := hb0.trans ((later_below w1 x).mono hb0.size)
    have hX2 := hX0.below (later_below w1 x) hX0.lt
    obtain ⟨w2, e2⟩ : ∃ w2, w2 = later w1 x := ⟨_, rfl⟩
    rw [← e2] at hbx hX2 ⊢
    clear e2 hc0 HLK hX0 hB0 hM0 hb0 x
    clear w1
    have hh2 := hh.below hbx
    have hk2 : WKeeps w w2 Bw := WKeeps.below hlt hbx
    have hbb : Below base w w2 := hbx.mono (by omega)
  · go_upto_region 3 with fail
    refine wp_region_later_tail 4 (by kernel_rfl) (by kernel_rfl) ?_
    simp only [List.take_succ_cons, List.take_zero, List.drop_succ_cons, List.drop_zero]
    repeat (first
      | (refine wpQuiet_ld_g (d := 22) w.heap.size 0 (bcells L).toList rfl rfl (by rintro _ ⟨x, rfl⟩; exact range_of_blk (hX2.below (later_below w2 x) hX2.lt)) Try.underlying29 rfl (by rw [size29, Array.length_toList, bcells_size, hL]) ?_; simp only [List.setIfInBounds_toArray, List.set_cons_succ, List.set_cons_zero, Array.toArray_toList])
      | (go_big_quiet_step (fail)))
    refine wpQuiet_nil ?_
    rintro _ ⟨x, rfl⟩
    have hh3 := hh2.below (later_below w2 x)
    have hk3 : WKeeps w (later w2 x) Bw := hk2.trans hbx.size (WKeeps.below hh2.lt (later_below w2 x))
    have hbb3 : Below base w (later w2 x) := hbb.trans ((later_below w2 x).mono (by have := hbx.size; omega))
    have hs3 : w.heap.size ≤ (later w2 x).heap.size := hbb3.size
    go_wp2_with fail
    refine (wadd_any hh3 L hL hn).mono ?_
    rintro e w4 ⟨rfl, hh4, hb4, hk4⟩
    have HF := Lib.hid (And.intro hh4 (And.intro (hbb3.trans hb4) (hk3.trans hs3 hk4)))
    clear hh4 hb4 hk4 hh3 hk3 hbb3 hs3 hX2
    go_wp2
    exact bodyPost_ret (v := .tuple #[.string ⟨#[]⟩, .bool false]) (by simp [results, Try.f104, go_sem]) rfl ⟨rfl, HF.out⟩
  · go_wp2
    exact bodyPost_ret (v := .tuple #[.string _, .bool true]) (by simp [results, Try.f104, go_sem]) rfl ⟨rfl, hh2, hbb, hk2⟩

set_option maxRecDepth 100000 in
set_option maxHeartbeats 4000000 in
theorem ldone_bad (h : LdAt w base Bw Bt wants true) :
    Calls Try.prog 103 #[.pointer (some ⟨Bw, 0, none⟩)] w fun e w' => e = .returned (.tuple #[.string ⟨#[]⟩, .slice none 0 0, .int .i64 1200]) ∧ w = w' := by
  obtain ⟨p, c, sv, hB, _⟩ := h.ex
  have hc3 : w.cell? ⟨Bw, 3, none⟩ = some (.bool true) := hB.cell 3
  go_enter Try.func103, Try.ntmps103
  go_wp2
  exact bodyPost_ret (v := .tuple #[.string ⟨#[]⟩, .slice none 0 0, .int .i64 1200]) (by simp [results, Try.f103, go_sem]) rfl ⟨rfl, rfl⟩
set_option maxRecDepth 100000 in
set_option maxHeartbeats 4000000 in
theorem ldone_ok (h : LdAt w base Bw Bt [] false) :
    Calls Try.prog 103 #[.pointer (some ⟨Bw, 0, none⟩)] w fun e w' => e = .returned (.tuple #[.string ⟨#[]⟩, .slice none 0 0, .int .i64 0]) ∧ w = w' := by
  obtain ⟨p, c, sv, hB, _⟩ := h.ex
  have hc3 : w.cell? ⟨Bw, 3, none⟩ = some (.bool false) := hB.cell 3
  have hc1 : w.cell? ⟨Bw, 1, none⟩ = some (.slice p 0 c) := hB.cell 1
  go_enter Try.func103, Try.ntmps103
  go_wp2
  exact bodyPost_ret (v := .tuple #[.string ⟨#[]⟩, .slice none 0 0, .int .i64 0]) (by simp [results, Try.f103, go_sem]) rfl ⟨rfl, rfl⟩
set_option maxRecDepth 100000 in
set_option maxHeartbeats 4000000 in
theorem ldone_want (h : LdAt w base Bw Bt wants false) (hn : 0 < wants.length) (hn2 : wants.length ≤ 1000000) :
    Calls Try.prog 103 #[.pointer (some ⟨Bw, 0, none⟩)] w fun e w' => ∃ p c, e = .returned (.tuple #[.string ⟨#[]⟩, .slice p wants.length c, .int .i64 1201]) ∧ w'.ownsRow base 29 32 (.slice p wants.length c) wants.length (hcells wants) ∧ Below w.heap.size w w' := by
  obtain ⟨p, c, sv, hB, hR, _⟩ := h.ex
  obtain ⟨n, en⟩ : ∃ n, n = wants.length := ⟨_, rfl⟩
  rw [← en] at hB hR hn hn2 ⊢
  have HR := Lib.hid hR
  clear en hR h
  have hc3 : w.cell? ⟨Bw, 3, none⟩ = some (.bool false) := hB.cell 3
  have hc1 : w.cell? ⟨Bw, 1, none⟩ = some (.slice p n c) := hB.cell 1
  have hn3 : (0 : Int) < (n : Int) := by omega
  go_enter Try.func103, Try.ntmps103
  go_upto_region 4 with fail
  have hcx : ∀ x, (later w x).cell? ⟨Bw, 1, none⟩ = some (.slice p n c) := fun x => (hB.below (later_below w x) hB.lt).cell 1
  refine wp_region_later (by kernel_rfl) (by kernel_rfl) ?_
  repeat (go_big_quiet_step (fail))
  refine wpQuiet_nil ?_
  rintro _ ⟨x, rfl⟩
  go_wp2
  exact bodyPost_ret (v := .tuple #[.string ⟨#[]⟩, .slice p n c, .int .i64 1201]) (by simp [results, Try.f103, go_sem]) rfl ⟨p, c, rfl, HR.out.kept (grown_below (later_below w x) (Nat.le_refl _) none) (by cases (Value.slice p n c).ownBlock <;> simp), later_below w x⟩
end
end Go.Proofs.Ytmhbkilpllgchaa
namespace Go.Proofs.Ytmhbkilpllgchaa
open Go.RowKit BigFrame
set_option linter.unusedVariables false
set_option linter.unusedSimpArgs false

/-- The hashes that an object names. -/
def chunksH (s : ByteArray) : List (List UInt8) := cutL 32 (s.data.toList.drop 2)
def isNode (s : ByteArray) (kd : UInt8) (many : Nat) : Prop := s.size = 2 + many * 32 ∧ s.data.toList.take 2 = [kd, UInt8.ofNat many]
instance (s : ByteArray) (kd : UInt8) (many : Nat) : Decidable (isNode s kd many) := by unfold isNode; exact inferInstance
def namedH (kv : KV) (L : List UInt8) (kd : UInt8) (many : Nat) : List (List UInt8) :=
  match findL kv L with
  | none => []
  | some s => if isNode s kd many then chunksH s else []
def namedB (kv : KV) (L : List UInt8) (kd : UInt8) (many : Nat) (bad : Bool) : Bool :=
  match findL kv L with
  | none => bad
  | some s => if isNode s kd many then bad else true
theorem cut32 : ∀ (m : Nat) (l : List UInt8), l.length = m * 32 → (∀ x ∈ cutL 32 l, x.length = 32) ∧ (cutL 32 l).length = m
  | 0, l, h => by
    have : l = [] := List.length_eq_zero_iff.1 (by omega)
    subst this
    exact ⟨fun x hx => (by cases hx), rfl⟩
  | m + 1, l, h => by
    have hne : l ≠ [] := fun e => by rw [e] at h; simp at h
    rw [cutL_cons (by decide) l hne]
    obtain ⟨h1, h2⟩ := cut32 m (l.drop 32) (by rw [List.length_drop]; omega)
    refine ⟨fun x hx => ?_, by rw [List.length_cons, h2]⟩
    rcases List.mem_cons.1 hx with rfl | hx
    · rw [List.length_take]; omega
    · exact h1 x hx
theorem LdAt.bad {w : World} {base Bw Bt : Nat} {wants : List (List UInt8)} {bad : Bool} (h : LdAt w base Bw Bt wants bad) : LdAt (w.setCell ⟨Bw, 3, none⟩ (.bool true)) base Bw Bt wants true ∧ Below base w (w.setCell ⟨Bw, 3, none⟩ (.bool true)) ∧ WKeeps w (w.setCell ⟨Bw, 3, none⟩ (.bool true)) Bw := by
  obtain ⟨p, c, sv, hB, hR, hne, hs⟩ := h.ex
  have hge := h.ge
  have hk : ∀ i, i ≠ Bw → (w.setCell ⟨Bw, 3, none⟩ (.bool true)).heap[i]? = w.heap[i]? := fun i hi => Below.heap_setCell _ _ _ i hi
  have hB2 := hB.set_ 3 (.bool true)
  refine ⟨⟨⟨p, c, sv, hB2, row_same hR (fun g e => hk g (fun e2 => hne (by rw [e, e2]))), hne, ?_⟩, hge, h.len⟩, ⟨rfl, rfl, rfl, by simp [World.setCell], fun i hi => hk i (by omega)⟩, fun i hi hl => ⟨⟨hl.ne, fun p' n' c' e => ?_, fun B e => ?_⟩, hk i hl.ne⟩⟩
  · rcases hs with hs | ⟨B, e, h1, h2, h3, h4⟩
    · exact .inl hs
    · exact .inr ⟨B, e, h1.same (hk B h3), h2, h3, h4⟩
  · rw [hB2.cell 1] at e
    have e2 : Value.slice p wants.length c = .slice p' n' c' := Option.some.inj e
    rw [← e2]
    exact hl.row p _ c (hB.cell 1)
  · rw [hB2.cell 2] at e
    have e2 : Value.map sv = .map (some B) := Option.some.inj e
    exact hl.map B ((hB.cell 2).trans (congrArg some e2))

/-- A slice's row as an array. -/
theorem wpList_s2a {P : Program} {ops : Array Oper} {rest : List Oper} {a : Act} {w : World} {Q : Exit → Act → World → Prop} {arr ot : TypeId} {x : Operand} {d : Nat} {pos : String} {after : Array Edge} (p : Addr) (len c n : Nat) (e : TypeId)
    (hx : a.eval x = .slice (some p) len c) (hu : P.underlying arr = some (.array n e)) (hle : n ≤ len) (h : wpList P ops Q rest ⟨a.tmps.setIfInBounds d (.pointer (some p)), a.defers⟩ w) : wpList P ops Q (⟨some d, .sliceToArrayPointer arr x, ot, pos, after, none⟩ :: rest) a w := by
  have hn : ¬ len < n := by omega
  refine wpList_plain rfl fun K' hK' => ?_
  unfold Oper.wp execOp
  simp only [hx, Instr.arrayAt, Sem.run_bind, run_underlying hu, Result.andThen_ok, hn, if_false, Sem.run_pure, Oper.upon]
  exact hK' _ _ h
theorem ba_ext3 {x y : ByteArray} (h : x.data.toList = y.data.toList) : x = y := by
  cases x; cases y
  congr 1
  exact Array.toList_inj.1 h
section
variable {w : World} {base Bw Bt : Nat} {wants : List (List UInt8)} {bad : Bool} {kv : KV}
set_option maxRecDepth 100000 in
set_option maxHeartbeats 8000000 in
theorem lnamed_any (h : LdAt w base Bw Bt wants bad) (hM : MapW w Bt kv) (hBt : Bt < base) (L : List UInt8) (hL : L.length = 32) (hn : wants.length ≤ 1000000) (kd : UInt8) (many : Nat) (hmany : many ≤ 255) (hkv : ∀ p ∈ kv, p.2.size ≤ 140737488351232) :
    Calls Try.prog 102 #[.pointer (some ⟨Bw, 0, none⟩), .agg (bcells L), .string ⟨#[kd]⟩, .int .i64 (many : Int)] w fun e w' => ∃ p m c, e = .returned (.slice p m c) ∧ m = (namedH kv L kd many).length ∧ w'.ownsRow w.heap.size 29 32 (.slice p m c) m (hcells (namedH kv L kd many)) ∧
      LdAt w' base Bw Bt (wantsG kv wants L) (namedB kv L kd many bad) ∧ Below base w w' ∧ WKeeps w w' Bw ∧ (∀ g, (Value.slice p m c).ownBlock = some g → WApart w' Bw g) := by
  have hge := h.ge
  have hlt := h.lt
  obtain ⟨i0, hi0, hz0, hz1, hz2⟩ := info_parts info29
  have hb0 : Below w.heap.size w (w.alloc (.cells (bcells L) 29)) := (Below.refl _ _).alloc (Nat.le_refl _) _
  have hX0 : Blk (w.alloc (.cells (bcells L) 29)) w.heap.size 29 (bcells L) := Blk.new _ _ _
  have c104 := lget_any (h.below hb0) (hM.below hb0 hM.lt) L hL hn
  have hk0 : WKeeps w (w.alloc (.cells (bcells L) 29)) Bw := WKeeps.below hlt hb0
  have hbb0 : Below base w (w.alloc (.cells (bcells L) 29)) := hb0.mono (by omega)
  have hs0 : w.heap.size ≤ (w.alloc (.cells (bcells L) 29)).heap.size := hb0.size
  obtain ⟨WG, eWG⟩ : ∃ W, W = wantsG kv wants L := ⟨_, rfl⟩
  rw [← eWG] at c104 ⊢
  have C := Lib.hid (And.intro c104 (And.intro hX0 (And.intro hk0 (And.intro hbb0 hs0))))
  clear c104 hX0 hk0 hbb0 hs0 hb0 h hM eWG
  obtain ⟨NH, eNH⟩ : ∃ N, N = namedH kv L kd many := ⟨_, rfl⟩
  obtain ⟨NB, eNB⟩ : ∃ N, N = namedB kv L kd many bad := ⟨_, rfl⟩
  rw [← eNH, ← eNB]
  have EN := Lib.hid (And.intro eNH eNB)
  clear eNH eNB
  cases hq : findL kv L
  case none =>
    rw [hq] at C
    have hN : NH = [] ∧ NB = bad := by
      rw [EN.out.1, EN.out.2, namedH, namedB, hq]
      exact ⟨rfl, rfl⟩
    obtain ⟨rfl, rfl⟩ := hN
    go_enter Try.func102, Try.ntmps102
    go_wp2_with (refine wpList_ld_row (d := 15) w.heap.size (bcells L) rfl 29 C.out.2.1 Try.underlying29 rfl (by rw [size29, bcells_size, hL]) ?_; simp only [List.setIfInBounds_toArray, List.set_cons_succ, List.set_cons_zero])
    refine C.out.1.mono ?_
    rintro e w2 ⟨rfl, hL2, hb2, hk2⟩
    have HF := Lib.hid (And.intro hL2 (And.intro (C.out.2.2.2.1.trans hb2) (C.out.2.2.1.trans C.out.2.2.2.2 hk2)))
    clear hL2 hb2 hk2
    go_wp2
    go_ret
    exact ⟨none, 0, 0, rfl, rfl, World.ownsRow_nil _ _ _ _, HF.out.1, HF.out.2.1, HF.out.2.2, fun g e => by cases e⟩
  case some s =>
    rw [hq] at C
    have hs16 : s.size ≤ 140737488351232 := by
      unfold findL at hq
      cases hf : kv.find? (fun p => decide (p.1 = L)) with
      | none => rw [hf] at hq; cases hq
      | some p =>
        rw [hf] at hq
        have := hkv p (List.mem_of_find?_eq_some hf)
        simp only [Option.map_some, Option.some.injEq] at hq
        rw [← hq]; exact this
    obtain ⟨HD, eHD⟩ : ∃ H, (⟨#[kd]⟩ : ByteArray) ++ (⟨#[UInt8.ofNat many]⟩ : ByteArray) = H := ⟨_, rfl⟩
    have hHDl : HD.data.toList = [kd, UInt8.ofNat many] := by rw [← eHD, ByteArray.data_append]; rfl
    have hHDs : HD.size = 2 := by rw [ba_list, hHDl]; rfl
    have hadd : ∀ w', (Op.stringOp .add ⟨#[kd]⟩ ⟨#[UInt8.ofNat many]⟩).run Try.prog w' = .ok (.string HD) w' := fun w' => add_texts w' _ _ (by show (1 + 1 : Nat) ≤ 9223372036854775807; decide) eHD
    go_enter Try.func102, Try.ntmps102
    go_wp2_with (refine wpList_ld_row (d := 15) w.heap.size (bcells L) rfl 29 C.out.2.1 Try.underlying29 rfl (by rw [size29, bcells_size, hL]) ?_; simp only [List.setIfInBounds_toArray, List.set_cons_succ, List.set_cons_zero])
    refine C.out.1.mono ?_
    rintro e w2 ⟨rfl, hL2, hb2, hk2⟩
    have HF := Lib.hid (And.intro hL2 (And.intro (C.out.2.2.2.1.trans hb2) (C.out.2.2.1.trans C.out.2.2.2.2 hk2)))
    have hsw2 : w.heap.size ≤ w2.heap.size := Nat.le_trans C.out.2.2.2.2 hb2.size
    clear hL2 hb2 hk2
    have hcv := conv1 w2 many hmany _ rfl
    have hb3 : Below w2.heap.size w2 (w2.alloc (.cells #[.int .u8 (many : Int)] 5)) := (Below.refl _ _).alloc (Nat.le_refl _) _
    go_upto_region 5 with fail
    obtain ⟨w3, e3⟩ : ∃ w3, w3 = w2.alloc (.cells #[.int .u8 (many : Int)] 5) := ⟨_, rfl⟩
    rw [← e3] at hb3 ⊢
    clear e3 hcv hadd
    have hL3 := HF.out.1.below hb3
    have hbw3 : Below base w w3 := HF.out.2.1.trans (hb3.mono (by omega))
    have hk3 : WKeeps w w3 Bw := HF.out.2.2.trans hsw2 (WKeeps.below HF.out.1.lt hb3)
    have hs3 : w.heap.size ≤ w3.heap.size := Nat.le_trans hsw2 hb3.size
    obtain ⟨p0, c0, sv0, hB3, _⟩ := hL3.ex
    have hc3 : w3.cell? ⟨Bw, 3, none⟩ = some (.bool bad) := hB3.cell 3
    have hf3 : w3.frozen? ⟨Bw, 3, none⟩ = false := hB3.frozen 3
    have HW := Lib.hid (And.intro hL3 (And.intro hbw3 (And.intro hk3 hs3)))
    clear hL3 hbw3 hk3 hs3 hB3 hb3 HF hsw2
    obtain ⟨PX, ePX⟩ : ∃ P, P = s.extract 0 2 := ⟨_, rfl⟩
    have hPXl : PX.data.toList = s.data.toList.take 2 := by
      rw [ePX, ByteArray.data_extract, Array.toList_extract, List.extract_eq_take_drop]
      simp
    have hway : (¬ isNode s kd many ∧ ((s.size : Int) == 2 + (many : Int) * 32) = false ∧ ¬ (s.size : Int) = 2 + (many : Int) * 32) ∨ (¬ isNode s kd many ∧ ((s.size : Int) == 2 + (many : Int) * 32) = true ∧ s.size = 2 + many * 32 ∧ ¬ PX.toList = HD.toList ∧ (PX.toList == HD.toList) = false) ∨
        (isNode s kd many ∧ ((s.size : Int) == 2 + (many : Int) * 32) = true ∧ s.size = 2 + many * 32 ∧ PX = HD) := by
      by_cases g : s.size = 2 + many * 32
      · have g2 : ((s.size : Int) == 2 + (many : Int) * 32) = true := by rw [beq_iff_eq]; omega
        by_cases k : PX = HD
        · exact .inr (.inr ⟨⟨g, by rw [← hPXl, k, hHDl]⟩, g2, g, k⟩)
        · have k2 : ¬ PX.toList = HD.toList := fun e => k (ba_ext3 (by rw [← Lib.toList_data, ← Lib.toList_data, e]))
          exact .inr (.inl ⟨fun h => k (ba_ext3 (by rw [hPXl, hHDl]; exact h.2)), g2, g, k2, by rw [beq_eq_false_iff_ne]; exact k2⟩)
      · exact .inl ⟨fun h => g h.1, by rw [beq_eq_false_iff_ne]; omega, by omega⟩
    have HP := Lib.hid (And.intro hPXl (And.intro hHDl ePX))
    have hNo : ¬ isNode s kd many → NH = [] ∧ NB = true := fun h => by
      rw [EN.out.1, EN.out.2, namedH, namedB, hq]
      simp only [h, if_false]
      exact ⟨trivial, trivial⟩
    have hYes : isNode s kd many → NH = chunksH s ∧ NB = bad := fun h => by
      rw [EN.out.1, EN.out.2, namedH, namedB, hq]
      simp only [h, if_true]
      exact ⟨trivial, trivial⟩
    have HN := Lib.hid (And.intro hNo hYes)
    clear hNo hYes
    clear hPXl hHDl
    rcases hway with ⟨hno, hq1, hq5⟩ | ⟨hno, hq1, hsz, hk1, hk2⟩ | ⟨hyes, hq1, hsz, hk1⟩
    case inl =>
      clear ePX
      obtain ⟨rfl, rfl⟩ := HN.out.1 hno
      go_wp2
      go_ret
      exact ⟨none, 0, 0, rfl, rfl, World.ownsRow_nil _ _ _ _, (HW.out.1.bad).1, HW.out.2.1.trans (HW.out.1.bad).2.1, HW.out.2.2.1.trans HW.out.2.2.2 (HW.out.1.bad).2.2, fun g e => (by cases e)⟩
    case inr.inl =>
      have hsl : ∀ w', (Instr.slice 9 (.string s) none (some (.int .i64 2)) none).run Try.prog w' = .ok (.string PX) w' := fun w' => by
        rw [run_slice_string_to_if w' 9 s .i64 2 Try.underlying9, if_pos (by omega), ePX]
        rfl
      clear ePX
      obtain ⟨rfl, rfl⟩ := HN.out.1 hno
      go_wp2
      go_ret
      exact ⟨none, 0, 0, rfl, rfl, World.ownsRow_nil _ _ _ _, (HW.out.1.bad).1, HW.out.2.1.trans (HW.out.1.bad).2.1, HW.out.2.2.1.trans HW.out.2.2.2 (HW.out.1.bad).2.2, fun g e => (by cases e)⟩
    case' inr.inr =>
      have hsl : ∀ w', (Instr.slice 9 (.string s) none (some (.int .i64 2)) none).run Try.prog w' = .ok (.string PX) w' := fun w' => by
        rw [run_slice_string_to_if w' 9 s .i64 2 Try.underlying9, if_pos (by omega), ePX]
        rfl
      obtain ⟨S0, eS0⟩ : ∃ S, S = s.extract 2 s.size := ⟨_, rfl⟩
      have hS0l : S0.data.toList = s.data.toList.drop 2 := by
        rw [eS0, ByteArray.data_extract, Array.toList_extract, List.extract_eq_take_drop, List.take_of_length_le (by rw [List.length_drop]; exact Nat.le_refl _)]
      have hsl2 : ∀ w', (Instr.slice 9 (.string s) (some (.int .i64 2)) none none).run Try.prog w' = .ok (.string S0) w' := fun w' => by
        rw [run_slice_string_from_if w' 9 s .i64 2 Try.underlying9, if_pos (by omega), eS0]
        rfl
      have hS0s : S0.size = many * 32 := by rw [ba_list, hS0l, List.length_drop, ← ba_list]; omega
      subst hk1
      clear ePX eS0
      have hN2 := HN.out.2 hyes
      have HN2 := Lib.hid hN2
      clear hN2
      go_wp2
    go_loopw [9, 12] (fun t9 t12 wr => ∃ (S : ByteArray) (r j c : Nat) (p : Option Addr) (xs : List Value) (done : List (List UInt8)), t9 = .string S ∧ t12 = .slice p j c ∧ S.size = r * 32 ∧ j + r = many ∧ wr.ownsRow w3.heap.size 29 32 (.slice p j c) j xs ∧ Hid (xs = hcells done) ∧ Hid (chunksH s = done ++ cutL 32 S.data.toList) ∧ Hid (done.length = j) ∧ Below w3.heap.size w3 wr) (fun t9 _ _ => match t9 with | .string S => S.size | _ => 0)
    case atStart => exact ⟨S0, many, 0, 0, none, [], [], rfl, rfl, hS0s, by omega, World.ownsRow_nil _ _ _ _, Lib.hid rfl, Lib.hid (by rw [hS0l]; rfl), Lib.hid rfl, Below.refl _ _⟩
    case round =>
      clear hsl hsl2 hq1 hS0l hS0s hc3 hf3 hsz
      obtain ⟨S, r, j, c, p, xs, done, rfl, rfl, hSs, hjr, hR, HXS, HD, HJ, hb⟩ := hrel
      by_cases h1 : 0 < r
      · have hSl : S.data.toList.length = r * 32 := by rw [← ba_list]; exact hSs
        have hne : S.data.toList ≠ [] := fun e => by rw [e] at hSl; simp at hSl; omega
        have hq1 : ¬ S.toList = (⟨#[]⟩ : ByteArray).toList := fun e => hne (by rw [Lib.toList_data, Lib.toList_data] at e; exact e)
        have hq2 : (S.toList == (⟨#[]⟩ : ByteArray).toList) = false := by rw [beq_eq_false_iff_ne]; exact hq1
        have hq3 : ¬ S.toList = [] := fun e => hne (by rw [Lib.toList_data] at e; exact e)
        have hq4 : (S.toList == []) = false := by rw [beq_eq_false_iff_ne]; exact hq3
        obtain ⟨C, eC⟩ : ∃ C, C = S.extract 0 32 := ⟨_, rfl⟩
        obtain ⟨T, eT⟩ : ∃ T, T = S.extract 32 S.size := ⟨_, rfl⟩
        have hslA : ∀ w', (Instr.slice 9 (.string S) none (some (.int .i64 32)) none).run Try.prog w' = .ok (.string C) w' := fun w' => by
          rw [run_slice_string_to_if w' 9 S .i64 32 Try.underlying9, if_pos (by omega), eC]
          rfl
        have hslB : ∀ w', (Instr.slice 9 (.string S) (some (.int .i64 32)) none none).run Try.prog w' = .ok (.string T) w' := fun w' => by
          rw [run_slice_string_from_if w' 9 S .i64 32 Try.underlying9, if_pos (by omega), eT]
          rfl
        have hCl : C.data.toList = S.data.toList.take 32 := by
          rw [eC, ByteArray.data_extract, Array.toList_extract, List.extract_eq_take_drop]
          simp
        have hTl : T.data.toList = S.data.toList.drop 32 := by
          rw [eT, ByteArray.data_extract, Array.toList_extract, List.extract_eq_take_drop, List.take_of_length_le (by rw [List.length_drop]; exact Nat.le_refl _)]
        obtain ⟨Cl, eCl⟩ : ∃ l, l = C.data.toList := ⟨_, rfl⟩
        have hCll : Cl.length = 32 := by rw [eCl, hCl, List.length_take]; omega
        have hCs : C.size = 32 := by rw [ba_list, ← eCl]; exact hCll
        have hTs : T.size = (r - 1) * 32 := by rw [ba_list, hTl, List.length_drop]; omega
        have hcut : chunksH s = (done ++ [Cl]) ++ cutL 32 T.data.toList := by
          rw [HD.out, cutL_cons (by decide) _ hne, hTl, eCl, hCl, List.append_assoc]
          rfl
        have hcv := Lib.run_convert_string_bytes wr 9 35 5 C Try.underlying9 Try.underlying35 Try.underlying5
        rw [hCs] at hcv
        have hb4 := bytes_below wr C
        have hrg : (Lib.bytesWorld wr 5 C).rangeAt wr.heap.size 0 (bcells Cl).toList := by
          have := bytes_range wr C
          rw [← eCl] at this
          exact this
        obtain ⟨w4, e4⟩ : ∃ w4, w4 = Lib.bytesWorld wr 5 C := ⟨_, rfl⟩
        obtain ⟨q, eq⟩ : ∃ q, q = grownCap wr 32 0 5 := ⟨_, rfl⟩
        rw [← e4] at hcv hb4 hrg
        rw [← eq] at hcv
        have hR4 := hR.kept (grown_below hb4 (Nat.le_refl _) none) (by cases (Value.slice p j c).ownBlock <;> simp)
        have hRa := hR4.alloc (.cells (bcells Cl) 29)
        have hsrc := src_hash hCll (Blk.new w4 29 (bcells Cl))
        have hba : Below w3.heap.size w3 (w4.alloc (.cells (bcells Cl) 29)) := (hb.trans (hb4.mono hb.size)).alloc (Nat.le_trans hb.size hb4.size) _
        have b1 : j + 1 ≤ maxLen := by simp only [maxLen]; omega
        have b2 : (j + 1) * 32 ≤ 140737488355328 := by omega
        have HC := Lib.hid (And.intro hcv (And.intro hrg (And.intro hCll (And.intro hRa (And.intro hsrc (And.intro hba (And.intro hcut hTs)))))))
        clear hcv hrg hCll hRa hsrc hba hcut hTs hR4 hb4 hCs eCl hTl hCl eT eC hSl hne e4 eq hR hb
        go_wp2_with (first
          | (refine wpList_cvt (d := 57) (.string C) _ rfl HC.out.1 ?_; simp only [List.setIfInBounds_toArray, List.set_cons_succ, List.set_cons_zero])
          | (refine wpList_s2a (d := 58) ⟨wr.heap.size, 0, none⟩ 32 q 32 5 rfl Try.underlying29 (Nat.le_refl _) ?_; simp only [List.setIfInBounds_toArray, List.set_cons_succ, List.set_cons_zero])
          | (refine wpList_ld_mid (d := 59) wr.heap.size 0 (bcells Cl).toList rfl HC.out.2.1 Try.underlying29 rfl (by rw [size29, Array.length_toList, bcells_size, HC.out.2.2.1]) ?_; simp only [List.setIfInBounds_toArray, List.set_cons_succ, List.set_cons_zero, Array.toArray_toList])
          | (refine wpList_bs (d := 60) #[(0, .agg (bcells Cl))] _ (by rw [List.map_toArray]; rfl) (buildS82 Cl HC.out.2.2.1 w4) ?_; simp only [List.setIfInBounds_toArray, List.set_cons_succ, List.set_cons_zero])
          | (at_builtin; refine wpList_app _ w3.heap.size 29 i0 (.agg z32) 32 32 under82 hi0 hz0 hz1 hz2 rfl (.slice p j c) j xs rfl HC.out.2.2.2.1 _ 1 _ rfl HC.out.2.2.2.2.1 b1 b2 HC.out.2.2.2.2.2.1.size ?_; intro v9 w9 hR9 hg9 hat9 _; obtain ⟨p9, c9, rfl⟩ := row_slice hR9; simp only [List.setIfInBounds_toArray, List.set_cons_succ, List.set_cons_zero]))
        have hTs := HC.out.2.2.2.2.2.2.2
        exact ⟨⟨T, r - 1, j + 1, c9, p9, _, done ++ [Cl], rfl, rfl, hTs, by omega, hR9, Lib.hid (by rw [HXS.out, hcells, hcells, List.flatMap_append]; simp), Lib.hid HC.out.2.2.2.2.2.2.1, Lib.hid (by rw [List.length_append, HJ.out]; rfl), HC.out.2.2.2.2.2.1.grown hg9 HC.out.2.2.2.2.2.1.size (fun g e => (HC.out.2.2.2.1.lt g e).1)⟩, by show T.size < S.size; omega⟩
      · obtain rfl : r = 0 := by omega
        have hSe : S = ⟨#[]⟩ := ba_ext3 (List.length_eq_zero_iff.1 (by rw [← ba_list]; omega))
        subst hSe
        have hch : chunksH s = done := by rw [HD.out]; show done ++ cutL 32 [] = done; rw [cutL_nil, List.append_nil]
        have hfin : j = NH.length ∧ xs = hcells NH ∧ NB = bad := ⟨by rw [HN2.out.1, hch, HJ.out], by rw [HN2.out.1, hch, HXS.out], HN2.out.2⟩
        have HFN := Lib.hid hfin
        have hs3 := HW.out.2.2.2
        have hfin2 : wr.ownsRow w.heap.size 29 32 (.slice p j c) j (hcells NH) ∧ LdAt wr base Bw Bt WG NB ∧ Below base w wr ∧ WKeeps w wr Bw ∧ (∀ g, (Value.slice p j c).ownBlock = some g → WApart wr Bw g) := by
          rw [← hfin.2.1, hfin.2.2]
          have hl3 := HW.out.1.lt
          exact ⟨row_mono hR hs3, HW.out.1.below hb, HW.out.2.1.trans (hb.mono (by omega)), HW.out.2.2.1.trans hs3 (WKeeps.below hl3 hb), fun g e => (WApart.new HW.out.1 (.inl (hR.lt g e).1)).below hl3 hb⟩
        have HF2 := Lib.hid hfin2
        clear hfin hfin2 hch hR hb
        go_wp2
        go_ret
        exact ⟨p, j, c, rfl, HFN.out.1, HF2.out⟩
end
end Go.Proofs.Ytmhbkilpllgchaa
namespace Go.Proofs.Ytmhbkilpllgchaa
open Go.RowKit BigFrame
set_option linter.unusedVariables false
set_option linter.unusedSimpArgs false

theorem MapW.update124 {w : World} {B : Nat} {kv : KV} (h : MapW w B kv) (L : List UInt8) (hL : L.length = 32) (d : ByteArray) (hn : findL kv L = none) :
    ∃ w', (Instr.mapUpdate 124 (.map (some B)) (.agg (bcells L)) (.string d)).run Try.prog w = .ok () w' ∧ MapW w' B (kv ++ [(L, d)]) ∧ w.grownBy w' (some B) ∧ w'.heap.size = w.heap.size := by
  obtain ⟨es, clock, hb, he⟩ := h.blk
  have hk := (run_key w L hL es.toList kv he h.len).1 hn
  refine ⟨ChangeMaps.setBlock w B (.map (es.push { key := .agg (bcells L), val := .string d, born := clock }) (clock + 1)), ?_, ⟨⟨_, _, ChangeMaps.heap_setBlock_same hb _, ?_⟩, ?_⟩, ⟨rfl, rfl, rfl, by simp [ChangeMaps.setBlock], fun i _ hi => ChangeMaps.heap_setBlock_other hb _ (fun e => hi (by rw [e]))⟩, by simp [ChangeMaps.setBlock]⟩
  · simp [Instr.mapUpdate, run_underlying under124, MapKept.run_getObj_map hb, run_check w _ L hL, hk, MapKept.run_setObj_map _ hb, Result.andThen, ChangeMaps.setBlock]
  · rw [Array.toList_push, List.map_append, List.map_append, he]; rfl
  · intro p hp
    rcases List.mem_append.1 hp with hp | hp
    · exact h.len p hp
    · rw [List.mem_singleton.1 hp]; exact hL
theorem grown_b2 {a b : World} {Bm B : Nat} (h : a.grownBy b (some Bm)) (hB : B ≤ Bm) (hl : B ≤ a.heap.size) : Below B a b :=
  ⟨h.os, h.tape, h.output, h.size, fun i hi => h.block i (by omega) (fun e => by injection e; omega)⟩
def tabK (kv : KV) (L : List UInt8) (s : ByteArray) : KV := if (findL kv L).isSome then kv else kv ++ [(L, s)]
def readK (ss : List ByteArray) : KV := ss.foldl (fun kv s => if objOk s then tabK kv (objH s) s else kv) []

set_option maxRecDepth 100000 in
set_option maxHeartbeats 4000000 in
theorem tadd_any {w : World} {Bt : Nat} {kv : KV} (h : MapW w Bt kv) (L : List UInt8) (hL : L.length = 32) (s : ByteArray) :
    Calls Try.prog 105 #[.map (some Bt), .agg (bcells L), .string s] w fun e w' => e = .returned (.tuple #[]) ∧ MapW w' Bt (tabK kv L s) ∧ w.grownBy w' (some Bt) := by
  have hb0 : Below w.heap.size w (w.alloc (.cells (bcells L) 29)) := (Below.refl _ _).alloc (Nat.le_refl _) _
  have hX0 : Blk (w.alloc (.cells (bcells L) 29)) w.heap.size 29 (bcells L) := Blk.new _ _ _
  have hM0 := h.below hb0 h.lt
  have hlk := hM0.lookup124 L hL
  have H := Lib.hid (And.intro hb0 (And.intro hX0 hM0))
  clear hb0 hX0 hM0 h
  unfold tabK
  cases hq : findL kv L
  case some t =>
    rw [hq] at hlk
    have HLK := Lib.hid hlk
    clear hlk
    go_enter Try.func105, Try.ntmps105
    go_wp2_with (first
      | (refine wpList_ld_row (d := 10) w.heap.size (bcells L) rfl 29 H.out.2.1 Try.underlying29 rfl (by rw [size29, bcells_size, hL]) ?_; simp only [List.setIfInBounds_toArray, List.set_cons_succ, List.set_cons_zero])
      | (refine wpList_lk (d := 11) (.map (some Bt)) (.agg (bcells L)) _ rfl rfl HLK.out ?_; simp only [List.setIfInBounds_toArray, List.set_cons_succ, List.set_cons_zero, Option.getD_some, Option.isSome_some]))
    exact bodyPost_end (v := .tuple #[]) (by simp [results, Try.f105, go_sem]) rfl ⟨rfl, H.out.2.2, grown_below H.out.1 (Nat.le_refl _) _⟩
  case none =>
    rw [hq] at hlk
    obtain ⟨w2, hrun, hM2, hg2, _⟩ := H.out.2.2.update124 L hL s hq
    have HLK := Lib.hid (And.intro hlk (And.intro hrun (And.intro hM2 hg2)))
    clear hlk hrun hM2 hg2
    go_enter Try.func105, Try.ntmps105
    go_wp2_with (first
      | (refine wpList_ld_row (d := 10) w.heap.size (bcells L) rfl 29 H.out.2.1 Try.underlying29 rfl (by rw [size29, bcells_size, hL]) ?_; simp only [List.setIfInBounds_toArray, List.set_cons_succ, List.set_cons_zero])
      | (refine wpList_ld_row (d := 17) w.heap.size (bcells L) rfl 29 H.out.2.1 Try.underlying29 rfl (by rw [size29, bcells_size, hL]) ?_; simp only [List.setIfInBounds_toArray, List.set_cons_succ, List.set_cons_zero])
      | (refine wpList_lk (d := 11) (.map (some Bt)) (.agg (bcells L)) _ rfl rfl HLK.out.1 ?_; simp only [List.setIfInBounds_toArray, List.set_cons_succ, List.set_cons_zero, Option.getD_none, Option.isSome_none])
      | refine wpList_mu (.map (some Bt)) (.agg (bcells L)) (.string s) rfl rfl rfl HLK.out.2.1 ?_)
    exact bodyPost_end (v := .tuple #[]) (by simp [results, Try.f105, go_sem]) rfl ⟨rfl, HLK.out.2.2.1, grown_trans (grown_below H.out.1 (Nat.le_refl _) _) HLK.out.2.2.2⟩

set_option maxRecDepth 100000 in
set_option maxHeartbeats 4000000 in
theorem read_any (pa : Option Addr) (ss : List ByteArray) (c : Nat) (w : World) (hn : ss.length * 16 ≤ 140737488351232) (hx : Strs w pa ss) (hz : ∀ j, j < ss.length → (ss.getD j ByteArray.empty).size ≤ 140737488351232) :
    Calls Try.prog 91 #[.slice pa ss.length c] w fun e w' => ∃ Bt, e = .returned (.map (some Bt)) ∧ w.heap.size ≤ Bt ∧ MapW w' Bt (readK ss) ∧ Below w.heap.size w w' := by
  have hmm := @run_makeMap Try.prog
  obtain ⟨n, en⟩ : ∃ n, n = ss.length := ⟨_, rfl⟩
  have HX := Lib.hid (And.intro hx (And.intro hz en))
  have hn2 : n ≤ 8796093022208 := by omega
  rw [← en]
  clear hx hz en hn
  have hM0 : MapW (w.alloc (.map #[] 0)) w.heap.size [] := MapW.new w
  have hb0 : Below w.heap.size w (w.alloc (.map #[] 0)) := (Below.refl _ _).alloc (Nat.le_refl _) _
  go_enter Try.func91, Try.ntmps91
  go_wp2
  obtain ⟨w1, e1⟩ : ∃ w1, w1 = w.alloc (.map #[] 0) := ⟨_, rfl⟩
  obtain ⟨Bt, eB⟩ : ∃ B, B = w.heap.size := ⟨_, rfl⟩
  have hBt : w.heap.size ≤ Bt := Nat.le_of_eq eB.symm
  rw [← e1] at hM0 hb0 ⊢
  rw [← eB] at hM0
  have EB := Lib.hid eB
  rw [← eB]
  clear e1 eB hmm
  go_loopw [5, 6, 7, 11] (fun s0 s1 s2 i wr => ∃ j : Nat, i = .int .i64 (j : Int) ∧ j ≤ n ∧ Hid (MapW wr Bt (readK (ss.take j))) ∧ Below w.heap.size w wr) (fun _ _ _ i _ => n - (intOf i).toNat)
  case atStart => exact ⟨0, rfl, by omega, Lib.hid (by simpa [readK] using hM0), hb0⟩
  case round =>
    clear hM0 hb0
    obtain ⟨j, rfl, hj, HM, hb⟩ := hrel
    by_cases h1 : j < n
    · have hjl : j < ss.length := by rw [← HX.out.2.2]; exact h1
      obtain ⟨a, rfl, hbl, hcx⟩ := HX.out.1.at hjl
      have hq := HX.out.2.1 j hjl
      obtain ⟨S, eS⟩ : ∃ S, S = ss.getD j ByteArray.empty := ⟨_, rfl⟩
      rw [← eS] at hcx hq
      have hcr : wr.cell? (a.add j) = some (.string S) := (hb.cell hbl).trans hcx
      have hrk : readK (ss.take (j + 1)) = if objOk S then tabK (readK (ss.take j)) (objH S) S else readK (ss.take j) := by
        rw [List.take_succ_eq_append_getElem hjl, readK, List.foldl_append]
        have : ss[j] = S := by rw [eS, List.getD, List.getElem?_eq_getElem hjl]; rfl
        rw [this]
        rfl
      obtain ⟨H, eH⟩ : ∃ H, H = objH S := ⟨_, rfl⟩
      have hHl : H.length = 32 := by rw [eH]; exact objH_length S
      have c78 := hashof_any S wr hq
      rw [← eH] at c78 hrk
      obtain ⟨K, eK⟩ : ∃ K, K = objOk S := ⟨_, rfl⟩
      rw [← eK] at c78 hrk
      obtain ⟨kv, ekv⟩ : ∃ kv, kv = readK (ss.take j) := ⟨_, rfl⟩
      have hM := HM.out
      rw [← ekv] at hrk hM
      have HC := Lib.hid (And.intro c78 (And.intro hHl (And.intro hrk hM)))
      clear c78 hHl hrk eS eH eK hcx hq ekv hM
      go_wp2_with fail
      refine HC.out.1.mono ?_
      rintro e w5 ⟨rfl, hb5⟩
      have hX0 : Blk (w5.alloc (.cells z32 29)) w5.heap.size 29 z32 := Blk.new _ _ _
      have hX6 : Blk ((w5.alloc (.cells z32 29)).setRow w5.heap.size (bcells H)) w5.heap.size 29 (bcells H) := hX0.row _
      have hb6 : Below wr.heap.size wr ((w5.alloc (.cells z32 29)).setRow w5.heap.size (bcells H)) := below_setRow (hb5.alloc hb5.size _) hb5.size _
      have hM6 := HC.out.2.2.2.below hb6 HC.out.2.2.2.lt
      have hbw6 := hb.trans (hb6.mono hb.size)
      clear hcr hb5
      cases K
      case false =>
        have HF := Lib.hid (And.intro hM6 hbw6)
        have hk : readK (ss.take (j + 1)) = kv := HC.out.2.2.1
        have HK := Lib.hid hk
        clear hk hM6 hbw6 hb6 hX6
        go_wp2_with (refine wpList_alN (d := 6) z32 zero29 w5.heap.size rfl (wpList_st_row w5.heap.size (bcells H) rfl rfl 29 z32 hX0 (by rw [size29, bcells_size, HC.out.2.1]) (by rw [bcells_size, HC.out.2.1]; rfl) (bcells_one _) ?_); simp only [List.setIfInBounds_toArray, List.set_cons_succ, List.set_cons_zero])
        go_roundw
        case rel => exact ⟨j + 1, by go_num, by omega, Lib.hid (by rw [HK.out]; exact HF.out.1), HF.out.2⟩
        case measure => simp [intOf]; omega
      case true =>
        have hk : readK (ss.take (j + 1)) = tabK kv H S := HC.out.2.2.1
        have HK := Lib.hid hk
        have c105 := tadd_any hM6 H HC.out.2.1 S
        have HF := Lib.hid (And.intro c105 hbw6)
        clear hk hM6 hbw6 hb6 c105
        go_wp2_with (first
          | (refine wpList_alN (d := 6) z32 zero29 w5.heap.size rfl (wpList_st_row w5.heap.size (bcells H) rfl rfl 29 z32 hX0 (by rw [size29, bcells_size, HC.out.2.1]) (by rw [bcells_size, HC.out.2.1]; rfl) (bcells_one _) ?_); simp only [List.setIfInBounds_toArray, List.set_cons_succ, List.set_cons_zero])
          | (refine wpList_ld_row (d := 22) w5.heap.size (bcells H) rfl 29 hX6 Try.underlying29 rfl (by rw [size29, bcells_size, HC.out.2.1]) ?_; simp only [List.setIfInBounds_toArray, List.set_cons_succ, List.set_cons_zero]))
        refine HF.out.1.mono ?_
        rintro e w7 ⟨rfl, hM7, hg7⟩
        have hbw7 : Below w.heap.size w w7 := HF.out.2.trans (grown_b2 hg7 hBt HF.out.2.size)
        clear hg7
        have HM7 := Lib.hid hM7
        clear hM7 hX6 hX0
        go_wp2
        go_roundw
        case rel => exact ⟨j + 1, by go_num, by omega, Lib.hid (by rw [HK.out]; exact HM7.out), hbw7⟩
        case measure => simp [intOf]; omega
    · obtain rfl : j = n := by omega
      have hM := HM.out
      rw [HX.out.2.2, List.take_length] at hM
      have HM2 := Lib.hid hM
      clear hM
      go_wp2
      go_ret
      exact ⟨Bt, rfl, hBt, HM2.out, hb⟩

/-- How many parts of a size. -/
def partsN (a k : Nat) : Nat := (a + k - 1) / k
set_option maxRecDepth 100000 in
set_option maxHeartbeats 4000000 in
theorem parts64 (a : Nat) (w : World) (h : a ≤ 100000) : Calls Try.prog 101 #[.int .i64 (a : Int), .int .i64 64] w fun e w' => e = .returned (.int .i64 (partsN a 64 : Int)) ∧ w = w' := by
  have e : ((partsN a 64 : Nat) : Int) = ((a : Int) + 64 - 1) / 64 := by unfold partsN; omega
  rw [e]
  clear e
  go_enter Try.func101, Try.ntmps101
  go_wp2
  go_ret
  exact ⟨rfl, rfl⟩
set_option maxRecDepth 100000 in
set_option maxHeartbeats 4000000 in
theorem parts8 (a : Nat) (w : World) (h : a ≤ 100000) : Calls Try.prog 101 #[.int .i64 (a : Int), .int .i64 8] w fun e w' => e = .returned (.int .i64 (partsN a 8 : Int)) ∧ w = w' := by
  have e : ((partsN a 8 : Nat) : Int) = ((a : Int) + 8 - 1) / 8 := by unfold partsN; omega
  rw [e]
  clear e
  go_enter Try.func101, Try.ntmps101
  go_wp2
  go_ret
  exact ⟨rfl, rfl⟩
end Go.Proofs.Ytmhbkilpllgchaa
