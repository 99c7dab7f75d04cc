/- A map from texts to true that the call made; a list of texts, each once: object.List[string].Add. -/
import Derived.Test.YtmhbkilpllgchaaGreatDoorMgObj
namespace Go.Proofs.YtmhbkilpllgchaaGreatDoor
open Go.RowKit BigFrame
set_option linter.unusedVariables false
set_option linter.unusedSimpArgs false

theorem under109 : Tryz.prog.underlying 95 = some (.map 9 4) := by kernel_rfl
theorem zero4 (w : World) : (zeroValue 4).run Tryz.prog w = .ok (.bool false) w := by kernel_rfl
instance lawfulBytes : LawfulBEq ByteArray := { eq_of_beq := fun h => (MapKept.bytes_beq _ _).1 h, rfl := (MapKept.bytes_beq _ _).2 rfl }
def TV (s : ByteArray) : Value × Value := (.string s, .bool true)
/-- Block B is a map that says true of these texts. -/
structure SeenW (w : World) (B : Nat) (ss : List ByteArray) : Prop where
  blk : ∃ es clock, w.heap[B]? = some (.map es clock) ∧ es.toList.map (fun e => (e.key, e.val)) = ss.map TV
theorem SeenW.lt {w : World} {B : Nat} {ss : List ByteArray} (h : SeenW w B ss) : B < w.heap.size := by
  obtain ⟨es, clock, hb, _⟩ := h.blk
  exact (Array.getElem?_eq_some_iff.1 hb).1
theorem SeenW.same {w w' : World} {B : Nat} {ss : List ByteArray} (h : SeenW w B ss) (e : w'.heap[B]? = w.heap[B]?) : SeenW w' B ss := by
  obtain ⟨es, clock, h1, h2⟩ := h.blk
  exact ⟨es, clock, e.trans h1, h2⟩
theorem SeenW.new (w : World) : SeenW (w.alloc (.map #[] 0)) w.heap.size [] := ⟨#[], 0, heap_alloc_new w _, rfl⟩
theorem now_seen : ∀ (es : List MapEntry) (ss : List ByteArray) (i : Nat), es.map (fun e => (e.key, e.val)) = ss.map TV → ∀ s,
    (s ∉ ss → Instr.findNow .string (.string s) es i = some none) ∧ (s ∈ ss → ∃ j, Instr.findNow .string (.string s) es i = some (some (j, .bool true)))
  | [], [], i, _, s => ⟨fun _ => rfl, fun h => by cases h⟩
  | [], _ :: _, i, h, s => by cases h
  | _ :: _, [], i, h, s => by cases h
  | e :: es, t :: ss, i, h, s => by
    rw [List.map_cons, List.map_cons] at h
    injection h with h1 h2
    have hk : e.key = .string t := congrArg Prod.fst h1
    have hv : e.val = .bool true := congrArg Prod.snd h1
    have ih := now_seen es ss (i + 1) h2 s
    have hsn : Instr.sameNow .string (.string s) (.string t) = some (s == t) := rfl
    unfold Instr.findNow
    rw [hk, hsn]
    by_cases hx : s = t
    · subst hx
      rw [(MapKept.bytes_beq s s).2 rfl]
      exact ⟨fun h => absurd (by simp) h, fun _ => ⟨i, by rw [hv]⟩⟩
    · have : (s == t) = false := by
        rw [← Bool.not_eq_true]
        exact fun e => hx ((MapKept.bytes_beq s t).1 e)
      rw [this]
      exact ⟨fun h => ih.1 (fun g => h (List.mem_cons_of_mem _ g)), fun h => ih.2 ((List.mem_cons.1 h).resolve_left hx)⟩
theorem SeenW.lookup {w : World} {B : Nat} {ss : List ByteArray} (h : SeenW w B ss) (s : ByteArray) :
    (Instr.lookup 95 (.map (some B)) (.string s) false).run Tryz.prog w = .ok (.bool (decide (s ∈ ss))) w := by
  obtain ⟨es, clock, hb, he⟩ := h.blk
  have hk := now_seen es.toList ss 0 he s
  by_cases g : s ∈ ss
  · obtain ⟨j, hj⟩ := hk.2 g
    have hf := MapKept.run_findKey (w := w) Tryz.underlying9 hj
    have hc := MapKept.run_checkKey (w := w) Tryz.underlying9 (k := .string s) (by simp [MapKept.IsKey]) es.isEmpty 9999
    simp [Instr.lookup, run_underlying under109, MapKept.run_getObj_map hb, hc, hf, Result.andThen, g]
  · have hf := MapKept.run_findKey (w := w) Tryz.underlying9 (hk.1 g)
    have hc := MapKept.run_checkKey (w := w) Tryz.underlying9 (k := .string s) (by simp [MapKept.IsKey]) es.isEmpty 9999
    simp [Instr.lookup, run_underlying under109, MapKept.run_getObj_map hb, hc, hf, zero4, Result.andThen, g]
theorem SeenW.update {w : World} {B : Nat} {ss : List ByteArray} (h : SeenW w B ss) (s : ByteArray) (hn : s ∉ ss) :
    ∃ w', (Instr.mapUpdate 95 (.map (some B)) (.string s) (.bool true)).run Tryz.prog w = .ok () w' ∧ SeenW w' B (ss ++ [s]) ∧ w.grownBy w' (some B) ∧ w'.heap.size = w.heap.size := by
  obtain ⟨es, clock, hb, he⟩ := h.blk
  have hf := MapKept.run_findKey (w := w) Tryz.underlying9 ((now_seen es.toList ss 0 he s).1 hn)
  have hc := MapKept.run_checkKey (w := w) Tryz.underlying9 (k := .string s) (by simp [MapKept.IsKey]) false 9999
  refine ⟨ChangeMaps.setBlock w B (.map (es.push { key := .string s, val := .bool true, born := clock }) (clock + 1)), ?_, ⟨_, _, ChangeMaps.heap_setBlock_same hb _, ?_⟩, ⟨rfl, rfl, rfl, by simp [ChangeMaps.setBlock], fun i _ hi => ChangeMaps.heap_setBlock_other hb _ (fun e => hi (by rw [e]))⟩, by simp [ChangeMaps.setBlock]⟩
  · simp [Instr.mapUpdate, run_underlying under109, MapKept.run_getObj_map hb, hc, hf, MapKept.run_setObj_map _ hb, Result.andThen, ChangeMaps.setBlock]
  · rw [Array.toList_push, List.map_append, List.map_append, he]; rfl
/-- A look-up at the operation. -/
theorem wpList_lk {P : Program} {ops : Array Oper} {rest : List Oper} {a : Act} {w : World} {Q : Exit → Act → World → Prop} {t : TypeId} {m x : Operand} {b : Bool} {d : Nat} {ot : TypeId} {pos : String} {after : Array Edge} (mv key v : Value)
    (hm : a.eval m = mv) (hx : a.eval x = key) (hrun : (Instr.lookup t mv key b).run P w = .ok v w) (h : wpList P ops Q rest ⟨a.tmps.setIfInBounds d v, a.defers⟩ w) : wpList P ops Q (⟨some d, .lookup t m x b, ot, pos, after, none⟩ :: rest) a w := by
  refine wpList_plain rfl fun K' hK' => ?_
  unfold Oper.wp
  simp [execOp, hm, hx, hrun, Result.andThen]
  exact hK' _ _ h

theorem eqlSome109 (B : Nat) (w : World) : (binOp .eql 95 (.map (some B)) (.map none)).run Tryz.prog w = .ok (.bool false) w := by kernel_rfl
theorem eqlNil109 (w : World) : (binOp .eql 95 (.map none) (.map none)).run Tryz.prog w = .ok (.bool true) w := by kernel_rfl
def onceA (all : List ByteArray) (s : ByteArray) : List ByteArray := if s ∈ all then all else all ++ [s]
theorem onceA_length (all : List ByteArray) (s : ByteArray) : (onceA all s).length ≤ all.length + 1 := by
  unfold onceA
  split
  · omega
  · rw [List.length_append]; exact Nat.le_refl _
/-- Block i is none of the list's own. -/
structure LApart (w : World) (Bl i : Nat) : Prop where
  ne : i ≠ Bl
  row : ∀ p n c, w.cell? ⟨Bl, 0, none⟩ = some (.slice p n c) → (Value.slice p n c).ownBlock ≠ some i
  map : ∀ B, w.cell? ⟨Bl, 1, none⟩ = some (.map (some B)) → B ≠ i
/-- A list of texts, each once. -/
structure LstAt (w : World) (base Bl : Nat) (all : List ByteArray) : Prop where
  ex : ∃ p c sv, Blk w Bl 97 #[.slice p all.length c, .map sv] ∧ w.ownsRow base 9 1 (.slice p all.length c) all.length (all.map SV) ∧ (Value.slice p all.length c).ownBlock ≠ some Bl ∧
    ((sv = none ∧ all = []) ∨ ∃ B, sv = some B ∧ SeenW w B all ∧ base ≤ B ∧ B ≠ Bl ∧ (Value.slice p all.length c).ownBlock ≠ some B)
  ge : base ≤ Bl
theorem LstAt.lt {w : World} {base Bl : Nat} {all : List ByteArray} (h : LstAt w base Bl all) : Bl < w.heap.size := by
  obtain ⟨p, c, sv, hB, _⟩ := h.ex
  exact hB.lt
theorem LstAt.below {w w' : World} {base Bl : Nat} {all : List ByteArray} (h : LstAt w base Bl all) (hb : Below w.heap.size w w') : LstAt w' base Bl all := by
  obtain ⟨p, c, sv, hB, hR, hne, hs⟩ := h.ex
  refine ⟨⟨p, c, sv, hB.below hb hB.lt, hR.kept (grown_below hb (Nat.le_refl _) none) (by cases (Value.slice p all.length c).ownBlock <;> simp), hne, ?_⟩, h.ge⟩
  rcases hs with hs | ⟨B, e, h1, h2, h3, h4⟩
  · exact .inl hs
  · exact .inr ⟨B, e, h1.same (hb.block B h1.lt), h2, h3, h4⟩
theorem LApart.below {w w' : World} {Bl i : Nat} (h : LApart w Bl i) (hl : Bl < w.heap.size) (hb : Below w.heap.size w w') : LApart w' Bl i :=
  ⟨h.ne, fun p n c e => h.row p n c (((hb.cell (p := ⟨Bl, 0, none⟩) hl).symm.trans e)), fun B e => h.map B (((hb.cell (p := ⟨Bl, 1, none⟩) hl).symm.trans e))⟩
theorem LApart.new {w : World} {base Bl : Nat} {all : List ByteArray} (h : LstAt w base Bl all) {i : Nat} (hi : w.heap.size ≤ i) : LApart w Bl i := by
  obtain ⟨p, c, sv, hB, hR, hne, hs⟩ := h.ex
  refine ⟨by have := hB.lt; omega, fun p' n' c' e g => ?_, fun B e g => ?_⟩
  · have e1 := hB.cell 0
    rw [e] at e1
    injection e1 with e1
    rw [e1] at g
    have := (hR.lt i g).2
    omega
  · have e1 := hB.cell 1
    rw [e] at e1
    have e2 : sv = some B := by
      have : some (Value.map (some B)) = some (Value.map sv) := e1
      injection this with this
      injection this with this
      exact this.symm
    rcases hs with ⟨h1, _⟩ | ⟨B', h1, h2, _⟩
    · rw [h1] at e2; cases e2
    · rw [h1] at e2
      obtain rfl : B' = B := Option.some.inj e2
      have := h2.lt
      omega
/-- All that is not the list's own is as it was. -/
def LKeeps (w w' : World) (Bl : Nat) : Prop := ∀ i, i < w.heap.size → LApart w Bl i → LApart w' Bl i ∧ w'.heap[i]? = w.heap[i]?

section
variable {w : World} {base Bl : Nat} {all : List ByteArray}
set_option maxRecDepth 100000 in
set_option maxHeartbeats 4000000 in
theorem ladd_any (h : LstAt w base Bl all) (s : ByteArray) (hn : all.length ≤ 1000000) :
    Calls Tryz.prog 63 #[.pointer (some ⟨Bl, 0, none⟩), .string s] w fun e w' => e = .returned (.tuple #[]) ∧ LstAt w' base Bl (onceA all s) ∧ Below base w w' ∧ LKeeps w w' Bl := by
  obtain ⟨p, c, sv, hB, hR, hne, hs⟩ := h.ex
  have hge := h.ge
  have hlt := hB.lt
  obtain ⟨i0, hi0, hz0, hz1, hz2⟩ := info_parts info9
  have hbse : base ≤ w.heap.size := by omega
  have hown0 : ∀ g, (Value.slice p all.length c).ownBlock = some g → base ≤ g ∧ g < w.heap.size := fun g e => hR.lt g e
  have hkeep0 : ∀ i, LApart w Bl i → i ≠ Bl ∧ (Value.slice p all.length c).ownBlock ≠ some i ∧ ∀ B, sv = some B → B ≠ i := fun i hi =>
    ⟨hi.ne, hi.row p _ c (hB.cell 0), fun B e => hi.map B (by rw [← e]; exact hB.cell 1)⟩
  have hgoal : ∀ (W : World) (B : Nat), Blk W Bl 97 #[.slice p all.length c, .map (some B)] → W.ownsRow base 9 1 (.slice p all.length c) all.length (all.map SV) → SeenW W B all → base ≤ B → B ≠ Bl → (Value.slice p all.length c).ownBlock ≠ some B → LstAt W base Bl all :=
    fun W B h1 h2 h3 h4 h5 h6 => ⟨⟨p, c, some B, h1, h2, hne, .inr ⟨B, rfl, h3, h4, h5, h6⟩⟩, hge⟩
  obtain ⟨n, en⟩ : ∃ n, n = all.length := ⟨_, rfl⟩
  rw [← en] at hB hR hne hs hn hown0 hkeep0 hgoal
  have EN := Lib.hid en
  have HG := Lib.hid (And.intro hkeep0 (And.intro hgoal hown0))
  clear en hkeep0 hgoal hown0
  have hmm := @run_makeMap Tryz.prog
  have hq1 := eqlNil109
  have hq2 := eqlSome109
  rcases hs with ⟨rfl, hall⟩ | ⟨B, rfl, hS, hBb, hBl, hown⟩
  case' inl =>
    have hc1 : w.cell? ⟨Bl, 1, none⟩ = some (.map none) := hB.cell 1
    have hBa := hB.alloc (.map #[] 0)
    have hc2 : (w.alloc (.map #[] 0)).cell? ⟨Bl, 1, none⟩ = some (.map none) := hBa.cell 1
    have hf2 : (w.alloc (.map #[] 0)).frozen? ⟨Bl, 1, none⟩ = false := hBa.frozen 1
    obtain ⟨B, eB⟩ : ∃ B, B = w.heap.size := ⟨_, rfl⟩
    obtain ⟨V, eV⟩ : ∃ V, V = w.setCell ⟨Bl, 1, none⟩ (.map (some B)) := ⟨_, rfl⟩
    have hVs : V.heap.size = w.heap.size := by rw [eV]; simp [World.setCell]
    have hVB : Blk V Bl 97 #[.slice p n c, .map (some B)] := by rw [eV]; exact hB.set_ 1 _
    have hVR : V.ownsRow base 9 1 (.slice p n c) n (all.map SV) := by
      rw [eV]
      exact hR.kept (grown_setCell (⟨rfl, rfl, rfl, Nat.le_refl _, fun i _ _ => rfl⟩ : w.grownBy w (some Bl)) (p := ⟨Bl, 1, none⟩) rfl _) (.inr hne)
    have hVk : ∀ i, i ≠ Bl → V.heap[i]? = w.heap[i]? := fun i hi => by rw [eV]; exact Below.heap_setCell _ _ _ i hi
    have hVb : Below base w V := ⟨by rw [eV]; rfl, by rw [eV]; rfl, by rw [eV]; rfl, by omega, fun i hi => hVk i (by omega)⟩
    obtain ⟨W, eW⟩ : ∃ W, W = V.alloc (.map #[] 0) := ⟨_, rfl⟩
    have hBW : Blk W Bl 97 #[.slice p n c, .map (some B)] := by rw [eW]; exact hVB.alloc _
    have hRW : W.ownsRow base 9 1 (.slice p n c) n (all.map SV) := by rw [eW]; exact hVR.alloc _
    have hSW : SeenW W B all := by
      rw [hall, eW, eB, ← hVs]
      exact SeenW.new V
    have hbW : Below base w W := by rw [eW]; exact hVb.alloc (by omega) _
    have hkW : ∀ i, i < w.heap.size → i ≠ Bl → W.heap[i]? = w.heap[i]? := fun i hi hiB => by
      rw [eW]
      exact (Below.heap_alloc V _ i (by omega)).trans (hVk i hiB)
    have hBn : ∀ i, i < w.heap.size → LApart w Bl i → B ≠ i := fun i hi _ => by omega
    have hBB : base ≤ B ∧ B ≠ Bl ∧ (Value.slice p n c).ownBlock ≠ some B := ⟨by omega, by omega, fun e => by have := (HG.out.2.2 _ e).2; omega⟩
    have hsW : w.heap.size ≤ W.heap.size := hbW.size
    rw [eV] at eW
    have EW := Lib.hid (And.intro eB eW)
    have HF := Lib.hid (And.intro hBW (And.intro hRW (And.intro hSW (And.intro hbW (And.intro hkW (And.intro hBn (And.intro hBB hsW)))))))
    clear hBW hRW hSW hbW hkW hBn hBB hB hR hBa hsW eB eW hVs hVB hVR hVk hVb eV
    go_enter Tryz.func63, Tryz.ntmps63
    go_upto_region 2 with fail
    rw [← EW.out.1, ← EW.out.2]
    clear EW hc1 hc2 hf2
  case' inr =>
    have hc1 : w.cell? ⟨Bl, 1, none⟩ = some (.map (some B)) := hB.cell 1
    obtain ⟨W, eW⟩ : ∃ W, W = w := ⟨_, rfl⟩
    have hBW : Blk W Bl 97 #[.slice p n c, .map (some B)] := by rw [eW]; exact hB
    have hRW : W.ownsRow base 9 1 (.slice p n c) n (all.map SV) := by rw [eW]; exact hR
    have hSW : SeenW W B all := by rw [eW]; exact hS
    have hbW : Below base w W := by rw [eW]; exact Below.refl _ _
    have hkW : ∀ i, i < w.heap.size → i ≠ Bl → W.heap[i]? = w.heap[i]? := fun i hi hiB => by rw [eW]
    have hBn : ∀ i, i < w.heap.size → LApart w Bl i → B ≠ i := fun i _ hi => (HG.out.1 i hi).2.2 B rfl
    have hBB : base ≤ B ∧ B ≠ Bl ∧ (Value.slice p n c).ownBlock ≠ some B := ⟨hBb, hBl, hown⟩
    have hsW : w.heap.size ≤ W.heap.size := hbW.size
    have EW := Lib.hid eW
    have HF := Lib.hid (And.intro hBW (And.intro hRW (And.intro hSW (And.intro hbW (And.intro hkW (And.intro hBn (And.intro hBB hsW)))))))
    clear hBW hRW hSW hbW hkW hBn hBB hB hR hS hBb hBl hown hsW eW
    go_enter Tryz.func63, Tryz.ntmps63
    go_upto_region 2 with fail
    rw [← EW.out]
    clear EW hc1
  all_goals
    have hc1 : W.cell? ⟨Bl, 1, none⟩ = some (.map (some B)) := HF.out.1.cell 1
    have hlk := HF.out.2.2.1.lookup s
    by_cases hin : s ∈ all
    case pos =>
      rw [decide_eq_true hin] at hlk
      have hl : LstAt W base Bl (onceA all s) ∧ Below base w W ∧ LKeeps w W Bl := by
        obtain ⟨g1, g2, g3, g4, g5, g6, ⟨g7, g8, g9⟩, g10⟩ := HF.out
        rw [onceA, if_pos hin]
        refine ⟨HG.out.2.1 W B g1 g2 g3 g7 g8 g9, g4, fun i hi hl => ⟨⟨hl.ne, fun p' n' c' e => ?_, fun B' e => ?_⟩, g5 i hi hl.ne⟩⟩
        · rw [g1.cell 0] at e
          have e2 : (Value.slice p n c) = .slice p' n' c' := Option.some.inj e
          rw [← e2]
          exact (HG.out.1 i hl).2.1
        · rw [g1.cell 1] at e
          have e2 : (Value.map (some B)) = .map (some B') := Option.some.inj e
          injection e2 with e2
          injection e2 with e2
          rw [← e2]
          exact g6 i hi hl
      have HL := Lib.hid hl
      clear hl
      go_wp2_with (refine wpList_lk (d := 18) (.map (some B)) (.string s) _ rfl rfl hlk ?_; simp only [List.setIfInBounds_toArray, List.set_cons_succ, List.set_cons_zero])
      exact bodyPost_end (v := .tuple #[]) (by simp [results, Tryz.f63, go_sem]) rfl ⟨rfl, HL.out⟩
    case neg =>
      rw [decide_eq_false hin] at hlk
      obtain ⟨V, hrun, hSV, hgV, hsV⟩ := HF.out.2.2.1.update s hin
      have hBV := HF.out.1.grown hgV (fun e => HF.out.2.2.2.2.2.2.1.2.1 (Option.some.inj e).symm)
      have hRV := HF.out.2.1.kept hgV (.inr HF.out.2.2.2.2.2.2.1.2.2)
      have hcV : V.cell? ⟨Bl, 0, none⟩ = some (.slice p n c) := hBV.cell 0
      have HR := Lib.hid (And.intro hrun (And.intro hSV (And.intro hgV (And.intro hBV (And.intro hRV hsV)))))
      have hV2 := HF.out.2.2.2.2.2.2.2
      have hV3 : w.heap.size ≤ V.heap.size := by omega
      clear hrun hSV hgV hsV hV2
      have hba : Below V.heap.size V (V.alloc (.cells #[.string s] 9)) := (Below.refl _ _).alloc (Nat.le_refl _) _
      have hRa := hRV.alloc (.cells #[.string s] 9)
      have hsrc : Src Tryz.prog 1 28 (.slice (some ⟨V.heap.size, 0, none⟩) 1 1) 1 [.string s] (V.alloc (.cells #[.string s] 9)) := by
        refine Src.ofSlice _ Tryz.underlying28 _ 1 1 _ rfl (fun j u hu => ?_) (fun u hu => by
          simp only [List.mem_cons, List.not_mem_nil, or_false] at hu
          subst hu; rfl)
        rw [Addr.add_mid, Nat.zero_add, (Blk.new V 9 #[.string s]).cell]
        simpa using hu
      have hBa := hBV.alloc (.cells #[.string s] 9)
      have b1 : n + 1 ≤ maxLen := by simp only [maxLen]; omega
      have b2 : (n + 1) * 16 ≤ 140737488355328 := by omega
      have b3 : base ≤ (V.alloc (.cells #[.string s] 9)).heap.size := by
        have := hba.size
        omega
      have HA := Lib.hid (And.intro hRa (And.intro hsrc (And.intro hBa (And.intro b1 (And.intro b2 b3)))))
      clear hRa hsrc hBa hBV hRV b1 b2 b3
      go_upto_region 4 with (first
        | (refine wpList_lk (d := 18) (.map (some B)) (.string s) _ rfl rfl hlk ?_; simp only [List.setIfInBounds_toArray, List.set_cons_succ, List.set_cons_zero])
        | refine wpList_mu (.map (some B)) (.string s) (.bool true) rfl rfl rfl HR.out.1 ?_)
      go_wp2_with (at_builtin; refine wpList_app _ base 9 i0 (.string ⟨#[]⟩) 1 16 Tryz.underlying28 hi0 hz0 hz1 hz2 rfl (.slice p n c) n (all.map SV) rfl HA.out.1 _ 1 _ rfl HA.out.2.1 HA.out.2.2.2.1 HA.out.2.2.2.2.1 HA.out.2.2.2.2.2 ?_; intro v5 w5 hR5 hg5 hat5 _; obtain ⟨p5, c5, rfl⟩ := row_slice hR5; have hB5 := HA.out.2.2.1.grown hg5 (fun e => hne e.symm); have hc5 := hB5.cell 0; have hf5 := hB5.frozen 0; simp only [List.setIfInBounds_toArray, List.set_cons_succ, List.set_cons_zero])
      have hl : ∀ W', W' = w5.setCell ⟨Bl, 0, none⟩ (.slice p5 (n + 1) c5) → LstAt W' base Bl (onceA all s) ∧ Below base w W' ∧ LKeeps w W' Bl := by
        rintro _ rfl
        obtain ⟨f1, f2, f3, f4, f5, f6, ⟨f7, f8, f9⟩, f10⟩ := HF.out
        obtain ⟨r1, r2, r3, r4, r5, r6⟩ := HR.out
        have hown5 : ∀ g, (Value.slice p5 (n + 1) c5).ownBlock = some g → (Value.slice p n c).ownBlock = some g ∨ w.heap.size ≤ g := fun g e => by
          rcases hat5 with h | h
          · rw [h] at e; exact .inl e
          · rw [h] at e
            have := Option.some.inj e
            have hsa : (V.alloc (.cells #[.string s] 9)).heap.size = V.heap.size + 1 := by simp
            exact .inr (by omega)
        have hnB : (Value.slice p5 (n + 1) c5).ownBlock ≠ some B := fun e => by
          rcases hat5 with h | h
          · rw [h] at e; exact f9 e
          · rw [h] at e
            have := Option.some.inj e
            have h3 := f3.lt
            have hsa : (V.alloc (.cells #[.string s] 9)).heap.size = V.heap.size + 1 := by simp
            omega
        have hnL : (Value.slice p5 (n + 1) c5).ownBlock ≠ some Bl := fun e => by
          rcases hown5 Bl e with h | h
          · exact hne h
          · omega
        have hsa : (V.alloc (.cells #[.string s] 9)).heap.size = V.heap.size + 1 := by simp
        have hr2 := r2.lt
        have hS5 : SeenW w5 B (all ++ [s]) := (r2.same (Below.heap_alloc V (.cells #[.string s] 9) B r2.lt)).same (hg5.block B (by omega) (fun e => f9 e.symm))
        have hlen : (onceA all s).length = n + 1 := by rw [onceA, if_neg hin, List.length_append, EN.out]; rfl
        have hmap : (onceA all s).map SV = all.map SV ++ [.string s] := by rw [onceA, if_neg hin, List.map_append]; rfl
        have hbV : Below base W V := ⟨r3.os, r3.tape, r3.output, r3.size, fun i hi => r3.block i (by have := f1.lt; omega) (fun e => by have := Option.some.inj e; omega)⟩
        refine ⟨⟨⟨p5, c5, some B, ?_, ?_, ?_, .inr ⟨B, rfl, ?_, f7, f8, ?_⟩⟩, hge⟩, ?_, ?_⟩
        · rw [hlen]; exact hB5.set_ 0 _
        · rw [hlen, hmap]
          exact hR5.kept (grown_setCell (⟨rfl, rfl, rfl, Nat.le_refl _, fun i _ _ => rfl⟩ : w5.grownBy w5 (some Bl)) (p := ⟨Bl, 0, none⟩) rfl _) (.inr hnL)
        · rw [hlen]; exact hnL
        · rw [onceA, if_neg hin]; exact hS5.same (Below.heap_setCell _ _ _ _ f8)
        · rw [hlen]; exact hnB
        · refine Below.trans ((f4.trans hbV).alloc (by omega) (.cells #[.string s] 9)) ?_
          refine Below.trans (b := w5) ⟨hg5.os, hg5.tape, hg5.output, hg5.size, fun i hi => hg5.block i (by omega) (fun e => by have := (HG.out.2.2 i e.symm).1; omega)⟩ ?_
          exact ⟨rfl, rfl, rfl, by simp [World.setCell], fun i hi => Below.heap_setCell _ _ _ i (by show i ≠ Bl; omega)⟩
        · intro i hi hl
          obtain ⟨k1, k2, k3⟩ := HG.out.1 i hl
          have k4 := f6 i hi hl
          have hsa : (V.alloc (.cells #[.string s] 9)).heap.size = V.heap.size + 1 := by simp
          refine ⟨⟨k1, fun p' n' c' e => ?_, fun B' e => ?_⟩, ?_⟩
          · have e1 := (hB5.set_ 0 (.slice p5 (n + 1) c5)).cell 0
            rw [e] at e1
            have e2 : (Value.slice p' n' c') = .slice p5 (n + 1) c5 := Option.some.inj e1
            rw [e2]
            intro e3
            rcases hown5 i e3 with h | h
            · exact k2 h
            · omega
          · have e1 := (hB5.set_ 0 (.slice p5 (n + 1) c5)).cell 1
            rw [e] at e1
            have e2 : (Value.map (some B')) = .map (some B) := Option.some.inj e1
            injection e2 with e2
            injection e2 with e2
            rw [e2]; exact k4
          · refine (Below.heap_setCell _ _ _ i k1).trans ((hg5.block i (by omega) (fun e => k2 e.symm)).trans ((Below.heap_alloc V _ i (by omega)).trans ((r3.block i (by omega) (fun e => k4 (Option.some.inj e).symm)).trans (f5 i hi k1))))
      exact bodyPost_end (v := .tuple #[]) (by simp [results, Tryz.f63, go_sem]) rfl ⟨rfl, hl _ rfl⟩
end
end Go.Proofs.YtmhbkilpllgchaaGreatDoor
