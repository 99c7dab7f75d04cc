/- console.of, console.commands; the look-up. console.commands. strings.Builder.WriteString. -/
import Derived.Test.YtmhbkilpllgchaaGreatDoorMgCkn
import Derived.MapKept
namespace Go.Proofs.YtmhbkilpllgchaaGreatDoor
open Go.RowKit BigFrame
set_option linter.unusedVariables false
set_option linter.unusedSimpArgs false

def fnV (k : Nat) : Value := .func (.func k) #[] #[]
def ofV (B : Nat) : Value := .func (.func 50) #[] #[.pointer (some ⟨B, 0, none⟩)]

set_option maxRecDepth 100000 in
set_option maxHeartbeats 4000000 in
theorem mkof_any (k : Nat) (w : World) : Calls Tryz.prog 27 #[fnV k] w fun e w' => e = .returned (ofV w.heap.size) ∧ w' = w.alloc (.cells #[fnV k] 67) := by
  unfold fnV
  go_enter Tryz.func27, Tryz.ntmps27
  go_wp2
  go_ret
  exact ⟨rfl, rfl⟩

theorem wpList_ins {P : Program} {ops : Array Oper} {rest : List Oper} {a : Act} {w w' : World} {Q : Exit → Act → World → Prop} {t : TypeId} {m x v : Operand} {ot : TypeId} {pos : String} {after : Array Edge} (mv key val : Value)
    (hm : a.eval m = mv) (hx : a.eval x = key) (hv : a.eval v = val) (hrun : (Instr.mapUpdate t mv key val).run P w = .ok () w') (h : wpList P ops Q rest a w') : wpList P ops Q (⟨none, .insert t m x v, ot, pos, after, none⟩ :: rest) a w := by
  refine wpList_plain rfl fun K' hK' => ?_
  unfold Oper.wp
  simp [execOp, hm, hx, hv, hrun, Result.andThen]
  exact hK' _ _ h

/-- A map of commands that the call has made: names and functions. -/
def CmdW (w : World) (M : Nat) (kv : List (ByteArray × Value)) : Prop := ∃ es clock, w.heap[M]? = some (.map es clock) ∧ es.toList.map (fun e => (e.key, e.val)) = kv.map fun p => (.string p.1, p.2)
theorem CmdW.lt {w : World} {M : Nat} {kv : List (ByteArray × Value)} (h : CmdW w M kv) : M < w.heap.size := by
  obtain ⟨es, clock, hb, _⟩ := h
  exact (Array.getElem?_eq_some_iff.1 hb).1
theorem CmdW.below {w w' : World} {M b : Nat} {kv : List (ByteArray × Value)} (h : CmdW w M kv) (hb : Below b w w') (hM : M < b) : CmdW w' M kv := by
  obtain ⟨es, clock, h1, h2⟩ := h
  exact ⟨es, clock, (hb.block M hM).trans h1, h2⟩
def findC (kv : List (ByteArray × Value)) (x : ByteArray) : Option Value := (kv.find? fun p => decide (x = p.1)).map (·.2)
theorem findNow_C (x : ByteArray) : ∀ (es : List MapEntry) (kv : List (ByteArray × Value)) (i : Nat), es.map (fun e => (e.key, e.val)) = kv.map (fun p => (.string p.1, p.2)) →
    ∃ r, Instr.findNow .string (.string x) es i = some r ∧ r.map (·.2) = findC kv x
  | [], [], i, _ => ⟨none, rfl, rfl⟩
  | [], p :: kv, i, h => by cases h
  | e :: es, [], i, h => by cases h
  | e :: es, p :: kv, i, h => by
    rw [List.map_cons, List.map_cons] at h
    injection h with h1 h2
    have hk : e.key = .string p.1 := congrArg Prod.fst h1
    have hv : e.val = p.2 := congrArg Prod.snd h1
    rw [Instr.findNow, hk]
    by_cases hx : x = p.1
    · have : Instr.sameNow .string (.string x) (.string p.1) = some true := by rw [Instr.sameNow, hx]; simp
      rw [this]
      exact ⟨_, rfl, by simp [findC, List.find?_cons, hx, hv]⟩
    · have : Instr.sameNow .string (.string x) (.string p.1) = some false := by rw [Instr.sameNow]; simp [hx]
      rw [this]
      obtain ⟨r, h3, h4⟩ := findNow_C x es kv (i + 1) h2
      exact ⟨r, h3, by rw [h4]; simp [findC, List.find?_cons, hx]⟩

theorem CmdW.lookup {w : World} {M : Nat} {kv : List (ByteArray × Value)} (h : CmdW w M kv) (x : ByteArray) :
    (Instr.lookup 41 (.map (some M)) (.string x) true).run Tryz.prog w = .ok (.tuple #[(findC kv x).getD Value.nilFunc, .bool (findC kv x).isSome]) w := by
  obtain ⟨es, clock, hb, he⟩ := h
  obtain ⟨r, h1, h2⟩ := findNow_C x es.toList kv 0 he
  have hk := MapKept.run_findKey (P := Tryz.prog) (w := w) Tryz.underlying9 h1
  have hc := MapKept.run_checkKey (P := Tryz.prog) (w := w) Tryz.underlying9 (k := .string x) (by simp [MapKept.IsKey]) es.isEmpty 9999
  have z51 : (zeroValue 51).run Tryz.prog w = .ok Value.nilFunc w := by kernel_rfl
  rw [← h2]
  cases r with
  | none => simp [Instr.lookup, run_underlying Tryz.underlying41, MapKept.run_getObj_map hb, hc, hk, z51, Result.andThen]
  | some q => simp [Instr.lookup, run_underlying Tryz.underlying41, MapKept.run_getObj_map hb, hc, hk, Result.andThen]
theorem CmdW.new (w : World) : CmdW (w.alloc (.map #[] 0)) w.heap.size [] := ⟨#[], 0, heap_alloc_new w _, rfl⟩
theorem CmdW.update {w : World} {M : Nat} {kv : List (ByteArray × Value)} (h : CmdW w M kv) (x : ByteArray) (v : Value) (hn : findC kv x = none) :
    ∃ w', (Instr.mapUpdate 41 (.map (some M)) (.string x) v).run Tryz.prog w = .ok () w' ∧ CmdW w' M (kv ++ [(x, v)]) ∧ w.grownBy w' (some M) ∧ w'.heap.size = w.heap.size := by
  obtain ⟨es, clock, hb, he⟩ := h
  obtain ⟨r, h1, h2⟩ := findNow_C x es.toList kv 0 he
  have hr : r = none := by
    cases r with
    | none => rfl
    | some q => rw [hn] at h2; cases h2
  subst hr
  have hk := MapKept.run_findKey (P := Tryz.prog) (w := w) Tryz.underlying9 h1
  have hc := MapKept.run_checkKey (P := Tryz.prog) (w := w) Tryz.underlying9 (k := .string x) (by simp [MapKept.IsKey]) es.isEmpty 9999
  refine ⟨ChangeMaps.setBlock w M (.map (es.push { key := .string x, val := v, born := clock }) (clock + 1)), ?_, ⟨_, _, ChangeMaps.heap_setBlock_same hb _, ?_⟩, ⟨rfl, rfl, rfl, by simp [ChangeMaps.setBlock], fun i _ hi => ChangeMaps.heap_setBlock_other hb _ (fun e => hi (by rw [e]))⟩, by simp [ChangeMaps.setBlock]⟩
  · have hc' : ∀ b, (Instr.checkKey b 10000 9 (.string x)).run Tryz.prog w = .ok () w := fun b => MapKept.run_checkKey (P := Tryz.prog) (w := w) Tryz.underlying9 (k := .string x) (by simp [MapKept.IsKey]) b 9999
    simp [Instr.mapUpdate, run_underlying Tryz.underlying41, MapKept.run_getObj_map hb, hc', hk, MapKept.run_setObj_map _ hb, Result.andThen, ChangeMaps.setBlock]
  · rw [Array.toList_push, List.map_append, List.map_append, he]; rfl
end Go.Proofs.YtmhbkilpllgchaaGreatDoor
namespace Go.Proofs.YtmhbkilpllgchaaGreatDoor
open Go.RowKit BigFrame
set_option linter.unusedVariables false
set_option linter.unusedSimpArgs false

theorem mkof_at (k : Nat) (w : World) (N : Nat) (hN : w.heap.size = N) : Calls Tryz.prog 27 #[fnV k] w fun e w' => e = .returned (ofV N) ∧ w' = w.alloc (.cells #[fnV k] 67) := by
  subst hN; exact mkof_any k w

/-- The commands while they are being made. -/
structure CmdI (w0 w : World) (M n : Nat) (kv : List (ByteArray × Value)) (bl : List (Nat × Nat)) : Prop where
  map : CmdW w M kv
  size : w.heap.size = M + n
  below : Below M w0 w
  blk : ∀ p ∈ bl, Blk w (M + p.1) 67 #[fnV p.2]
  pos : ∀ p ∈ bl, 0 < p.1
theorem CmdI.new (w : World) : CmdI w (w.alloc (.map #[] 0)) w.heap.size 1 [] [] :=
  ⟨CmdW.new w, World.size_alloc _ _, (Below.refl _ _).alloc (Nat.le_refl _) _, (fun p h => by cases h), (fun p h => by cases h)⟩
theorem CmdI.next {w0 w : World} {M n : Nat} {kv : List (ByteArray × Value)} {bl : List (Nat × Nat)} (h : CmdI w0 w M n kv bl) (hn : 0 < n) (k : Nat) : CmdI w0 (w.alloc (.cells #[fnV k] 67)) M (n + 1) kv (bl ++ [(n, k)]) := by
  refine ⟨?_, by rw [World.size_alloc, h.size]; omega, h.below.alloc (by rw [h.size]; omega) _, fun p hp => ?_, fun p hp => ?_⟩
  · obtain ⟨es, clock, h1, h2⟩ := h.map
    exact ⟨es, clock, (Below.heap_alloc w _ M h.map.lt).trans h1, h2⟩
  · rcases List.mem_append.1 hp with hp | hp
    · exact (h.blk p hp).alloc _
    · rw [List.mem_singleton.1 hp]
      have := Blk.new w 67 #[fnV k]
      rw [h.size] at this
      exact this
  · rcases List.mem_append.1 hp with hp | hp
    · exact h.pos p hp
    · rw [List.mem_singleton.1 hp]; exact hn
theorem CmdI.ins {w0 w : World} {M n : Nat} {kv : List (ByteArray × Value)} {bl : List (Nat × Nat)} (h : CmdI w0 w M n kv bl) (x : ByteArray) (v : Value) (hn : findC kv x = none) :
    ∃ w', (Instr.mapUpdate 41 (.map (some M)) (.string x) v).run Tryz.prog w = .ok () w' ∧ CmdI w0 w' M n (kv ++ [(x, v)]) bl := by
  obtain ⟨w', h1, h2, h3, h4⟩ := h.map.update x v hn
  refine ⟨w', h1, h2, by rw [h4, h.size], h.below.grown h3 (by rw [h.size]; omega) (fun g e => by cases e; exact Nat.le_refl _), fun p hp => (h.blk p hp).grown h3 (fun e => ?_), h.pos⟩
  have := h.pos p hp
  injection e with e
  omega

def nSha : ByteArray := ⟨#[115, 104, 97]⟩
def nLeaf : ByteArray := ⟨#[108, 101, 97, 102]⟩
def nObject : ByteArray := ⟨#[111, 98, 106, 101, 99, 116]⟩
def nFile : ByteArray := ⟨#[102, 105, 108, 101]⟩
def nRoot : ByteArray := ⟨#[114, 111, 111, 116]⟩
def nSplit : ByteArray := ⟨#[115, 112, 108, 105, 116]⟩
def cmdKV (M : Nat) : List (ByteArray × Value) := [(nSha, ofV (M + 1)), (nLeaf, ofV (M + 2)), (nObject, ofV (M + 3)), (nFile, ofV (M + 4)), (nRoot, fnV 37), (nSplit, fnV 38)]
/-- The commands' map stands at M. -/
structure Cmds (w : World) (M : Nat) : Prop where
  map : CmdW w M (cmdKV M)
  b1 : Blk w (M + 1) 67 #[fnV 28]
  b2 : Blk w (M + 2) 67 #[fnV 31]
  b3 : Blk w (M + 3) 67 #[fnV 33]
  b4 : Blk w (M + 4) 67 #[fnV 35]
theorem Cmds.below {w w' : World} {M : Nat} (h : Cmds w M) (hb : Below w.heap.size w w') : Cmds w' M :=
  ⟨h.map.below hb h.map.lt, h.b1.below hb h.b1.lt, h.b2.below hb h.b2.lt, h.b3.below hb h.b3.lt, h.b4.below hb h.b4.lt⟩
theorem Cmds.of {w0 w : World} {M n : Nat} {bl : List (Nat × Nat)} (h : CmdI w0 w M n (cmdKV M) bl) (hb : bl = [(1, 28), (2, 31), (3, 33), (4, 35)]) : Cmds w M := by
  subst hb
  exact ⟨h.map, h.blk (1, 28) (by simp), h.blk (2, 31) (by simp), h.blk (3, 33) (by simp), h.blk (4, 35) (by simp)⟩
theorem findC_no (kv : List (ByteArray × Value)) (x : ByteArray) (h : ∀ p ∈ kv, x ≠ p.1) : findC kv x = none := by
  unfold findC
  rw [List.find?_eq_none.2 (fun p hp => by simpa using h p hp)]; rfl

set_option maxRecDepth 100000 in
set_option maxHeartbeats 8000000 in
theorem cmds_any (w : World) : Calls Tryz.prog 14 #[] w fun e w' => e = .returned (.map (some w.heap.size)) ∧ Cmds w' w.heap.size ∧ Below w.heap.size w w' := by
  have hmm := @run_makeMap Tryz.prog
  have h0 := CmdI.new w
  have H0 := Lib.hid h0
  clear h0
  go_enter Tryz.func14, Tryz.ntmps14
  go_wp2_with fail
  refine (mkof_at 28 _ (w.heap.size + 1) H0.out.size).mono ?_
  rintro e _ ⟨rfl, rfl⟩
  have h1 := H0.out.next (by omega) 28
  obtain ⟨v1, r1, h2⟩ := h1.ins nSha (ofV (w.heap.size + 1)) rfl
  have HH1 := Lib.hid (And.intro r1 h2)
  have H1 := Lib.hid h2
  clear h1 h2 r1
  go_wp2_with (refine wpList_ins (.map (some w.heap.size)) (.string nSha) (ofV (w.heap.size + 1)) rfl rfl rfl HH1.out.1 ?_)
  refine (mkof_at 31 _ (w.heap.size + 2) H1.out.size).mono ?_
  rintro e _ ⟨rfl, rfl⟩
  have h3 := H1.out.next (by omega) 31
  obtain ⟨v2, r2, h4⟩ := h3.ins nLeaf (ofV (w.heap.size + 2)) (findC_no _ _ (by intro p hp; simp only [List.mem_append, List.mem_cons, List.not_mem_nil, or_false, false_or] at hp; rcases hp with rfl <;> simp [nSha, nLeaf, nObject, nFile, nRoot, nSplit]))
  have HH2 := Lib.hid (And.intro r2 h4)
  have H2 := Lib.hid h4
  clear h3 h4 r2
  go_wp2_with (refine wpList_ins (.map (some w.heap.size)) (.string nLeaf) (ofV (w.heap.size + 2)) rfl rfl rfl HH2.out.1 ?_)
  refine (mkof_at 33 _ (w.heap.size + 3) H2.out.size).mono ?_
  rintro e _ ⟨rfl, rfl⟩
  have h5 := H2.out.next (by omega) 33
  obtain ⟨v3, r3, h6⟩ := h5.ins nObject (ofV (w.heap.size + 3)) (findC_no _ _ (by intro p hp; simp only [List.mem_append, List.mem_cons, List.not_mem_nil, or_false, false_or] at hp; rcases hp with (rfl | rfl) <;> simp [nSha, nLeaf, nObject, nFile, nRoot, nSplit]))
  have HH3 := Lib.hid (And.intro r3 h6)
  have H3 := Lib.hid h6
  clear h5 h6 r3
  go_wp2_with (refine wpList_ins (.map (some w.heap.size)) (.string nObject) (ofV (w.heap.size + 3)) rfl rfl rfl HH3.out.1 ?_)
  refine (mkof_at 35 _ (w.heap.size + 4) H3.out.size).mono ?_
  rintro e _ ⟨rfl, rfl⟩
  have h7 := H3.out.next (by omega) 35
  obtain ⟨v4, r4, h8⟩ := h7.ins nFile (ofV (w.heap.size + 4)) (findC_no _ _ (by intro p hp; simp only [List.mem_append, List.mem_cons, List.not_mem_nil, or_false, false_or] at hp; rcases hp with ((rfl | rfl) | rfl) <;> simp [nSha, nLeaf, nObject, nFile, nRoot, nSplit]))
  have HH4 := Lib.hid (And.intro r4 h8)
  have H4 := Lib.hid h8
  clear h7 h8 r4
  obtain ⟨v5, r5, h9⟩ := H4.out.ins nRoot (fnV 37) (findC_no _ _ (by intro p hp; simp only [List.mem_append, List.mem_cons, List.not_mem_nil, or_false, false_or] at hp; rcases hp with (((rfl | rfl) | rfl) | rfl) <;> simp [nSha, nLeaf, nObject, nFile, nRoot, nSplit]))
  obtain ⟨v6, r6, h10⟩ := h9.ins nSplit (fnV 38) (findC_no _ _ (by intro p hp; simp only [List.mem_append, List.mem_cons, List.not_mem_nil, or_false, false_or] at hp; rcases hp with ((((rfl | rfl) | rfl) | rfl) | rfl) <;> simp [nSha, nLeaf, nObject, nFile, nRoot, nSplit]))
  have HH5 := Lib.hid (And.intro r5 (And.intro r6 h10))
  clear r5 r6 h9 h10
  go_wp2_with (first
    | refine wpList_ins (.map (some w.heap.size)) (.string nFile) (ofV (w.heap.size + 4)) rfl rfl rfl HH4.out.1 ?_
    | refine wpList_ins (.map (some w.heap.size)) (.string nRoot) (fnV 37) rfl rfl rfl HH5.out.1 ?_
    | refine wpList_ins (.map (some w.heap.size)) (.string nSplit) (fnV 38) rfl rfl rfl HH5.out.2.1 ?_)
  go_ret
  exact ⟨rfl, Cmds.of HH5.out.2.2 rfl, HH5.out.2.2.below⟩
end Go.Proofs.YtmhbkilpllgchaaGreatDoor
namespace Go.Proofs.YtmhbkilpllgchaaGreatDoor
open Go.RowKit BigFrame
set_option linter.unusedVariables false
set_option linter.unusedSimpArgs false

theorem t_Builder_WriteString_k (B b : Nat) (bs : List Value) (s : ByteArray) (w : World) (h : Lib.IsBuilderF 45 5 B b bs w) (hlen : bs.length + s.size ≤ 140737488355328) (hBw : B ≤ w.heap.size) :
    Calls Tryz.prog 19 #[.pointer (some ⟨b, 0, none⟩), .string s] w fun e w' => e = .returned (.tuple #[.int .i64 s.size, .nilIface]) ∧ (Lib.BuilderAtF 45 5 B b (.pointer (some ⟨b, 0, none⟩)) (bs ++ Lib.strCells s) w' ∧ Below B w w' ∧ Lib.OthersKept 5 (some b) w w') :=
  Any.Builder_WriteString_k (ρ := tLays156_ren) { tLays156 with } t_Builder_Extra_156 B b bs s w h hlen hBw
end Go.Proofs.YtmhbkilpllgchaaGreatDoor
