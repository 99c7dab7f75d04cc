/- ftree.Load. -/
import Derived.Test.YtmhbkilpllgchaaFtM
namespace Go.Proofs.Ytmhbkilpllgchaa
open Go.RowKit BigFrame
set_option linter.unusedVariables false
set_option linter.unusedSimpArgs false

theorem readK_size (ss : List ByteArray) (hz : ∀ s ∈ ss, s.size ≤ 140737488351232) : ∀ p ∈ readK ss, p.2.size ≤ 140737488351232 := by
  have : ∀ (ss : List ByteArray) (kv : KV), (∀ s ∈ ss, s.size ≤ 140737488351232) → (∀ p ∈ kv, p.2.size ≤ 140737488351232) → ∀ p ∈ ss.foldl (fun kv s => if objOk s then tabK kv (objH s) s else kv) kv, p.2.size ≤ 140737488351232 := by
    intro ss
    induction ss with
    | nil => intro kv _ h; exact h
    | cons s ss ih =>
      intro kv h1 h2
      refine ih _ (fun x hx => h1 x (List.mem_cons_of_mem _ hx)) ?_
      intro p hp
      dsimp only at hp
      by_cases g : objOk s
      · rw [if_pos g, tabK] at hp
        split at hp
        · exact h2 p hp
        · rcases List.mem_append.1 hp with hp | hp
          · exact h2 p hp
          · rw [List.mem_singleton.1 hp]; exact h1 s (by simp)
      · rw [if_neg g] at hp; exact h2 p hp
  exact this ss [] hz (fun p h => by cases h)

def loadZ (kv : KV) (root : List UInt8) (z : Int) : LR := if z < 0 ∨ 4096 < z then ⟨⟨#[]⟩, [], 1200⟩ else loadR kv root z.toNat

set_option maxRecDepth 100000 in
set_option maxHeartbeats 4000000 in
theorem loadfrom_form {w : World} (tv : Value) (root : List UInt8) (z : Int) (hz : z < 0 ∨ 4096 < z) :
    Calls Try.prog 90 #[.agg (bcells root), .int .i64 z, tv] w fun e w' => e = .returned (.tuple #[.string ⟨#[]⟩, .slice none 0 0, .int .i64 1200]) ∧ Below w.heap.size w w' := by
  have hb0 : Below w.heap.size w (w.alloc (.cells (bcells root) 29)) := (Below.refl _ _).alloc (Nat.le_refl _) _
  have HB := Lib.hid hb0
  clear hb0
  go_enter Try.func90, Try.ntmps90
  rcases hz with hz | hz
  · have hz2 : ¬ 4096 < z := by omega
    go_wp2
    exact bodyPost_ret (v := .tuple #[.string ⟨#[]⟩, .slice none 0 0, .int .i64 1200]) (by simp [results, Try.f90, go_sem]) rfl ⟨rfl, HB.out⟩
  · have hz2 : ¬ z < 0 := by omega
    go_wp2
    exact bodyPost_ret (v := .tuple #[.string ⟨#[]⟩, .slice none 0 0, .int .i64 1200]) (by simp [results, Try.f90, go_sem]) rfl ⟨rfl, HB.out⟩

theorem loadfrom_z {w : World} {Bt : Nat} {kv : KV} (hM : MapW w Bt kv) (hkv : ∀ p ∈ kv, p.2.size ≤ 140737488351232) (root : List UInt8) (hr : root.length = 32) (z : Int) :
    Calls Try.prog 90 #[.agg (bcells root), .int .i64 z, .map (some Bt)] w fun e w' => ∃ p n c, e = .returned (.tuple #[.string (loadZ kv root z).out, .slice p n c, .int .i64 (loadZ kv root z).er]) ∧ n = (loadZ kv root z).ws.length ∧
      w'.ownsRow w.heap.size 29 32 (.slice p n c) n (hcells (loadZ kv root z).ws) ∧ Below w.heap.size w w' := by
  unfold loadZ
  by_cases g : z < 0 ∨ 4096 < z
  · rw [if_pos g]
    exact (loadfrom_form (.map (some Bt)) root z g).mono fun e w' h => ⟨none, 0, 0, h.1, rfl, World.ownsRow_nil _ _ _ _, h.2⟩
  · rw [if_neg g]
    have : (z.toNat : Int) = z := by omega
    have h := loadfrom_any hM hkv root hr z.toNat (by omega)
    rw [this] at h
    exact h

section
variable {P : Program} {ops : Array Oper} {Q : Exit → Act → World → Prop}
/-- A call of a function that returns. -/
theorem wpOp_fn {n : Nat} {K : Act → World → Prop} {a : Act} {w : World} {d f : Nat} {xs : Array Operand} {ts : Array TypeId} {ot : TypeId} {pos : String} {after : Array Edge} {fn : Func} {c : Code} (vals : Array Value)
    (hf : P.funcs[f]? = some fn) (hb : fn.body = some c) (hnm : (fn.name == "runtime.NumGoroutine") = false)
    (hn : ops[n]? = some ⟨some d, .call { callee := .value (.func f), args := xs, argTypes := ts }, ot, pos, after, none⟩) (hx : xs.map a.eval = vals)
    (h : Calls P f vals w fun e w' => ∃ v, e = .returned v ∧ K ⟨a.tmps.setIfInBounds d v, a.defers⟩ w') : wpOp P ops Q n K a w := by
  unfold wpOp
  simp only [hn]
  rw [if_pos (show Region.wanted ⟨some d, .call { callee := .value (.func f), args := xs, argTypes := ts }, ot, pos, after, none⟩ (yielded ops a.tmps) = true from rfl)]
  refine .inl ?_
  unfold Oper.wp
  rw [execOp_call_go]
  have hn' : ¬ fn.name = "runtime.NumGoroutine" := by simpa using hnm
  have e : (callFunc f (#[] ++ xs.map a.eval ++ #[])).run P w = .ok (.enter f (xs.map a.eval)) w := by
    simp [callFunc, program, Sem.run, bind, Sem.bind, pure, hf, hn', hb]
  rw [e, Oper.upon_enter, hx]
  refine h.mono fun e w' ⟨v, he, hK⟩ => ?_
  subst he
  exact hK
end

/-- May the operations that touch memory be taken so, and reads behind them? -/
def memB2 (md : Region.Mode) (ops : Array Oper) (n : Nat) (q2 : List Nat) : List Nat → Array Bool → Bool
  | [], listed => takeB md ops n [] q2 listed
  | m :: ms, listed => decide (m < n) && decide (Region.ready md ops listed = [m]) && memB2 md ops n q2 ms (listed.setIfInBounds m true)
def takeB2 (md : Region.Mode) (ops : Array Oper) (n : Nat) (q2 ms : List Nat) : List Nat → Array Bool → Bool
  | [], listed => memB2 md ops n q2 ms listed
  | q :: qs, listed => decide (q < n) && (Region.ready md ops listed).contains q && Region.free md ops listed q && takeB2 md ops n q2 ms qs (listed.setIfInBounds q true)
section
variable {P : Program} {md : Region.Mode} {S : World → Prop} {Q : Exit → Act → World → Prop}
theorem headH_mem2 {l : List Oper} {n : Nat} {q2 : List Nat} {L : Array Bool → Act → World → Prop} {Lw : Act → World → Prop} (hsel : Region.noSelect l.toArray = true) (hQ : ∀ c (a : Act) d v w, Q (.panic c) (a.put d v) w → Q (.panic c) a w)
    (hs : Region.sinkB md l.toArray n = true) (hc : Region.chainB md l.toArray n = true) (hn : n < l.toArray.size)
    (hdone : ∀ listed a w, L listed a w → ∀ j ∈ Region.ready md l.toArray listed, n ≤ j)
    (hlast : ∀ listed a w, Region.seqB md l.toArray (l.toArray.size - n) n listed = true → Lw a w → L listed a w) :
    ∀ (ms : List Nat) (listed : Array Bool) (a : Act) (w : World), HeadInv md l.toArray n listed → memB2 md l.toArray n q2 ms listed = true → S w →
    wpMem P l.toArray Q S (fun a' w' => wpTake P l.toArray S (fun a'' => Lw a'' w') (pick l q2) a') ms a w →
    HeadH P md l.toArray Q S n L (ms.length + q2.length) listed a w
  | [], listed, a, w, inv, hB, hS, h => by
    rw [List.length_nil, Nat.zero_add]
    exact headH_take (ms := []) hsel hQ hs hc hn hdone hlast q2 listed a w inv hB hS h
  | m :: ms, listed, a, w, inv, hB, hS, h => by
    simp only [memB2, Bool.and_eq_true, decide_eq_true_eq] at hB
    rw [show (m :: ms).length + q2.length = (ms.length + q2.length) + 1 by simp only [List.length_cons]; omega]
    refine ⟨fun h0 => (by rw [hB.1.2] at h0; cases h0), fun i hi => ?_⟩
    have hi' := hi
    rw [hB.1.2] at hi
    obtain rfl : i = m := by simpa using hi
    exact ⟨hB.1.1, wpOp_mono (fun a' w' h' => ⟨h'.1, headH_mem2 hsel hQ hs hc hn hdone hlast ms _ a' w' (inv.set hi' hB.1.1) hB.2 h'.1 h'.2⟩) h⟩
theorem headH_take2 {l : List Oper} {n : Nat} {q2 ms : List Nat} {L : Array Bool → Act → World → Prop} {Lw : Act → World → Prop} (hsel : Region.noSelect l.toArray = true) (hQ : ∀ c (a : Act) d v w, Q (.panic c) (a.put d v) w → Q (.panic c) a w)
    (hs : Region.sinkB md l.toArray n = true) (hc : Region.chainB md l.toArray n = true) (hn : n < l.toArray.size)
    (hdone : ∀ listed a w, L listed a w → ∀ j ∈ Region.ready md l.toArray listed, n ≤ j)
    (hlast : ∀ listed a w, Region.seqB md l.toArray (l.toArray.size - n) n listed = true → Lw a w → L listed a w) :
    ∀ (qs : List Nat) (listed : Array Bool) (a : Act) (w : World), HeadInv md l.toArray n listed → takeB2 md l.toArray n q2 ms qs listed = true → S w →
    wpTake P l.toArray S (fun a' => wpMem P l.toArray Q S (fun a' w' => wpTake P l.toArray S (fun a'' => Lw a'' w') (pick l q2) a') ms a' w) (pick l qs) a →
    HeadH P md l.toArray Q S n L (qs.length + (ms.length + q2.length)) listed a w
  | [], listed, a, w, inv, hB, hS, h => by
    rw [List.length_nil, Nat.zero_add]
    exact headH_mem2 hsel hQ hs hc hn hdone hlast ms listed a w inv hB hS h
  | q :: qs, listed, a, w, inv, hB, hS, h => by
    simp only [takeB2, Bool.and_eq_true, decide_eq_true_eq] at hB
    obtain ⟨⟨⟨hqn, hr⟩, hf⟩, hB'⟩ := hB
    have hql : q < l.length := by have : n < l.length := by simpa using hn
                                  omega
    have h0 : l.toArray[q]? = some l[q] := by simp [hql]
    have hr' : q ∈ Region.ready md l.toArray listed := by simpa using hr
    have hp : pick l (q :: qs) = l[q] :: pick l qs := by
      simp [pick, List.getElem?_eq_getElem hql]
    rw [hp] at h
    obtain ⟨v, hy, hK⟩ := h
    rw [show (q :: qs).length + (ms.length + q2.length) = (qs.length + (ms.length + q2.length)) + 1 by simp only [List.length_cons]; omega]
    exact headH_first h0 (Region.noSelect_spec hsel) (fun c a w => hQ c a _ _ w) hs hc hn hqn hdone (qs.length + (ms.length + q2.length)) listed a w inv (Region.free_spec h0 hf) hr' hy hS
      (headH_take2 hsel hQ hs hc hn hdone hlast qs _ _ w (inv.set hr' hqn) hB' hS hK)
def regTB2 (md : Region.Mode) (ops : Array Oper) (n : Nat) (qs ms q2 : List Nat) : Bool :=
  Region.noSelect ops && decide (n < ops.size) && Region.sinkB md ops n && Region.chainB md ops n && decide (qs.length + (ms.length + q2.length) = n) && takeB2 md ops n q2 ms qs (Array.replicate ops.size false)

/-- READS FIRST, THEN WHAT TOUCHES MEMORY, THEN READS AGAIN, THEN A TAIL IN ONE ROW. -/
theorem wp_region_take2 {id : Nat} {a : Act} {w : World} {l : List Oper} (S : World → Prop) (qs ms q2 : List Nat) (n : Nat) (hm : P.follows .mixedOrders = true) (hB : regTB2 .any l.toArray n qs ms q2 = true)
    (hQ : ∀ c (a : Act) d v w, Q (.panic c) (a.put d v) w → Q (.panic c) a w) (hS : S w.drew)
    (h : wpTake P l.toArray S (fun a' => wpMem P l.toArray Q S (fun a' w' => wpTake P l.toArray S (fun a'' => wpList P l.toArray Q (l.drop n) a'' w') (pick l q2) a') ms a' w.drew) (pick l qs) a) : (Code.region id l.toArray true).wp P Q a w := by
  simp only [regTB2, Bool.and_eq_true, decide_eq_true_eq] at hB
  obtain ⟨⟨⟨⟨⟨hsel, hn⟩, hs⟩, hc⟩, hlen⟩, hlex⟩ := hB
  have hn' : n < l.length := by simpa using hn
  have hdl : (l.drop n).length = l.toArray.size - n := by simp
  have inv0 : HeadInv .any l.toArray n (Array.replicate l.toArray.size false) :=
    ⟨by simp, fun j oj _ hl => (by rw [getD_replicate_false] at hl; cases hl), fun t _ ht => getD_in (by simpa using ht) (getD_replicate_false _ _)⟩
  have H := headH_take2 (P := P) (md := .any) (Q := Q) (S := S) (n := n) (ms := ms) (q2 := q2) (L := fun listed a w => Region.seqB .any l.toArray (l.toArray.size - n) n listed = true ∧ wpList P l.toArray Q (l.drop n) a w)
    hsel hQ hs hc hn (fun listed a w hL => seqB_ready hL.1) (fun listed a w h1 h2 => ⟨h1, h2⟩) qs _ a _ inv0 hlex hS h
  refine wp_region_any hm ?_
  have := headH_any (g := l.toArray.size - n) (fun listed a' w' hL => by
    have := wpAny_of_seq (md := .any) (Q' := Q) (l.drop n) n listed a' w' (fun j => by simp [List.getElem?_drop]) (by rw [hdl]; exact hL.1) hL.2
    rwa [hdl] at this) _ _ _ _ H
  rw [hlen, show n + (l.toArray.size - n) = l.toArray.size by omega] at this
  exact this
end

set_option maxRecDepth 100000 in
set_option maxHeartbeats 8000000 in
theorem load_any {w : World} {pa : Option Addr} {ss : List ByteArray} (c : Nat) (hn : ss.length * 16 ≤ 140737488351232) (hx : Strs w pa ss) (hz : ∀ s ∈ ss, s.size ≤ 140737488351232) (root : List UInt8) (hr : root.length = 32) (z : Int) :
    Calls Try.prog 69 #[.agg (bcells root), .int .i64 z, .slice pa ss.length c] w fun e w' => ∃ p n c, e = .returned (.tuple #[.string (loadZ (readK ss) root z).out, .slice p n c, .int .i64 (loadZ (readK ss) root z).er]) ∧ n = (loadZ (readK ss) root z).ws.length ∧
      w'.ownsRow w.heap.size 29 32 (.slice p n c) n (hcells (loadZ (readK ss) root z).ws) ∧ Below w.heap.size w w' := by
  obtain ⟨R, eR⟩ : ∃ R, R = loadZ (readK ss) root z := ⟨_, rfl⟩
  obtain ⟨KS, eK⟩ : ∃ K, K = readK ss := ⟨_, rfl⟩
  rw [← eK] at eR
  have hkv := readK_size ss hz
  rw [← eK] at hkv
  have hX0 : Blk (w.alloc (.cells (bcells root) 29)) w.heap.size 29 (bcells root) := Blk.new _ _ _
  have hb0 : Below w.heap.size w (w.alloc (.cells (bcells root) 29)) := (Below.refl _ _).alloc (Nat.le_refl _) _
  have c91 : ∀ w', Below w.heap.size w w' → Calls Try.prog 91 #[.slice pa ss.length c] w' fun e w'' => ∃ Bt, e = .returned (.map (some Bt)) ∧ w'.heap.size ≤ Bt ∧ MapW w'' Bt KS ∧ Below w'.heap.size w' w'' := fun w' hb => by
    rw [eK]
    exact read_any pa ss c w' hn (hx.below hb) (fun j hj => hz _ (by rw [List.getD, List.getElem?_eq_getElem hj]; exact List.getElem_mem hj))
  obtain ⟨n, en⟩ : ∃ n, n = ss.length := ⟨_, rfl⟩
  rw [← en] at c91
  rw [← eK, ← eR, ← en]
  have H := Lib.hid (And.intro hX0 (And.intro hb0 (And.intro c91 (And.intro hkv eR))))
  clear hX0 hb0 c91 hkv eR eK hn hx hz en
  go_enter Try.func69, Try.ntmps69
  go_upto_region 1 with fail
  obtain ⟨w1, e1⟩ : ∃ w1, w1 = w.alloc (.cells (bcells root) 29) := ⟨_, rfl⟩
  rw [← e1] at H ⊢
  clear e1
  refine wp_region_take2 (fun w' => Blk w' w.heap.size 29 (bcells root)) [0, 1, 2] [3, 4] [5, 6, 7] 8 (by kernel_rfl) (by kernel_rfl) (by intro c a d v w h; dsimp (config := { zetaDelta := true }) only [Exit.then, bodyPost] at h ⊢; cases d <;> exact h) H.out.1.drew ?_
  simp only [pick, List.filterMap_cons, List.getElem?_cons_succ, List.getElem?_cons_zero, List.filterMap_nil, List.drop_succ_cons, List.drop_zero]
  refine wpTake_row (d := 9) w.heap.size (bcells root) 29 rfl (fun w' h => h) Try.underlying29 rfl (by rw [size29, bcells_size, hr]) ?_
  simp only [List.setIfInBounds_toArray, List.set_cons_succ, List.set_cons_zero]
  repeat (apply wpTake_step; (focus (intro w' hS; clear hS; go_simp; (try with_reducible rfl))); simp only [List.setIfInBounds_toArray, List.set_cons_succ, List.set_cons_zero])
  refine wpTake_nil ?_
  refine wpOp_fn (d := 12) (f := 91) (fn := Try.f91) #[.slice pa n c] Try.func91 rfl (by kernel_rfl) rfl (by rw [List.map_toArray]; rfl) ?_
  refine (H.out.2.2.1 w1.drew H.out.2.1.drew).mono ?_
  rintro e w2 ⟨Bt, rfl, hBt, hM2, hb2⟩
  refine ⟨_, rfl, H.out.1.drew.below hb2 (by have := H.out.1.lt; simpa using this), ?_⟩
  have c90 := loadfrom_z hM2 H.out.2.2.2.1 root hr z
  rw [← H.out.2.2.2.2] at c90
  have hbw2 : Below w.heap.size w w2 := H.out.2.1.drew.trans (hb2.mono (by have := H.out.2.1.size; simpa using this))
  have hX2 : Blk w2 w.heap.size 29 (bcells root) := H.out.1.drew.below hb2 (by have := H.out.1.lt; simpa using this)
  have HC := Lib.hid (And.intro c90 (And.intro hbw2 hX2))
  clear c90 hbw2 hM2 hb2 hBt hX2
  refine wpOp_fn (d := 13) (f := 90) (fn := Try.f90) #[.agg (bcells root), .int .i64 z, .map (some Bt)] Try.func90 rfl (by kernel_rfl) rfl (by rw [List.map_toArray]; rfl) ?_
  refine HC.out.1.mono ?_
  rintro e w3 ⟨p, n3, c3, rfl, hn3, hR3, hb3⟩
  refine ⟨_, rfl, HC.out.2.2.below hb3 HC.out.2.2.lt, ?_⟩
  refine wpMem_nil ?_
  have HD := Lib.hid (And.intro hn3 (And.intro hR3 hb3))
  clear hn3 hR3 hb3
  simp only [pick, List.filterMap_cons, List.getElem?_cons_succ, List.getElem?_cons_zero, List.filterMap_nil, List.drop_succ_cons, List.drop_zero]
  repeat (apply wpTake_step; (focus (intro w' hS; clear hS; go_simp; (try with_reducible rfl))); simp only [List.setIfInBounds_toArray, List.set_cons_succ, List.set_cons_zero])
  refine wpTake_nil ?_
  go_wp2
  exact bodyPost_ret (v := .tuple #[.string R.out, .slice p n3 c3, .int .i64 R.er]) (by simp [results, Try.f69, go_sem]) rfl ⟨p, n3, c3, rfl, HD.out.1, row_mono HD.out.2.1 HC.out.2.1.size, HC.out.2.1.trans (HD.out.2.2.mono HC.out.2.1.size)⟩
end Go.Proofs.Ytmhbkilpllgchaa
