/- ftree.Build. -/
import Derived.Test.YtmhbkilpllgchaaGreatDoorFtCuts
import Derived.Lib.ConvBytes
namespace Go.Proofs.YtmhbkilpllgchaaGreatDoor
open Go.RowKit BigFrame
set_option linter.unusedVariables false
set_option linter.unusedSimpArgs false

theorem results_row_slots {P : Program} {fn : Func} {p q r : Tmp} {ty : TypeId} (h : fn.results = #[.cell p ty, .tmp q, .tmp r]) (tmps : Array Value) (w : World) (g : Nat) (t : TypeId) (cs : Array Value) (fr : Nat × Nat) (d : TypeDesc)
    (hp : tmps.getD p undef = .pointer (some ⟨g, 0, none⟩)) (hg : w.heap[g]? = some (.cells cs t fr))
    (hu : P.underlying ty = some d) (hd : (match d with | .struct _ | .array _ _ => true | _ => false) = true) (hi : (P.info? ty).map (·.size) = some cs.size) :
    (results fn tmps).run P w = .ok (.tuple #[.agg cs, tmps.getD q undef, tmps.getD r undef]) w := by
  have hp' : tmps[p]?.getD undef = .pointer (some ⟨g, 0, none⟩) := by simpa using hp
  simp [results, h, hp', asAddr, run_loadVar_row w g t ty cs fr d hg hu hd hi]
theorem row_mono {w : World} {b b' : Nat} {e : TypeId} {size n : Nat} {v : Value} {xs : List Value} (h : w.ownsRow b e size v n xs) (hb : b' ≤ b) : w.ownsRow b' e size v n xs := by
  refine ⟨h.1, ?_⟩
  rcases h.2 with h2 | ⟨g, cap, cur, rfl, h1, hh, h3, h4, h5, h6⟩
  · exact .inl h2
  · exact .inr ⟨g, cap, cur, rfl, by omega, hh, h3, h4, h5, h6⟩
theorem LApart.low {w : World} {base Bl : Nat} {all : List ByteArray} (h : LstAt w base Bl all) {i : Nat} (hi : i < base) : LApart w Bl i := by
  obtain ⟨p, c, sv, hB, hR, hne, hs⟩ := h.ex
  refine ⟨by have := h.ge; omega, fun p' n' c' e g => ?_, fun B e g => ?_⟩
  · have e1 := hB.cell 0
    rw [e] at e1
    injection e1 with e1
    rw [e1] at g
    have := (hR.lt i g).1
    omega
  · have e1 := hB.cell 1
    rw [e] at e1
    have e2 : sv = some B := by
      have : some (Value.map (some B)) = some (Value.map sv) := e1
      injection this with this
      injection this with this
      exact this.symm
    rcases hs with ⟨h1, _⟩ | ⟨B', h1, h2, h3, _⟩
    · rw [h1] at e2; cases e2
    · rw [h1] at e2
      obtain rfl : B' = B := Option.some.inj e2
      omega
theorem cutL_mem {α : Type} {k : Nat} (hk : 0 < k) : ∀ (f : Nat) (l : List α), l.length ≤ f → ∀ c ∈ cutL k l, ∀ x ∈ c, x ∈ l
  | 0, l, h, c, hc, x, hx => by
    have : l = [] := List.length_eq_zero_iff.1 (by omega)
    subst this
    rw [cutL_nil] at hc; cases hc
  | f + 1, l, h, c, hc, x, hx => by
    by_cases e : l = []
    · subst e
      rw [cutL_nil] at hc; cases hc
    · have hl : 0 < l.length := List.length_pos_iff.2 e
      rw [cutL_cons hk l e] at hc
      rcases List.mem_cons.1 hc with rfl | hc
      · exact List.mem_of_mem_take hx
      · exact List.mem_of_mem_drop (cutL_mem hk f (l.drop k) (by rw [List.length_drop]; omega) c hc x hx)
/-- A conversion at the operation. -/
theorem wpList_cvt {P : Program} {ops : Array Oper} {rest : List Oper} {a : Act} {w w' : World} {Q : Exit → Act → World → Prop} {s t : TypeId} {x : Operand} {d : Nat} {ot : TypeId} {pos : String} {after : Array Edge} (v v' : Value)
    (hx : a.eval x = v) (hrun : (convert s t v).run P w = .ok v' w') (h : wpList P ops Q rest ⟨a.tmps.setIfInBounds d v', a.defers⟩ w') : wpList P ops Q (⟨some d, .convert s t x, ot, pos, after, none⟩ :: rest) a w := by
  refine wpList_plain rfl fun K' hK' => ?_
  unfold Oper.wp execOp
  simp only [hx, hrun, Sem.run_bind, Sem.run_pure, Result.andThen_ok]
  exact hK' _ _ h
theorem bytes_below (w : World) (s : ByteArray) : Below w.heap.size w (Lib.bytesWorld w 5 s) := by
  refine ⟨?_, ?_, ?_, by rw [Lib.bytesWorld_size]; omega, fun i hi => Lib.bytesWorld_at_old w 5 s i hi⟩ <;> (simp only [Lib.bytesWorld, World.freeze]; split <;> rfl)
theorem bytes_range (w : World) (s : ByteArray) : (Lib.bytesWorld w 5 s).rangeAt w.heap.size 0 (s.data.toList.map B) := fun j v hv => by
  have hj : j < s.size := by
    have := (List.getElem?_eq_some_iff.1 hv).1
    simpa using this
  rw [Nat.zero_add, Lib.bytesWorld_cell w 5 s j hj, ← hv, List.getElem?_map]
  have hj' : j < s.data.toList.length := hj
  rw [List.getElem?_eq_getElem hj', List.getD, List.getElem?_eq_getElem hj']
  rfl

theorem grown_row1' (w : World) (g : Nat) (cs : Array Value) : w.grownBy (w.setRow g cs) (some g) := ⟨rfl, rfl, rfl, by simp, fun k _ hk => setRow_other w g k cs (fun e => hk (by rw [e]))⟩
/-- A whole array into its block, at a numbered operation. -/
theorem wpOp_st_row {P : Program} {ops : Array Oper} {Q : Exit → Act → World → Prop} {n : Nat} {K : Act → World → Prop} {a : Act} {w : World} {ty ot : TypeId} {x y : Operand} {pos : String} {after : Array Edge} (hn : ops[n]? = some ⟨none, .store ty x y, ot, pos, after, none⟩) (g : Nat) (cells : Array Value)
    (hx : a.eval x = .pointer (some ⟨g, 0, none⟩)) (hy : a.eval y = .agg cells) (t : TypeId) (old : Array Value) (hg : Blk w g t old) (hi : (P.info? ty).map (·.size) = some cells.size)
    (hold : old.size = cells.size) (h1 : cells.all (·.oneCell') = true) (h : K a (w.setRow g cells)) : wpOp P ops Q n K a w := by
  unfold wpOp
  simp only [hn]
  rw [if_pos (show Region.wanted ⟨none, .store ty x y, ot, pos, after, none⟩ (yielded ops a.tmps) = true from rfl)]
  exact .inl (wp_store_row ty x y rfl g cells hx hy t old hg hi hold h1 h)
def z111 : Array Value := #[.slice none 0 0, .map none]
theorem buildH_len (L : List UInt8) : ∀ x ∈ buildH L, x.length = 32 := fun x hx => by
  obtain ⟨s, _, rfl⟩ := List.mem_map.1 hx
  exact objH_length s
theorem buildJ_len (L : List UInt8) : ∀ x ∈ buildJ L, x.length = 32 := fun x hx => by
  obtain ⟨s, _, rfl⟩ := List.mem_map.1 hx
  exact objH_length s
theorem buildH_few (L : List UInt8) (h : L.length ≤ 4096) : (buildH L).length ≤ 64 := by
  have := (cutL_len (k := 64) (by decide) L.length L (Nat.le_refl _)).2.2
  rw [buildH, buildB, List.length_map, List.length_map]
  omega
theorem buildJ_few (L : List UInt8) (h : L.length ≤ 4096) : (buildJ L).length ≤ 8 := by
  have h1 := (cutL_len (k := 8) (by decide) (buildH L).length (buildH L) (Nat.le_refl _)).2.2
  have h2 := buildH_few L h
  rw [buildJ, buildI, List.length_map, List.length_map]
  omega
/-- A row that was made reads as these hashes. -/
theorem hashAt_row {w : World} {base m c : Nat} {p : Option Addr} {hs : List (List UInt8)} (h : w.ownsRow base 36 32 (.slice p m c) m (hcells hs)) (hm : m = hs.length) (hl : ∀ L ∈ hs, L.length = 32) :
    ∃ D, (0 < m → (Value.slice p m c).ownBlock = some D ∧ p = some ⟨D, 0, none⟩ ∧ w.rangeAt D 0 (hcells hs)) ∧ HashAt w p hs := by
  by_cases g : 0 < m
  · obtain ⟨D, c', e, _, hlt, _, _⟩ := row_form h (by intro e; injection e with _ e _; omega)
    injection e with e1 _ e2
    subst e1; subst e2
    have hr : w.rangeAt D 0 (hcells hs) := fun i v hv => by
      have := h.cells (g := D) rfl i v hv
      rwa [Addr.add_mid] at this
    exact ⟨D, fun _ => ⟨rfl, rfl, hr⟩, .inr ⟨D, 0, rfl, hlt, hr⟩⟩
  · exact ⟨0, fun h => absurd h g, .inl (List.length_eq_zero_iff.1 (by omega))⟩

theorem row_cap {w : World} {base n c : Nat} {e : TypeId} {size : Nat} {p : Option Addr} {xs : List Value} (h : w.ownsRow base e size (.slice p n c) n xs) : n ≤ c ∧ c ≤ maxLen := by
  rcases h.2 with ⟨e1, _⟩ | ⟨g, cap, cur, e1, _, _, h1, h2, _, _⟩
  · injection e1 with _ e1 e2
    subst e1; subst e2
    exact ⟨Nat.le_refl _, Nat.zero_le _⟩
  · injection e1 with _ _ e2
    subst e2
    exact ⟨h1, h2⟩
theorem buildH_eq (L : List UInt8) : ((cutL 64 L).map fun x => objH (bT x)) = buildH L := by rw [buildH, buildB, List.map_map]; rfl
theorem buildJ_eq (L : List UInt8) : ((cutL 8 (buildH L)).map fun x => objH (nodeT 73 x)) = buildJ L := by rw [buildJ, buildI, List.map_map]; rfl

set_option maxRecDepth 100000 in
set_option maxHeartbeats 4000000 in
theorem build_big (s : ByteArray) (w : World) (hb : 4096 < s.size) (hs : s.size ≤ 140737488351232) : Calls Tryz.prog 36 #[.string s] w fun e w' => e = .returned (.tuple #[.agg (bcells zeros32), .slice none 0 0, .int .i64 1200]) ∧ Below w.heap.size w w' := by
  have hL : Blk (w.alloc (.cells z32 36)) w.heap.size 36 z32 := Blk.new _ _ _
  have hb1 : Below w.heap.size w ((w.alloc (.cells z32 36)).setRow w.heap.size z32) := below_setRow ((Below.refl _ _).alloc (Nat.le_refl _) _) (Nat.le_refl _) _
  have hb' : (4096 : Int) < (s.size : Int) := by omega
  clear hb
  go_enter Tryz.func36, Tryz.ntmps36
  go_wp2_with (first
    | (refine wpList_alN (d := 2) z32 zero29 w.heap.size rfl ?_; simp only [List.setIfInBounds_toArray, List.set_cons_succ, List.set_cons_zero])
    | (refine wpList_bd (d := 14) z32 (by kernel_rfl) (wpList_st_row w.heap.size z32 rfl rfl 36 z32 hL (by rw [size29]; rfl) rfl (by kernel_rfl) ?_); simp only [List.setIfInBounds_toArray, List.set_cons_succ, List.set_cons_zero]))
  exact bodyPost_ret (results_row_slots rfl _ _ w.heap.size 36 z32 (0, 0) _ rfl (hL.row _) Tryz.underlying36 rfl (by rw [size29]; rfl)) rfl ⟨by rw [zeros32, ← z32_cells]; rfl, hb1⟩

set_option maxRecDepth 100000 in
set_option maxHeartbeats 4000000 in
theorem build_any (s : ByteArray) (w : World) (hb : s.size ≤ 4096) : Calls Tryz.prog 36 #[.string s] w fun e w' => ∃ p m c, e = .returned (.tuple #[.agg (bcells (rootH s.data.toList)), .slice p m c, .int .i64 0]) ∧ m = (buildO s.data.toList).length ∧
    w'.ownsRow w.heap.size 9 1 (.slice p m c) m ((buildO s.data.toList).map SV) ∧ Below w.heap.size w w' := by
  obtain ⟨L, eL⟩ : ∃ L, L = s.data.toList := ⟨_, rfl⟩
  have hLs : s.size = L.length := by rw [eL]; rfl
  have hb' : (s.size : Int) ≤ 4096 := by omega
  have hL4 : L.length ≤ 4096 := by omega
  have hLb : Blk (w.alloc (.cells z32 36)) w.heap.size 36 z32 := Blk.new _ _ _
  have hB : Blk ((w.alloc (.cells z32 36)).alloc (.cells z111 97)) (w.heap.size + 1) 97 z111 := by
    have := Blk.new (w.alloc (.cells z32 36)) 97 z111
    rwa [show (w.alloc (.cells z32 36)).heap.size = w.heap.size + 1 by simp] at this
  have hlst : LstAt ((w.alloc (.cells z32 36)).alloc (.cells z111 97)) (w.heap.size + 1) (w.heap.size + 1) [] :=
    ⟨⟨none, 0, none, hB, World.ownsRow_nil _ _ _ _, by simp [Value.ownBlock], .inl ⟨rfl, rfl⟩⟩, Nat.le_refl _⟩
  have hL2 := hLb.alloc (.cells z111 97)
  have hb2 : Below w.heap.size w ((w.alloc (.cells z32 36)).alloc (.cells z111 97)) := ((Below.refl _ _).alloc (Nat.le_refl _) _).alloc (by simp) _
  have s2 : ((w.alloc (.cells z32 36)).alloc (.cells z111 97)).heap.size = w.heap.size + 2 := by simp
  rw [← eL]
  obtain ⟨RH, eRH⟩ : ∃ R, R = rootH L := ⟨_, rfl⟩
  obtain ⟨OB, eOB⟩ : ∃ O, O = buildO L := ⟨_, rfl⟩
  rw [← eRH, ← eOB]
  obtain ⟨w2, e2⟩ : ∃ w2, w2 = (w.alloc (.cells z32 36)).alloc (.cells z111 97) := ⟨_, rfl⟩
  rw [← e2] at hlst hL2 hb2 s2
  have E2 := Lib.hid (And.intro e2 (And.intro eRH (And.intro eOB (And.intro eL hLs))))
  have H2 := Lib.hid (And.intro hlst (And.intro hL2 (And.intro hb2 s2)))
  clear e2 eRH eOB eL hLs hLb hB hlst hL2 hb2 s2 hb
  go_enter Tryz.func36, Tryz.ntmps36
  go_upto_region 4 with (first
    | (refine wpList_alN (d := 2) z32 zero29 w.heap.size rfl ?_; simp only [List.setIfInBounds_toArray, List.set_cons_succ, List.set_cons_zero])
    | (refine wpList_bd (d := 15) z111 (by kernel_rfl) ?_; simp only [List.setIfInBounds_toArray, List.set_cons_succ, List.set_cons_zero]))
  rw [← E2.out.1]
  obtain ⟨Bl, eBl⟩ : ∃ Bl, Bl = w.heap.size + 1 := ⟨_, rfl⟩
  rw [← eBl] at H2 ⊢
  have hBlw : w.heap.size < Bl := by omega
  clear eBl
  have hcv := Lib.run_convert_string_bytes w2 9 27 5 s Tryz.underlying9 Tryz.underlying27 Tryz.underlying5
  have hq1 : s.size ≤ grownCap w2 s.size 0 5 := grownCap_ge w2 s.size 0 5
  have hq2 : grownCap w2 s.size 0 5 ≤ maxLen := grownCap_le_maxLen w2 s.size 0 5 (by simp only [maxLen]; omega)
  have hb23 := bytes_below w2 s
  have hrg := bytes_range w2 s
  have s3 := Lib.bytesWorld_size w2 5 s
  obtain ⟨w3, e3⟩ : ∃ w3, w3 = Lib.bytesWorld w2 5 s := ⟨_, rfl⟩
  obtain ⟨q, eq⟩ : ∃ q, q = grownCap w2 s.size 0 5 := ⟨_, rfl⟩
  obtain ⟨D, eD⟩ : ∃ D, D = w2.heap.size := ⟨_, rfl⟩
  rw [← e3] at hcv hb23 hrg s3
  rw [← eq] at hcv hq1 hq2
  rw [← eD] at hcv hrg
  have hD3 : D < w3.heap.size := by omega
  have hL3 := H2.out.1.below hb23
  have hD2 : LApart w3 Bl D := (LApart.new H2.out.1 (by omega)).below H2.out.1.lt hb23
  have hbw3 : Below w.heap.size w w3 := H2.out.2.2.1.trans (hb23.mono H2.out.2.2.1.size)
  have hZ3 : Blk w3 w.heap.size 36 z32 := H2.out.2.1.below hb23 H2.out.2.1.lt
  have c80 := cutb_any D 0 q L w3 hD3 (by rw [E2.out.2.2.2.1]; exact hrg) (by rw [← E2.out.2.2.2.2]; exact hq1) hq2 (by omega)
  rw [← E2.out.2.2.2.2] at c80
  have HC := Lib.hid (And.intro hcv c80)
  have H3 := Lib.hid (And.intro hL3 (And.intro hD2 (And.intro hbw3 (And.intro hZ3 hD3))))
  clear hcv c80 hL3 hD2 hbw3 hZ3 hq1 hq2 hb23 hrg s3 e3 eq eD hD3 H2
  go_wp2_with (refine wpList_cvt (d := 19) (.string s) _ rfl HC.out.1 ?_; simp only [List.setIfInBounds_toArray, List.set_cons_succ, List.set_cons_zero])
  refine HC.out.2.mono ?_
  rintro e w4 ⟨p1, m1, c1, vs1, rfl, hm1, hR1, hC1, hb34⟩
  have hcl := cutL_len (k := 64) (by decide) L.length L (Nat.le_refl _)
  have hm1b : m1 ≤ 64 := by omega
  have hL4' := H3.out.1.below hb34
  have c79 := rowsb_any (w := w4) hL4' hR1 (D := D) (cs := cutL 64 L) ⟨hC1.1, fun i h => by
      obtain ⟨o, q, h1, h2⟩ := hC1.2 i h
      exact ⟨o, q, h1, fun j v hv => (hb34.cell (p := ⟨D, _, none⟩) H3.out.2.2.2.2).trans (h2 j v hv)⟩⟩
    (fun x hx => (hcl.1 x hx).1) hm1 (Nat.lt_of_lt_of_le H3.out.2.2.2.2 hb34.size) (H3.out.2.1.below H3.out.1.lt hb34)
    (fun g e => (LApart.new H3.out.1 (hR1.lt g e).1).below H3.out.1.lt hb34) (by omega) (by simp)
  have hbw4 : Below w.heap.size w w4 := H3.out.2.2.1.trans (hb34.mono H3.out.2.2.1.size)
  have hZ4 : Blk w4 w.heap.size 36 z32 := H3.out.2.2.2.1.below hb34 H3.out.2.2.2.1.lt
  have C79 := Lib.hid (And.intro c79 hm1)
  clear c79 hL4' hR1 hC1 hb34 hm1 hcl
  go_wp2_with fail
  refine C79.out.1.mono ?_
  rintro e w5 ⟨q1, d1, rfl, hQ1, hL5, hb45, hk45, hA5⟩
  rw [buildH_eq] at hQ1
  have hm1 : m1 = (buildH L).length := by rw [C79.out.2, buildH, buildB, List.length_map, List.length_map]
  have hBlw5 : w.heap.size < w5.heap.size := by have := hL5.lt; omega
  have hE : ∃ E, E < w5.heap.size ∧ LApart w5 Bl E ∧ (0 < m1 → ∃ o, q1 = some ⟨E, o, none⟩ ∧ w5.rangeAt E o (hcells (buildH L))) := by
    obtain ⟨D2, hD2f, _⟩ := hashAt_row hQ1 hm1 (buildH_len L)
    by_cases g : 0 < m1
    · obtain ⟨g1, g2, g3⟩ := hD2f g
      exact ⟨D2, (hQ1.lt D2 g1).2, hA5 D2 g1, fun _ => ⟨0, g2, g3⟩⟩
    · exact ⟨w.heap.size, hBlw5, LApart.low hL5 hBlw, fun h => absurd h g⟩
  obtain ⟨E, hE1, hE2, hE3⟩ := hE
  have hcap := row_cap hQ1
  have c83 := cuth_any E d1 q1 (buildH L) w5 (buildH_len L) (by rw [← hm1]; exact hE3) (by rw [← hm1]; exact hcap.1) hcap.2 (by rw [← hm1]; omega)
  rw [← hm1] at c83
  have hbw5 : Below w.heap.size w w5 := hbw4.trans (hb45.mono (Nat.le_of_lt hBlw))
  have hZ5 : Blk w5 w.heap.size 36 z32 := hZ4.below hb45 hBlw
  have H5 := Lib.hid (And.intro c83 (And.intro hL5 (And.intro hE1 (And.intro hE2 (And.intro hbw5 (And.intro hZ5 hm1))))))
  clear c83 hL5 hE1 hE2 hE3 hbw5 hZ5 hm1 hcap hQ1 hb45 hk45 hA5 hbw4 hZ4 hBlw5
  go_wp2_with fail
  refine H5.out.1.mono ?_
  rintro e w6 ⟨p2, m2, c2, vs2, rfl, hm2, hR2, hC2, hb56⟩
  have hcl := cutL_len (k := 8) (by decide) (buildH L).length (buildH L) (Nat.le_refl _)
  have hm2b : m2 ≤ 8 := by have := H5.out.2.2.2.2.2.2; omega
  have hL6 := H5.out.2.1.below hb56
  have hf1 := foldl_onceA_length ((cutL 64 L).map bT) []
  rw [List.length_map, ← C79.out.2] at hf1
  have c82 := rowsh_any (w := w6) hL6 hR2 (D := E) (cs := cutL 8 (buildH L)) ⟨hC2.1, fun i h => by
      obtain ⟨o, q, h1, h2⟩ := hC2.2 i h
      exact ⟨o, q, h1, fun j v hv => (hb56.cell (p := ⟨E, _, none⟩) H5.out.2.2.1).trans (h2 j v hv)⟩⟩
    (fun x hx => ⟨(hcl.1 x hx).1, fun y hy => buildH_len L y (cutL_mem (by decide) _ _ (Nat.le_refl _) x hx y hy)⟩) hm2 (Nat.lt_of_lt_of_le H5.out.2.2.1 hb56.size) (H5.out.2.2.2.1.below H5.out.2.1.lt hb56)
    (fun g e => (LApart.new H5.out.2.1 (hR2.lt g e).1).below H5.out.2.1.lt hb56) (by omega) (by simp only [List.length_nil] at hf1; omega)
  have hbw6 : Below w.heap.size w w6 := H5.out.2.2.2.2.1.trans (hb56.mono H5.out.2.2.2.2.1.size)
  have hZ6 : Blk w6 w.heap.size 36 z32 := H5.out.2.2.2.2.2.1.below hb56 H5.out.2.2.2.2.2.1.lt
  have C82 := Lib.hid (And.intro c82 hm2)
  clear c82 hL6 hR2 hC2 hb56 hm2 hcl hf1
  go_wp2_with fail
  refine C82.out.1.mono ?_
  rintro e w7 ⟨q2, d2, rfl, hQ2, hL7, hb67, hk67, hA7⟩
  rw [buildJ_eq] at hQ2
  have hm2 : m2 = (buildJ L).length := by rw [C82.out.2, buildJ, buildI, List.length_map, List.length_map]
  obtain ⟨D3, _, hHA⟩ := hashAt_row hQ2 hm2 (buildJ_len L)
  have c85 := node_any 82 q2 (buildJ L) d2 w7 hHA (buildJ_len L) (by rw [← hm2]; omega)
  rw [← hm2] at c85
  obtain ⟨R, eR⟩ : ∃ R, R = nodeT 82 (buildJ L) := ⟨_, rfl⟩
  rw [← eR] at c85
  have hRs : R.size ≤ 140737488351232 := by rw [eR]; exact nodeT_size 82 _ (by rw [← hm2]; omega) (buildJ_len L)
  have hRH : RH = objH R := by rw [E2.out.2.1, eR]; rfl
  have c78 : ∀ w', Calls Tryz.prog 34 #[.string R] w' fun e w'' => e = .returned (.tuple #[.agg (bcells RH), .bool (objOk R)]) ∧ Below w'.heap.size w' w'' := fun w' => by rw [hRH]; exact hashof_any R w' hRs
  have hRHl : RH.length = 32 := by rw [hRH]; exact objH_length R
  obtain ⟨K, eK⟩ : ∃ K, K = objOk R := ⟨_, rfl⟩
  rw [← eK] at c78
  obtain ⟨A7, eA7⟩ : ∃ A, A = ((cutL 8 (buildH L)).map (nodeT 73)).foldl onceA (((cutL 64 L).map bT).foldl onceA []) := ⟨_, rfl⟩
  rw [← eA7] at hL7
  have hf2 := foldl_onceA_length ((cutL 8 (buildH L)).map (nodeT 73)) (((cutL 64 L).map bT).foldl onceA [])
  have hf3 := foldl_onceA_length ((cutL 64 L).map bT) []
  rw [List.length_map, ← C82.out.2, ← eA7] at hf2
  rw [List.length_map, ← C79.out.2] at hf3
  simp only [List.length_nil] at hf3
  have hAl : A7.length ≤ 1000 := by omega
  have hOB : OB = onceA A7 R := by rw [E2.out.2.2.1, eA7, eR]; rfl
  have hbw7 : Below w.heap.size w w7 := hbw6.trans (hb67.mono (Nat.le_of_lt hBlw))
  have hZ7 : Blk w7 w.heap.size 36 z32 := hZ6.below hb67 hBlw
  have C7 := Lib.hid (And.intro c85 (And.intro c78 (And.intro hRHl (And.intro hOB (And.intro hAl (And.intro hL7 (And.intro hbw7 hZ7)))))))
  clear c85 c78 hRHl hOB hAl hL7 hbw7 hZ7 hf2 hf3 eA7 eK hRH hRs eR hm2 hHA hQ2 hb67 hk67 hA7 hbw6 hZ6
  go_wp2_with fail
  refine C7.out.1.mono ?_
  rintro e w8 ⟨rfl, hb78⟩
  go_wp2_with fail
  refine (C7.out.2.1 w8).mono ?_
  rintro e w9 ⟨rfl, hb89⟩
  have hb79 : Below w7.heap.size w7 w9 := hb78.trans (hb89.mono hb78.size)
  have hX0 : Blk (w9.alloc (.cells z32 36)) w9.heap.size 36 z32 := Blk.new _ _ _
  have hX1 : Blk ((w9.alloc (.cells z32 36)).setRow w9.heap.size (bcells RH)) w9.heap.size 36 (bcells RH) := hX0.row _
  have hb7a : Below w7.heap.size w7 ((w9.alloc (.cells z32 36)).setRow w9.heap.size (bcells RH)) := below_setRow (hb79.alloc hb79.size _) hb79.size _
  have hs79 := hb79.size
  clear hb78 hb89 hb79
  go_wp2_with (refine wpList_alN (d := 9) z32 zero29 w9.heap.size rfl (wpList_st_row w9.heap.size (bcells RH) rfl rfl 36 z32 hX0 (by rw [size29, bcells_size, C7.out.2.2.1]) (by rw [bcells_size, C7.out.2.2.1]; rfl) (bcells_one _) ?_); simp only [List.setIfInBounds_toArray, List.set_cons_succ, List.set_cons_zero])
  obtain ⟨wa, ea⟩ : ∃ wa, wa = (w9.alloc (.cells z32 36)).setRow w9.heap.size (bcells RH) := ⟨_, rfl⟩
  obtain ⟨X, eX⟩ : ∃ X, X = w9.heap.size := ⟨_, rfl⟩
  have hX7 : w7.heap.size ≤ X := by omega
  rw [← ea] at hX1 hb7a ⊢
  rw [← eX] at hX1 ⊢
  clear ea eX hX0 hs79
  have hLa := C7.out.2.2.2.2.2.1.below hb7a
  have hXA : LApart wa Bl X := (LApart.new C7.out.2.2.2.2.2.1 hX7).below C7.out.2.2.2.2.2.1.lt hb7a
  refine (ladd_any hLa R (by have := C7.out.2.2.2.2.1; omega)).mono ?_
  rintro e wb ⟨rfl, hLb, hbab, hkab⟩
  have hXb : Blk wb X 36 (bcells RH) := (hkab X hX1.lt hXA).2.trans hX1
  have hbwa : Below w.heap.size w wa := C7.out.2.2.2.2.2.2.1.trans (hb7a.mono C7.out.2.2.2.2.2.2.1.size)
  have hZa : Blk wa w.heap.size 36 z32 := C7.out.2.2.2.2.2.2.2.below hb7a C7.out.2.2.2.2.2.2.2.lt
  have hbwb : Below w.heap.size w wb := hbwa.trans (hbab.mono (Nat.le_of_lt hBlw))
  have hZb : Blk wb w.heap.size 36 z32 := hZa.below hbab hBlw
  rw [← C7.out.2.2.2.1] at hLb
  obtain ⟨p, c, sv, hBb, hRb, hnb, _⟩ := hLb.ex
  have hBX := hBb.lt
  clear hLa hXA hX1 hb7a hbab hkab hbwa hZa hLb
  obtain ⟨N, eN⟩ : ∃ N, N = OB.length := ⟨_, rfl⟩
  rw [← eN] at hBb hRb hnb
  have HN := Lib.hid (And.intro eN hRb)
  clear eN hRb hnb
  go_upto_region 9 with fail
  have hZd := hZb.drew
  have hRd := HN.out.2.drew
  have hbwd : Below w.heap.size w wb.drew := hbwb.drew
  have hLX : w.heap.size ≠ X := by have := C7.out.2.2.2.2.2.1.lt; omega
  have hLB : w.heap.size ≠ Bl := by omega
  refine wp_region_take (fun w' => w'.cell? ⟨Bl, 0, none⟩ = some (.slice p N c) ∧ Blk w' X 36 (bcells RH)) [0, 1, 2, 3, 4] [5] 6 (by kernel_rfl) (by kernel_rfl) (by intro c a d v w h; dsimp (config := { zetaDelta := true }) only [Exit.then, bodyPost] at h ⊢; cases d <;> exact h) ⟨hBb.cell 0, hXb.drew⟩ ?_
  simp only [pick, List.filterMap_cons, List.getElem?_cons_succ, List.getElem?_cons_zero, List.filterMap_nil, List.drop_succ_cons, List.drop_zero]
  repeat (first
    | (refine wpTake_row (d := 36) X (bcells RH) 36 rfl (fun w' h => h.2) Tryz.underlying36 rfl (by rw [size29, bcells_size, C7.out.2.2.1]) ?_; simp only [List.setIfInBounds_toArray, List.set_cons_succ, List.set_cons_zero])
    | (apply wpTake_step; (focus (intro w' hS; have hc1 := hS.1; clear hS; go_simp; (try with_reducible rfl))); simp only [List.setIfInBounds_toArray, List.set_cons_succ, List.set_cons_zero]))
  refine wpTake_nil ?_
  refine wpOp_st_row rfl w.heap.size (bcells RH) rfl rfl 36 z32 hZd (by rw [size29, bcells_size, C7.out.2.2.1]) (by rw [bcells_size, C7.out.2.2.1]; rfl) (bcells_one _) ⟨⟨?_, hXb.drew.rowFar (Ne.symm hLX) _⟩, wpMem_nil ?_⟩
  · exact ((hBb.drew.rowFar (Ne.symm hLB) (bcells RH)).cell 0)
  obtain ⟨wc, ec⟩ : ∃ wc, wc = wb.drew := ⟨_, rfl⟩
  rw [← ec] at hZd hRd hbwd ⊢
  have hZc := hZd
  have hbwc := hbwd
  have HR := Lib.hid hRd
  clear ec hRd hZd hbwd hXb hBb hZb
  go_wp2
  refine bodyPost_ret (results_row_slots rfl _ _ w.heap.size 36 (bcells RH) (0, 0) _ rfl (hZc.row _) Tryz.underlying36 rfl (by rw [size29, bcells_size, C7.out.2.2.1])) rfl ⟨p, N, c, rfl, HN.out.1, ?_, below_setRow hbwc (Nat.le_refl _) _⟩
  exact row_mono (HR.out.kept (grown_row1' _ w.heap.size (bcells RH)) (.inr (fun e => by have := (HR.out.lt _ e).1; omega))) (Nat.le_of_lt hBlw)
end Go.Proofs.YtmhbkilpllgchaaGreatDoor
