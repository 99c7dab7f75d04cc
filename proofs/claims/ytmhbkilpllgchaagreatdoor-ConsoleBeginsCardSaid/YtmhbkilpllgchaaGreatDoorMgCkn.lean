/- The four commands of one text of bytes. A command of one text; root; split. console.split, console.root. console.root. -/
import Derived.Test.YtmhbkilpllgchaaGreatDoorMgCfh
import Derived.Test.YtmhbkilpllgchaaGreatDoorFtV
import Derived.Test.YtmhbkilpllgchaaGreatDoorMgCij
namespace Go.Proofs.YtmhbkilpllgchaaGreatDoor
open Go.RowKit BigFrame
set_option linter.unusedVariables false
set_option linter.unusedSimpArgs false

def shaX (s : ByteArray) : List UInt8 := hexL (sha s.data.toList)
def leafX (s : ByteArray) : List UInt8 := hexL (leafH s.data.toList)
def objX (s : ByteArray) : List UInt8 := if 4096 < s.size then errT 1100 else hexL (objH s)
def fileX (s : ByteArray) : List UInt8 := toldL (errF s) (hexL (hashF s))

set_option maxRecDepth 100000 in
set_option maxHeartbeats 4000000 in
theorem cmd1_any (s : ByteArray) (w : World) (hs : s.size ≤ 1000000) : Calls Tryz.prog 28 #[.string s] w fun e w' => e = .returned (.string ⟨(shaX s).toArray⟩) ∧ Below w.heap.size w w' := by
  obtain ⟨A, eA⟩ : ∃ A, A = sha s.data.toList := ⟨_, rfl⟩
  have hAl : A.length = 32 := by rw [eA]; exact sha_length _
  have c1 : Calls Tryz.prog 30 #[.string s] w fun e w' => e = .returned (.agg (bcells A)) ∧ Below w.heap.size w w' := by
    have := ssum_any s w (by omega)
    rw [shaV] at this
    rw [eA]; exact this
  have c2 := hexc_any A hAl
  have eX : shaX s = hexL A := by rw [shaX, eA]
  rw [eX]
  obtain ⟨R, eR⟩ : ∃ R : ByteArray, R = ⟨(hexL A).toArray⟩ := ⟨_, rfl⟩
  rw [← eR] at c2 ⊢
  have HC := Lib.hid (And.intro c1 c2)
  clear c1 c2 eA eX eR hAl
  go_enter Tryz.func28, Tryz.ntmps28
  go_wp2_with fail
  refine HC.out.1.mono ?_
  rintro e w1 ⟨rfl, hb1⟩
  go_wp2_with fail
  refine (HC.out.2 _).mono ?_
  rintro e w2 ⟨rfl, hb2⟩
  go_wp2
  go_ret
  exact ⟨rfl, hb1.trans (hb2.mono hb1.size)⟩

set_option maxRecDepth 100000 in
set_option maxHeartbeats 4000000 in
theorem cmd2_any (s : ByteArray) (w : World) (hs : s.size ≤ 1000000) : Calls Tryz.prog 31 #[.string s] w fun e w' => e = .returned (.string ⟨(leafX s).toArray⟩) ∧ Below w.heap.size w w' := by
  obtain ⟨A, eA⟩ : ∃ A, A = leafH s.data.toList := ⟨_, rfl⟩
  have hAl : A.length = 32 := by rw [eA]; exact leafH_length _
  have c1 : Calls Tryz.prog 32 #[.string s] w fun e w' => e = .returned (.agg (bcells A)) ∧ Below w.heap.size w w' := by
    have := leafm_any s w (by omega)
    rw [eA]; exact this
  have c2 := hexc_any A hAl
  have eX : leafX s = hexL A := by rw [leafX, eA]
  rw [eX]
  obtain ⟨R, eR⟩ : ∃ R : ByteArray, R = ⟨(hexL A).toArray⟩ := ⟨_, rfl⟩
  rw [← eR] at c2 ⊢
  have HC := Lib.hid (And.intro c1 c2)
  clear c1 c2 eA eX eR hAl
  go_enter Tryz.func31, Tryz.ntmps31
  go_wp2_with fail
  refine HC.out.1.mono ?_
  rintro e w1 ⟨rfl, hb1⟩
  go_wp2_with fail
  refine (HC.out.2 _).mono ?_
  rintro e w2 ⟨rfl, hb2⟩
  go_wp2
  go_ret
  exact ⟨rfl, hb1.trans (hb2.mono hb1.size)⟩

set_option maxRecDepth 100000 in
set_option maxHeartbeats 4000000 in
theorem cmd3_any (s : ByteArray) (w : World) (hs : s.size ≤ 1000000) (hL : Laid w) : Calls Tryz.prog 33 #[.string s] w fun e w' => e = .returned (.string ⟨(objX s).toArray⟩) ∧ Below w.heap.size w w' := by
  have hsz : (s.size : Int) ≤ 1000000 := by omega
  by_cases hbig : 4096 < s.size
  · have c1 := toldc_any 1100 [] w hL (by omega) (by omega)
    have eX : objX s = toldL 1100 [] := by rw [objX, if_pos hbig, toldL, if_neg (by omega)]
    rw [eX]
    obtain ⟨R, eR⟩ : ∃ R : ByteArray, R = ⟨(toldL 1100 []).toArray⟩ := ⟨_, rfl⟩
    rw [← eR] at c1 ⊢
    have HC := Lib.hid c1
    have hbig' : (4096 : Int) < (s.size : Int) := by omega
    clear c1 eX eR hbig
    go_enter Tryz.func33, Tryz.ntmps33
    go_wp2_with fail
    refine HC.out.mono ?_
    rintro e w1 ⟨rfl, hb1⟩
    go_wp2
    go_ret
    exact ⟨rfl, hb1⟩
  · obtain ⟨A, eA⟩ : ∃ A, A = objH s := ⟨_, rfl⟩
    have hAl : A.length = 32 := by rw [eA]; exact objH_length s
    have c1 := hashof_any s w (by omega)
    rw [← eA] at c1
    have c2 := hexc_any A hAl
    have eX : objX s = hexL A := by rw [objX, if_neg hbig, eA]
    rw [eX]
    obtain ⟨R, eR⟩ : ∃ R : ByteArray, R = ⟨(hexL A).toArray⟩ := ⟨_, rfl⟩
    rw [← eR] at c2 ⊢
    have HC := Lib.hid (And.intro c1 (And.intro c2 hAl))
    have hbig' : (s.size : Int) ≤ (4096 : Int) := by omega
    clear c1 c2 eA eX eR hbig hAl
    go_enter Tryz.func33, Tryz.ntmps33
    go_wp2_with fail
    refine HC.out.1.mono ?_
    rintro e w1 ⟨rfl, hb1⟩
    have hX : Blk (w1.alloc (.cells z32 36)) w1.heap.size 36 z32 := Blk.new _ _ _
    have hb2 : Below w.heap.size w (w1.alloc (.cells z32 36)) := hb1.alloc hb1.size _
    have hX2 : Blk ((w1.alloc (.cells z32 36)).setRow w1.heap.size (bcells A)) w1.heap.size 36 (bcells A) := hX.row _
    have hb3 : Below w.heap.size w ((w1.alloc (.cells z32 36)).setRow w1.heap.size (bcells A)) := below_setRow hb2 hb1.size _
    have HX := Lib.hid (And.intro hX (And.intro hX2 hb3))
    clear hX hX2 hb2 hb3
    go_wp2_with (first
      | (refine wpList_alN (d := 3) z32 zero29 w1.heap.size rfl ?_; simp only [List.setIfInBounds_toArray, List.set_cons_succ, List.set_cons_zero])
      | (refine wpList_st_row w1.heap.size (bcells A) rfl rfl 36 z32 HX.out.1 (by rw [size29, bcells_size, HC.out.2.2]) (by rw [bcells_size, HC.out.2.2]; rfl) (bcells_one _) ?_)
      | (refine wpList_ld_row (d := 14) w1.heap.size (bcells A) rfl 36 HX.out.2.1 Tryz.underlying36 rfl (by rw [size29, bcells_size, HC.out.2.2]) ?_; simp only [List.setIfInBounds_toArray, List.set_cons_succ, List.set_cons_zero]))
    refine (HC.out.2.1 _).mono ?_
    rintro e w2 ⟨rfl, hb4⟩
    go_wp2
    go_ret
    exact ⟨rfl, HX.out.2.2.trans (hb4.mono HX.out.2.2.size)⟩

set_option maxRecDepth 100000 in
set_option maxHeartbeats 4000000 in
theorem cmd4_any (s : ByteArray) (w : World) (hs : s.size ≤ 1000000) (hL : Laid w) : Calls Tryz.prog 35 #[.string s] w fun e w' => e = .returned (.string ⟨(fileX s).toArray⟩) ∧ Below w.heap.size w w' := by
  obtain ⟨A, eA⟩ : ∃ A, A = hashF s := ⟨_, rfl⟩
  have hAl : A.length = 32 := by rw [eA]; exact hashF_length s
  obtain ⟨E, eE⟩ : ∃ E, E = errF s := ⟨_, rfl⟩
  have hE : 0 ≤ E ∧ E ≤ 1200 := by rw [eE, errF]; split <;> omega
  have c1 := build_full s w (by omega)
  rw [← eA, ← eE] at c1
  have c2 := hexc_any A hAl
  have c3 : ∀ w', Laid w' → _ := fun w' h => toldc_any E (hexL A) w' h (by omega) (by omega)
  have eX : fileX s = toldL E (hexL A) := by rw [fileX, eA, eE]
  rw [eX]
  obtain ⟨R, eR⟩ : ∃ R : ByteArray, R = ⟨(hexL A).toArray⟩ := ⟨_, rfl⟩
  rw [← eR] at c2 c3
  obtain ⟨T, eT⟩ : ∃ T : ByteArray, T = ⟨(toldL E (hexL A)).toArray⟩ := ⟨_, rfl⟩
  rw [← eT] at c3 ⊢
  have HC := Lib.hid (And.intro c1 (And.intro c2 (And.intro c3 (And.intro hAl hL))))
  clear c1 c2 c3 eA eE eX eR eT hAl hE hL
  go_enter Tryz.func35, Tryz.ntmps35
  go_wp2_with fail
  refine HC.out.1.mono ?_
  rintro e w1 ⟨p, m, c, rfl, -, -, hb1⟩
  have hX : Blk (w1.alloc (.cells z32 36)) w1.heap.size 36 z32 := Blk.new _ _ _
  have hb2 : Below w.heap.size w (w1.alloc (.cells z32 36)) := hb1.alloc hb1.size _
  have hX2 : Blk ((w1.alloc (.cells z32 36)).setRow w1.heap.size (bcells A)) w1.heap.size 36 (bcells A) := hX.row _
  have hb3 : Below w.heap.size w ((w1.alloc (.cells z32 36)).setRow w1.heap.size (bcells A)) := below_setRow hb2 hb1.size _
  have HX := Lib.hid (And.intro hX (And.intro hX2 hb3))
  clear hX hX2 hb2 hb3
  go_wp2_with (first
    | (refine wpList_alN (d := 3) z32 zero29 w1.heap.size rfl ?_; simp only [List.setIfInBounds_toArray, List.set_cons_succ, List.set_cons_zero])
    | (refine wpList_st_row w1.heap.size (bcells A) rfl rfl 36 z32 HX.out.1 (by rw [size29, bcells_size, HC.out.2.2.2.1]) (by rw [bcells_size, HC.out.2.2.2.1]; rfl) (bcells_one _) ?_)
    | (refine wpList_ld_row (d := 13) w1.heap.size (bcells A) rfl 36 HX.out.2.1 Tryz.underlying36 rfl (by rw [size29, bcells_size, HC.out.2.2.2.1]) ?_; simp only [List.setIfInBounds_toArray, List.set_cons_succ, List.set_cons_zero]))
  refine (HC.out.2.1 _).mono ?_
  rintro e w2 ⟨rfl, hb4⟩
  have hb5 := HX.out.2.2.trans (hb4.mono HX.out.2.2.size)
  go_wp2_with fail
  refine (HC.out.2.2.1 _ (HC.out.2.2.2.2.below hb5)).mono ?_
  rintro e w3 ⟨rfl, hb6⟩
  go_wp2
  go_ret
  exact ⟨rfl, hb5.trans (hb6.mono hb5.size)⟩
end Go.Proofs.YtmhbkilpllgchaaGreatDoor
namespace Go.Proofs.YtmhbkilpllgchaaGreatDoor
open Go.RowKit BigFrame
set_option linter.unusedVariables false
set_option linter.unusedSimpArgs false

theorem Strs.form {w : World} {p : Option Addr} {ss : List ByteArray} (h : Strs w p ss) (hne : ss ≠ []) :
    ∃ g o, p = some ⟨g, o, none⟩ ∧ g < w.heap.size ∧ ∀ (j : Nat) x, ss[j]? = some x → w.cell? ⟨g, o + j, none⟩ = some (.string x) := by
  have h0 : 0 < ss.length := List.length_pos_iff.2 hne
  obtain ⟨a, ea, hb, hc⟩ := h.at h0
  obtain ⟨g, o, sp⟩ := a
  have hsp : sp = none := by
    cases sp with
    | none => rfl
    | some q =>
      exfalso
      simp only [World.cell?, Addr.add] at hc
      split at hc
      · simp at hc
      · cases hc
  subst hsp
  refine ⟨g, o, ea, hb, fun j x hj => ?_⟩
  have hjl : j < ss.length := (List.getElem?_eq_some_iff.1 hj).1
  have := (h.2 _ ea j hjl).2
  rw [List.getD, hj] at this
  rw [Addr.add_mid] at this
  exact this

theorem bytesF_short : ∀ (m : Nat) (l b : List UInt8), l.length ≤ m → bytesF l = some b → b.length ≤ l.length
  | _, [], b, _, h => by rw [bytesF] at h; cases h; simp
  | _, [_], b, _, h => by rw [bytesF] at h; cases h
  | 0, _ :: _ :: _, b, hm, h => by simp at hm
  | m + 1, x :: y :: l, b, hm, h => by
    rw [bytesF] at h
    simp only [List.length_cons] at hm
    split at h
    · rename_i h3
      have := bytesF_short m l _ (by omega) h3
      cases h
      simp only [List.length_cons]
      omega
    · cases h
theorem bytesO_length (l : List UInt8) : ∀ b, bytesO l = some b → b.length ≤ l.length := fun b h => by
  unfold bytesO at h
  split at h
  · cases h; simp
  · exact bytesF_short _ l b (Nat.le_refl _) h

/-- What a command of words answers: none: they are not such. -/
def ansV (o : Option (List UInt8)) : Value := .tuple #[.string ⟨(o.getD []).toArray⟩, .bool o.isSome]
def oneO (f : ByteArray → List UInt8) : List ByteArray → Option (List UInt8)
  | [x] => (bytesO x.data.toList).map fun b => f ⟨b.toArray⟩
  | _ => none
theorem oneO_not {f : ByteArray → List UInt8} {ws : List ByteArray} (h : ws.length ≠ 1) : oneO f ws = none := by
  match ws, h with
  | [], _ => rfl
  | [_], h => exact absurd rfl h
  | _ :: _ :: _, _ => rfl

set_option maxRecDepth 100000 in
set_option maxHeartbeats 4000000 in
theorem of_28 (B : Nat) (ws : List ByteArray) (p : Option Addr) (c : Nat) (w : World) (hL : Laid w) (hB : Blk w B 67 #[.func (.func 28) #[] #[]]) (hW : Strs w p ws) (hz : ∀ x ∈ ws, x.size ≤ 100000 ∧ x.data.toList ≠ []) (hn : ws.length ≤ c) (hc : c ≤ 9223372036854775807) :
    Calls Tryz.prog 50 #[.slice p ws.length c, .pointer (some ⟨B, 0, none⟩)] w fun e w' => e = .returned (ansV (oneO shaX ws)) ∧ Below w.heap.size w w' := by
  by_cases h1 : ws.length = 1
  · obtain ⟨x, rfl⟩ := List.length_eq_one_iff.1 h1
    obtain ⟨g, o, rfl, hg, hcells⟩ := hW.form (by simp)
    have hx := hcells 0 x rfl
    rw [Nat.add_zero] at hx
    obtain ⟨hxs, hxn⟩ := hz x (by simp)
    have c51 := bytesc_any x w hxs hxn
    have hBl := bytesO_length x.data.toList
    clear hz hcells hW h1 hxn hn
    cases hb : bytesO x.data.toList with
    | none =>
      rw [hb] at c51
      have eO : oneO shaX [x] = none := by rw [oneO, hb]; rfl
      rw [eO]
      have HC := Lib.hid (And.intro c51 hL)
      clear c51 hL hb eO hBl hB
      go_enter Tryz.func50, Tryz.ntmps50
      go_wp2_with fail
      refine HC.out.1.mono ?_
      rintro e w1 ⟨rfl, hb1⟩
      go_wp2
      go_ret2
      exact ⟨rfl, hb1⟩
    | some b =>
      rw [hb] at c51
      obtain ⟨S, eS⟩ : ∃ S : ByteArray, S = ⟨b.toArray⟩ := ⟨_, rfl⟩
      have hSs : S.size ≤ 1000000 := by
        have := hBl b hb
        rw [eS]
        show b.toArray.size ≤ _
        rw [List.size_toArray]
        have : x.data.toList.length = x.size := rfl
        omega
      have cF : ∀ w', Laid w' → Calls Tryz.prog 28 #[.string S] w' fun e w'' => e = .returned (.string ⟨(shaX S).toArray⟩) ∧ Below w'.heap.size w' w'' := fun w' h => cmd1_any S w' hSs
      have eO : oneO shaX [x] = some (shaX S) := by rw [oneO, hb, eS]; rfl
      rw [eO]
      have c51' : Calls Tryz.prog 51 #[.string x] w fun e w' => e = .returned (.tuple #[.string S, .bool true]) ∧ Below w.heap.size w w' := by rw [eS]; exact c51
      obtain ⟨T, eT⟩ : ∃ T : ByteArray, T = ⟨(shaX S).toArray⟩ := ⟨_, rfl⟩
      rw [ansV, Option.getD_some, Option.isSome_some, ← eT]
      rw [← eT] at cF
      have HC := Lib.hid (And.intro c51' (And.intro cF (And.intro hL hB)))
      clear c51 c51' cF hL hb eO eS eT hSs hBl hB
      go_enter Tryz.func50, Tryz.ntmps50
      go_wp2_with fail
      refine HC.out.1.mono ?_
      rintro e w1 ⟨rfl, hb1⟩
      have hL1 := HC.out.2.2.1.below hb1
      have hB1 : w1.cell? ⟨B, 0, none⟩ = some (.func (.func 28) #[] #[]) := by
        have := HC.out.2.2.2.below hb1 HC.out.2.2.2.lt
        rw [this.cell]; rfl
      have HL1 := Lib.hid hL1
      clear hL1
      go_wp2_with fail
      refine (HC.out.2.1 _ HL1.out).mono ?_
      rintro e w2 ⟨rfl, hb2⟩
      go_wp2
      go_ret2
      exact ⟨rfl, hb1.trans (hb2.mono hb1.size)⟩
  · rw [oneO_not h1]
    have h1' : ((ws.length : Int) == 1) = false := by rw [beq_eq_false_iff_ne]; omega
    have h1'' : ((ws.length : Int) != 1) = true := by rw [bne_iff_ne]; omega
    have h2 : ¬ (ws.length : Int) = 1 := by omega
    clear h1 hB hL hW hz
    go_enter Tryz.func50, Tryz.ntmps50
    go_wp2
    go_ret2
    exact ⟨rfl, Below.refl _ _⟩

set_option maxRecDepth 100000 in
set_option maxHeartbeats 4000000 in
theorem of_31 (B : Nat) (ws : List ByteArray) (p : Option Addr) (c : Nat) (w : World) (hL : Laid w) (hB : Blk w B 67 #[.func (.func 31) #[] #[]]) (hW : Strs w p ws) (hz : ∀ x ∈ ws, x.size ≤ 100000 ∧ x.data.toList ≠ []) (hn : ws.length ≤ c) (hc : c ≤ 9223372036854775807) :
    Calls Tryz.prog 50 #[.slice p ws.length c, .pointer (some ⟨B, 0, none⟩)] w fun e w' => e = .returned (ansV (oneO leafX ws)) ∧ Below w.heap.size w w' := by
  by_cases h1 : ws.length = 1
  · obtain ⟨x, rfl⟩ := List.length_eq_one_iff.1 h1
    obtain ⟨g, o, rfl, hg, hcells⟩ := hW.form (by simp)
    have hx := hcells 0 x rfl
    rw [Nat.add_zero] at hx
    obtain ⟨hxs, hxn⟩ := hz x (by simp)
    have c51 := bytesc_any x w hxs hxn
    have hBl := bytesO_length x.data.toList
    clear hz hcells hW h1 hxn hn
    cases hb : bytesO x.data.toList with
    | none =>
      rw [hb] at c51
      have eO : oneO leafX [x] = none := by rw [oneO, hb]; rfl
      rw [eO]
      have HC := Lib.hid (And.intro c51 hL)
      clear c51 hL hb eO hBl hB
      go_enter Tryz.func50, Tryz.ntmps50
      go_wp2_with fail
      refine HC.out.1.mono ?_
      rintro e w1 ⟨rfl, hb1⟩
      go_wp2
      go_ret2
      exact ⟨rfl, hb1⟩
    | some b =>
      rw [hb] at c51
      obtain ⟨S, eS⟩ : ∃ S : ByteArray, S = ⟨b.toArray⟩ := ⟨_, rfl⟩
      have hSs : S.size ≤ 1000000 := by
        have := hBl b hb
        rw [eS]
        show b.toArray.size ≤ _
        rw [List.size_toArray]
        have : x.data.toList.length = x.size := rfl
        omega
      have cF : ∀ w', Laid w' → Calls Tryz.prog 31 #[.string S] w' fun e w'' => e = .returned (.string ⟨(leafX S).toArray⟩) ∧ Below w'.heap.size w' w'' := fun w' h => cmd2_any S w' hSs
      have eO : oneO leafX [x] = some (leafX S) := by rw [oneO, hb, eS]; rfl
      rw [eO]
      have c51' : Calls Tryz.prog 51 #[.string x] w fun e w' => e = .returned (.tuple #[.string S, .bool true]) ∧ Below w.heap.size w w' := by rw [eS]; exact c51
      obtain ⟨T, eT⟩ : ∃ T : ByteArray, T = ⟨(leafX S).toArray⟩ := ⟨_, rfl⟩
      rw [ansV, Option.getD_some, Option.isSome_some, ← eT]
      rw [← eT] at cF
      have HC := Lib.hid (And.intro c51' (And.intro cF (And.intro hL hB)))
      clear c51 c51' cF hL hb eO eS eT hSs hBl hB
      go_enter Tryz.func50, Tryz.ntmps50
      go_wp2_with fail
      refine HC.out.1.mono ?_
      rintro e w1 ⟨rfl, hb1⟩
      have hL1 := HC.out.2.2.1.below hb1
      have hB1 : w1.cell? ⟨B, 0, none⟩ = some (.func (.func 31) #[] #[]) := by
        have := HC.out.2.2.2.below hb1 HC.out.2.2.2.lt
        rw [this.cell]; rfl
      have HL1 := Lib.hid hL1
      clear hL1
      go_wp2_with fail
      refine (HC.out.2.1 _ HL1.out).mono ?_
      rintro e w2 ⟨rfl, hb2⟩
      go_wp2
      go_ret2
      exact ⟨rfl, hb1.trans (hb2.mono hb1.size)⟩
  · rw [oneO_not h1]
    have h1' : ((ws.length : Int) == 1) = false := by rw [beq_eq_false_iff_ne]; omega
    have h1'' : ((ws.length : Int) != 1) = true := by rw [bne_iff_ne]; omega
    have h2 : ¬ (ws.length : Int) = 1 := by omega
    clear h1 hB hL hW hz
    go_enter Tryz.func50, Tryz.ntmps50
    go_wp2
    go_ret2
    exact ⟨rfl, Below.refl _ _⟩

set_option maxRecDepth 100000 in
set_option maxHeartbeats 4000000 in
theorem of_33 (B : Nat) (ws : List ByteArray) (p : Option Addr) (c : Nat) (w : World) (hL : Laid w) (hB : Blk w B 67 #[.func (.func 33) #[] #[]]) (hW : Strs w p ws) (hz : ∀ x ∈ ws, x.size ≤ 100000 ∧ x.data.toList ≠ []) (hn : ws.length ≤ c) (hc : c ≤ 9223372036854775807) :
    Calls Tryz.prog 50 #[.slice p ws.length c, .pointer (some ⟨B, 0, none⟩)] w fun e w' => e = .returned (ansV (oneO objX ws)) ∧ Below w.heap.size w w' := by
  by_cases h1 : ws.length = 1
  · obtain ⟨x, rfl⟩ := List.length_eq_one_iff.1 h1
    obtain ⟨g, o, rfl, hg, hcells⟩ := hW.form (by simp)
    have hx := hcells 0 x rfl
    rw [Nat.add_zero] at hx
    obtain ⟨hxs, hxn⟩ := hz x (by simp)
    have c51 := bytesc_any x w hxs hxn
    have hBl := bytesO_length x.data.toList
    clear hz hcells hW h1 hxn hn
    cases hb : bytesO x.data.toList with
    | none =>
      rw [hb] at c51
      have eO : oneO objX [x] = none := by rw [oneO, hb]; rfl
      rw [eO]
      have HC := Lib.hid (And.intro c51 hL)
      clear c51 hL hb eO hBl hB
      go_enter Tryz.func50, Tryz.ntmps50
      go_wp2_with fail
      refine HC.out.1.mono ?_
      rintro e w1 ⟨rfl, hb1⟩
      go_wp2
      go_ret2
      exact ⟨rfl, hb1⟩
    | some b =>
      rw [hb] at c51
      obtain ⟨S, eS⟩ : ∃ S : ByteArray, S = ⟨b.toArray⟩ := ⟨_, rfl⟩
      have hSs : S.size ≤ 1000000 := by
        have := hBl b hb
        rw [eS]
        show b.toArray.size ≤ _
        rw [List.size_toArray]
        have : x.data.toList.length = x.size := rfl
        omega
      have cF : ∀ w', Laid w' → Calls Tryz.prog 33 #[.string S] w' fun e w'' => e = .returned (.string ⟨(objX S).toArray⟩) ∧ Below w'.heap.size w' w'' := fun w' h => cmd3_any S w' hSs h
      have eO : oneO objX [x] = some (objX S) := by rw [oneO, hb, eS]; rfl
      rw [eO]
      have c51' : Calls Tryz.prog 51 #[.string x] w fun e w' => e = .returned (.tuple #[.string S, .bool true]) ∧ Below w.heap.size w w' := by rw [eS]; exact c51
      obtain ⟨T, eT⟩ : ∃ T : ByteArray, T = ⟨(objX S).toArray⟩ := ⟨_, rfl⟩
      rw [ansV, Option.getD_some, Option.isSome_some, ← eT]
      rw [← eT] at cF
      have HC := Lib.hid (And.intro c51' (And.intro cF (And.intro hL hB)))
      clear c51 c51' cF hL hb eO eS eT hSs hBl hB
      go_enter Tryz.func50, Tryz.ntmps50
      go_wp2_with fail
      refine HC.out.1.mono ?_
      rintro e w1 ⟨rfl, hb1⟩
      have hL1 := HC.out.2.2.1.below hb1
      have hB1 : w1.cell? ⟨B, 0, none⟩ = some (.func (.func 33) #[] #[]) := by
        have := HC.out.2.2.2.below hb1 HC.out.2.2.2.lt
        rw [this.cell]; rfl
      have HL1 := Lib.hid hL1
      clear hL1
      go_wp2_with fail
      refine (HC.out.2.1 _ HL1.out).mono ?_
      rintro e w2 ⟨rfl, hb2⟩
      go_wp2
      go_ret2
      exact ⟨rfl, hb1.trans (hb2.mono hb1.size)⟩
  · rw [oneO_not h1]
    have h1' : ((ws.length : Int) == 1) = false := by rw [beq_eq_false_iff_ne]; omega
    have h1'' : ((ws.length : Int) != 1) = true := by rw [bne_iff_ne]; omega
    have h2 : ¬ (ws.length : Int) = 1 := by omega
    clear h1 hB hL hW hz
    go_enter Tryz.func50, Tryz.ntmps50
    go_wp2
    go_ret2
    exact ⟨rfl, Below.refl _ _⟩

set_option maxRecDepth 100000 in
set_option maxHeartbeats 4000000 in
theorem of_35 (B : Nat) (ws : List ByteArray) (p : Option Addr) (c : Nat) (w : World) (hL : Laid w) (hB : Blk w B 67 #[.func (.func 35) #[] #[]]) (hW : Strs w p ws) (hz : ∀ x ∈ ws, x.size ≤ 100000 ∧ x.data.toList ≠ []) (hn : ws.length ≤ c) (hc : c ≤ 9223372036854775807) :
    Calls Tryz.prog 50 #[.slice p ws.length c, .pointer (some ⟨B, 0, none⟩)] w fun e w' => e = .returned (ansV (oneO fileX ws)) ∧ Below w.heap.size w w' := by
  by_cases h1 : ws.length = 1
  · obtain ⟨x, rfl⟩ := List.length_eq_one_iff.1 h1
    obtain ⟨g, o, rfl, hg, hcells⟩ := hW.form (by simp)
    have hx := hcells 0 x rfl
    rw [Nat.add_zero] at hx
    obtain ⟨hxs, hxn⟩ := hz x (by simp)
    have c51 := bytesc_any x w hxs hxn
    have hBl := bytesO_length x.data.toList
    clear hz hcells hW h1 hxn hn
    cases hb : bytesO x.data.toList with
    | none =>
      rw [hb] at c51
      have eO : oneO fileX [x] = none := by rw [oneO, hb]; rfl
      rw [eO]
      have HC := Lib.hid (And.intro c51 hL)
      clear c51 hL hb eO hBl hB
      go_enter Tryz.func50, Tryz.ntmps50
      go_wp2_with fail
      refine HC.out.1.mono ?_
      rintro e w1 ⟨rfl, hb1⟩
      go_wp2
      go_ret2
      exact ⟨rfl, hb1⟩
    | some b =>
      rw [hb] at c51
      obtain ⟨S, eS⟩ : ∃ S : ByteArray, S = ⟨b.toArray⟩ := ⟨_, rfl⟩
      have hSs : S.size ≤ 1000000 := by
        have := hBl b hb
        rw [eS]
        show b.toArray.size ≤ _
        rw [List.size_toArray]
        have : x.data.toList.length = x.size := rfl
        omega
      have cF : ∀ w', Laid w' → Calls Tryz.prog 35 #[.string S] w' fun e w'' => e = .returned (.string ⟨(fileX S).toArray⟩) ∧ Below w'.heap.size w' w'' := fun w' h => cmd4_any S w' hSs h
      have eO : oneO fileX [x] = some (fileX S) := by rw [oneO, hb, eS]; rfl
      rw [eO]
      have c51' : Calls Tryz.prog 51 #[.string x] w fun e w' => e = .returned (.tuple #[.string S, .bool true]) ∧ Below w.heap.size w w' := by rw [eS]; exact c51
      obtain ⟨T, eT⟩ : ∃ T : ByteArray, T = ⟨(fileX S).toArray⟩ := ⟨_, rfl⟩
      rw [ansV, Option.getD_some, Option.isSome_some, ← eT]
      rw [← eT] at cF
      have HC := Lib.hid (And.intro c51' (And.intro cF (And.intro hL hB)))
      clear c51 c51' cF hL hb eO eS eT hSs hBl hB
      go_enter Tryz.func50, Tryz.ntmps50
      go_wp2_with fail
      refine HC.out.1.mono ?_
      rintro e w1 ⟨rfl, hb1⟩
      have hL1 := HC.out.2.2.1.below hb1
      have hB1 : w1.cell? ⟨B, 0, none⟩ = some (.func (.func 35) #[] #[]) := by
        have := HC.out.2.2.2.below hb1 HC.out.2.2.2.lt
        rw [this.cell]; rfl
      have HL1 := Lib.hid hL1
      clear hL1
      go_wp2_with fail
      refine (HC.out.2.1 _ HL1.out).mono ?_
      rintro e w2 ⟨rfl, hb2⟩
      go_wp2
      go_ret2
      exact ⟨rfl, hb1.trans (hb2.mono hb1.size)⟩
  · rw [oneO_not h1]
    have h1' : ((ws.length : Int) == 1) = false := by rw [beq_eq_false_iff_ne]; omega
    have h1'' : ((ws.length : Int) != 1) = true := by rw [bne_iff_ne]; omega
    have h2 : ¬ (ws.length : Int) = 1 := by omega
    clear h1 hB hL hW hz
    go_enter Tryz.func50, Tryz.ntmps50
    go_wp2
    go_ret2
    exact ⟨rfl, Below.refl _ _⟩
end Go.Proofs.YtmhbkilpllgchaaGreatDoor
namespace Go.Proofs.YtmhbkilpllgchaaGreatDoor
open Go.RowKit BigFrame
set_option linter.unusedVariables false
set_option linter.unusedSimpArgs false

def splitX (x : ByteArray) : List UInt8 := toldL (okE x.data.toList) (Lib.join ((okN x.data.toList).map (·.data.toList)) [32])
def splitO : List ByteArray → Option (List UInt8)
  | [x] => some (splitX x)
  | _ => none
theorem splitO_not {ws : List ByteArray} (h : ws.length ≠ 1) : splitO ws = none := by
  match ws, h with
  | [], _ => rfl
  | [_], h => exact absurd rfl h
  | _ :: _ :: _, _ => rfl
theorem join_short (sep : List UInt8) : ∀ xs : List (List UInt8), (∀ x ∈ xs, x.length ≤ 24) → (Lib.join xs sep).length ≤ xs.length * (24 + sep.length)
  | [], _ => by rw [Lib.join_nil]; simp
  | [x], h => by rw [Lib.join_one]; have := h x (by simp); simp; omega
  | x :: y :: t, h => by
    have ih := join_short sep (y :: t) (fun z hz => h z (by simp [hz]))
    have hx := h x (by simp)
    have e : Lib.join (x :: y :: t) sep = x ++ (sep ++ Lib.join (y :: t) sep) := by
      simp [Lib.join, List.intercalate]
    rw [e, List.length_append, List.length_append]
    simp only [List.length_cons] at ih ⊢
    rw [Nat.add_mul _ 1]
    omega
theorem okN_short (l : List UInt8) : (∀ x ∈ (okN l).map (·.data.toList), x.length ≤ 24) ∧ (okN l).length ≤ 8 := by
  unfold okN
  cases h : namesL l with
  | none => simp
  | some ns =>
    have hh : ns = [] ∨ (ns.all nameL = true ∧ ns.length ≤ 8) := by
      unfold namesL at h
      split at h
      · split at h
        · exact .inl (Option.some.inj h).symm
        · split at h
          · rename_i g; rw [← Option.some.inj h]; exact .inr g
          · cases h
      · cases h
    rcases hh with rfl | ⟨h1, h2⟩
    · simp
    · refine ⟨fun x hx => ?_, by simpa using h2⟩
      simp only [Option.getD_some, List.map_map, List.mem_map] at hx
      obtain ⟨y, hy, rfl⟩ := hx
      have := List.all_eq_true.1 h1 y hy
      simp only [nameL, Bool.and_eq_true, decide_eq_true_eq] at this
      show (bs y).data.toList.length ≤ 24
      rw [bs_list]
      exact this.1.1.1.2

set_option maxRecDepth 100000 in
set_option maxHeartbeats 4000000 in
theorem csplit_any (ws : List ByteArray) (p : Option Addr) (c : Nat) (w : World) (hL : Laid w) (hW : Strs w p ws) (hz : ∀ x ∈ ws, x.size ≤ 100000 ∧ x.data.toList ≠ []) (hn : ws.length ≤ c) (hc : c ≤ 9223372036854775807) :
    Calls Tryz.prog 38 #[.slice p ws.length c] w fun e w' => e = .returned (ansV (splitO ws)) ∧ Below w.heap.size w w' := by
  by_cases h1 : ws.length = 1
  · obtain ⟨x, rfl⟩ := List.length_eq_one_iff.1 h1
    obtain ⟨g, o, rfl, hg, hcells⟩ := hW.form (by simp)
    have hx := hcells 0 x rfl
    rw [Nat.add_zero] at hx
    obtain ⟨hxs, hxn⟩ := hz x (by simp)
    have c65 := split_any x w (by omega)
    obtain ⟨hs1, hs2⟩ := okN_short x.data.toList
    have hjl := join_short [32] _ hs1
    rw [List.length_map] at hjl
    obtain ⟨ns, ens⟩ : ∃ ns, ns = okN x.data.toList := ⟨_, rfl⟩
    obtain ⟨E, eE⟩ : ∃ E, E = okE x.data.toList := ⟨_, rfl⟩
    have hE : 0 ≤ E ∧ E ≤ 1600 := by rw [eE, okE]; split <;> omega
    obtain ⟨J, eJ⟩ : ∃ J, J = Lib.join (ns.map (·.data.toList)) [32] := ⟨_, rfl⟩
    unfold SplitPost at c65
    rw [← ens, ← eE] at c65
    rw [← ens] at hjl hs1 hs2
    have cJ : ∀ w1 p1 c1, Strs w1 p1 ns → ns.length ≤ c1 → Calls Tryz.prog 66 #[.slice p1 ns.length c1, .string ⟨#[32]⟩] w1 fun e w' => e = .returned (.string ⟨J.toArray⟩) ∧ Below w1.heap.size w1 w' := fun w1 p1 c1 hS hc1 => by
      by_cases h0 : ns = []
      · have := t_strings_Join_none p1 c1 ⟨#[32]⟩ w1
        rw [eJ, h0]
        refine this.mono ?_
        rintro e w' ⟨rfl, rfl⟩
        exact ⟨rfl, Below.refl _ _⟩
      · obtain ⟨g1, o1, rfl, hg1, hc2⟩ := hS.form h0
        have := t_strings_Join g1 o1 c1 ns ⟨#[32]⟩ w1 hc2 hg1 (by omega) hc1 (by show (Lib.join _ [32]).length ≤ _; simp at hjl; omega)
        rw [eJ]; exact this
    have cT : ∀ w1, Laid w1 → Calls Tryz.prog 18 #[.int .i64 E, .string ⟨J.toArray⟩] w1 fun r w' => r = .returned (.string ⟨(toldL E J).toArray⟩) ∧ Below w1.heap.size w1 w' := fun w1 h => toldc_any E J w1 h (by omega) (by omega)
    have eO : splitO [x] = some (toldL E J) := by rw [splitO, splitX, eJ, eE, ens]
    rw [eO]
    obtain ⟨T, eT⟩ : ∃ T : ByteArray, T = ⟨(toldL E J).toArray⟩ := ⟨_, rfl⟩
    rw [ansV, Option.getD_some, Option.isSome_some, ← eT]
    rw [← eT] at cT
    obtain ⟨JB, eJB⟩ : ∃ JB : ByteArray, JB = ⟨J.toArray⟩ := ⟨_, rfl⟩
    rw [← eJB] at cT cJ
    have HC := Lib.hid (And.intro c65 (And.intro cJ (And.intro cT hL)))
    clear c65 cJ cT hL eO eT eJB eJ eE ens hs1 hs2 hjl hE hz hcells hW h1 hxn hn
    go_enter Tryz.func38, Tryz.ntmps38
    go_wp2_with fail
    refine HC.out.1.mono ?_
    rintro e w1 ⟨p1, c1, rfl, hS1, hb1, hc1⟩
    have HL1 := Lib.hid (HC.out.2.2.2.below hb1)
    have HS1 := Lib.hid (And.intro hS1 hc1)
    clear hS1 hc1
    go_wp2_with fail
    refine (HC.out.2.1 _ _ _ HS1.out.1 HS1.out.2).mono ?_
    rintro e w2 ⟨rfl, hb2⟩
    have hb3 := hb1.trans (hb2.mono hb1.size)
    go_wp2_with fail
    refine (HC.out.2.2.1 _ (HL1.out.below hb2)).mono ?_
    rintro e w3 ⟨rfl, hb4⟩
    go_wp2
    go_ret2
    exact ⟨rfl, hb3.trans (hb4.mono hb3.size)⟩
  · rw [splitO_not h1]
    have h1' : ((ws.length : Int) == 1) = false := by rw [beq_eq_false_iff_ne]; omega
    have h1'' : ((ws.length : Int) != 1) = true := by rw [bne_iff_ne]; omega
    have h2 : ¬ (ws.length : Int) = 1 := by omega
    clear h1 hL hW hz
    go_enter Tryz.func38, Tryz.ntmps38
    go_wp2
    go_ret2
    exact ⟨rfl, Below.refl _ _⟩
end Go.Proofs.YtmhbkilpllgchaaGreatDoor
namespace Go.Proofs.YtmhbkilpllgchaaGreatDoor
open Go.RowKit BigFrame
set_option linter.unusedVariables false
set_option linter.unusedSimpArgs false

/-- The bytes of all words. -/
def bytesAll : List ByteArray → Option (List (List UInt8))
  | [] => some []
  | x :: t => match bytesO x.data.toList, bytesAll t with
    | some b, some l => some (b :: l)
    | _, _ => none
def rootO (ws : List ByteArray) : Option (List UInt8) := (bytesAll ws).map fun l => hexL (rootL l)
theorem bytesAll_app : ∀ (a : List ByteArray) (la : List (List UInt8)) (b : List ByteArray), bytesAll a = some la → bytesAll (a ++ b) = (bytesAll b).map (la ++ ·)
  | [], la, b, h => by rw [bytesAll] at h; cases h; simp
  | x :: a, la, b, h => by
    rw [bytesAll] at h
    split at h
    · rename_i p q h1 h2
      cases h
      rw [List.cons_append, bytesAll, h1, bytesAll_app a q b h2]
      cases bytesAll b with
      | none => rfl
      | some l => rfl
    · cases h
theorem bytesAll_next {ws : List ByteArray} {j : Nat} {x : ByteArray} {ls : List (List UInt8)} (h : bytesAll (ws.take j) = some ls) (hx : ws[j]? = some x) {b : List UInt8} (hb : bytesO x.data.toList = some b) : bytesAll (ws.take (j + 1)) = some (ls ++ [b]) := by
  rw [List.take_add_one, hx, bytesAll_app _ ls _ h]
  show (bytesAll [x]).map _ = _
  rw [bytesAll, hb]; rfl
theorem bytesAll_bad {ws : List ByteArray} {j : Nat} {x : ByteArray} {ls : List (List UInt8)} (h : bytesAll (ws.take j) = some ls) (hx : ws[j]? = some x) (hb : bytesO x.data.toList = none) : bytesAll ws = none := by
  have hj : j < ws.length := (List.getElem?_eq_some_iff.1 hx).1
  have hg : ws[j] = x := (List.getElem?_eq_some_iff.1 hx).2
  rw [← List.take_append_drop j ws, bytesAll_app _ ls _ h, List.drop_eq_getElem_cons hj, hg, bytesAll, hb]
  rfl

theorem rootm_own {w : World} {base : Nat} {p : Option Addr} {c : Nat} {ns : List ByteArray} (h : w.ownsRow base 9 1 (.slice p ns.length c) ns.length (ns.map Value.string)) (hz : ∀ s ∈ ns, s.size ≤ 1000000) (hn : ns.length ≤ 1000000) :
    Calls Tryz.prog 64 #[.slice p ns.length c] w fun e w' => e = .returned (.agg (bcells (rootL (ns.map (·.data.toList))))) ∧ Below w.heap.size w w' := by
  by_cases h0 : ns = []
  · subst h0
    exact rootm_nil p c w
  · obtain ⟨g, o, rfl, hg, hc⟩ := (strs_of_row h).form h0
    have hcap := rowS_cap h
    have hmax : c ≤ 9223372036854775807 := by
      rcases h.2 with ⟨e, _⟩ | ⟨g, cap, cur, e, _, _, _, hm, _⟩
      · injection e with _ _ e; omega
      · injection e with _ _ e; simp only [maxLen] at hm; omega
    exact rootm_some ns.length ns (Nat.le_refl _) h0 g o c w hc hg hcap hmax hz hn

set_option maxRecDepth 100000 in
set_option maxHeartbeats 8000000 in
theorem croot_any (ws : List ByteArray) (p : Option Addr) (c : Nat) (w : World) (hW : Strs w p ws) (hz : ∀ x ∈ ws, x.size ≤ 100000 ∧ x.data.toList ≠ []) (hn : ws.length ≤ c) (hc : c ≤ 9223372036854775807) (hn2 : ws.length ≤ 100000) :
    Calls Tryz.prog 37 #[.slice p ws.length c] w fun e w' => e = .returned (ansV (rootO ws)) ∧ Below w.heap.size w w' := by
  obtain ⟨i0, hi0, hz0, hz1, hz2⟩ := info_parts info9
  obtain ⟨n, en⟩ : ∃ n, n = ws.length := ⟨_, rfl⟩
  rw [← en] at hn hn2 ⊢
  have hn2' : (n : Int) ≤ 100000 := by omega
  have EN := Lib.hid en
  have HW := Lib.hid (And.intro hW hz)
  clear en hW hz
  go_enter Tryz.func37, Tryz.ntmps37
  go_wp2
  go_loopw [4, 6, 7, 8, 11] (fun t4 _ _ _ t11 wr => ∃ (q : Option Addr) (j c' : Nat) (ns : List ByteArray) (xs : List Value), t4 = .slice q j c' ∧ t11 = .int .i64 (j : Int) ∧ j ≤ n ∧ wr.ownsRow w.heap.size 9 1 (.slice q j c') j xs ∧ Hid (j = ns.length) ∧ Hid (xs = ns.map Value.string) ∧ Hid (bytesAll (ws.take j) = some (ns.map (·.data.toList))) ∧ Hid (∀ x ∈ ns, x.size ≤ 1000000) ∧ Below w.heap.size w wr) (fun _ _ _ _ t11 _ => n - (intOf t11).toNat)
  case atStart => exact ⟨none, 0, 0, [], [], rfl, rfl, Nat.zero_le _, World.ownsRow_nil _ _ _ _, Lib.hid rfl, Lib.hid rfl, Lib.hid rfl, Lib.hid (fun x hx => by cases hx), Below.refl _ _⟩
  case round =>
    obtain ⟨q, j, c', ns, xs, rfl, rfl, hjn, hR, HJ, HXS, HB, HZ, hbw⟩ := hrel
    have hwr := hbw.size
    by_cases hlt : j < n
    · have hlt' : (j : Int) < (n : Int) := by omega
      obtain ⟨x, hx⟩ : ∃ x, ws[j]? = some x := by
        have : j < ws.length := by rw [← EN.out]; exact hlt
        exact ⟨_, List.getElem?_eq_getElem this⟩
      have hne : ws ≠ [] := fun e => by rw [e] at hx; cases hx
      obtain ⟨g, o, rfl, hg, hcells⟩ := (HW.out.1.below hbw).form hne
      have hcell := hcells j x hx
      obtain ⟨hxs, hxn⟩ := HW.out.2 x (List.mem_of_getElem? hx)
      have c51 := bytesc_any x wr hxs hxn
      have hlen := bytesO_length x.data.toList
      have hgc : j < c := by omega
      cases hb : bytesO x.data.toList with
      | none =>
        rw [hb] at c51
        have hno : rootO ws = none := by rw [rootO, bytesAll_bad HB.out hx hb]; rfl
        have HC := Lib.hid (And.intro c51 hno)
        clear c51 hno hb hlen hcells hne hx hxn
        go_wp2_with fail
        refine HC.out.1.mono ?_
        rintro e w1 ⟨rfl, hb1⟩
        go_wp2
        go_ret2
        refine ⟨?_, hbw.trans (hb1.mono hwr)⟩
        rw [HC.out.2]; rfl
      | some b =>
        rw [hb] at c51
        obtain ⟨S, eS⟩ : ∃ S : ByteArray, S = ⟨b.toArray⟩ := ⟨_, rfl⟩
        have hSb : S.data.toList = b := by rw [eS]
        have hSs : S.size ≤ 1000000 := by
          have := hlen b hb
          rw [eS]
          show b.toArray.size ≤ _
          rw [List.size_toArray]
          have : x.data.toList.length = x.size := rfl
          omega
        have c51' : Calls Tryz.prog 51 #[.string x] wr fun e w' => e = .returned (.tuple #[.string S, .bool true]) ∧ Below wr.heap.size wr w' := by rw [eS]; exact c51
        have hB2 := bytesAll_next HB.out hx hb
        rw [← hSb] at hB2
        have HC := Lib.hid (And.intro c51' (And.intro hB2 hSs))
        clear c51 c51' hB2 hSs eS hSb hb hlen hcells hne hx hxn
        go_wp2_with fail
        refine HC.out.1.mono ?_
        rintro e w1 ⟨rfl, hb1⟩
        have hR1 := row_below hR hb1
        have hbw1 := hbw.trans (hb1.mono hwr)
        have hsz := hbw1.size
        have hRA : (w1.alloc (.cells #[.string S] 9)).ownsRow w.heap.size 9 1 (.slice q j c') j xs := own_kept hR1 (World.grownBy_alloc w1 _ none) (fun r e => by cases e)
        have hsrc : Src Tryz.prog 1 28 (.slice (some ⟨w1.heap.size, 0, none⟩) 1 1) 1 [.string S] (w1.alloc (.cells #[.string S] 9)) := by
          have := src_strs (strs_new (w := w1.alloc (.cells #[.string S] 9)) [S] (Blk.new w1 9 _)) 1
          exact this
        have b1 : j + 1 ≤ maxLen := by simp only [maxLen]; omega
        have b2 : (j + 1) * 16 ≤ 140737488355328 := by omega
        have b3 : w.heap.size ≤ (w1.alloc (.cells #[.string S] 9)).heap.size := by rw [World.size_alloc]; omega
        have hBA : Below w.heap.size w (w1.alloc (.cells #[.string S] 9)) := hbw1.alloc hsz _
        clear hR1
        go_wp2_with (at_builtin; refine wpList_app _ w.heap.size 9 i0 (.string ⟨#[]⟩) 1 16 Tryz.underlying28 hi0 hz0 hz1 hz2 rfl (.slice q j c') j xs rfl hRA (.slice (some ⟨w1.heap.size, 0, none⟩) 1 1) 1 [.string S] rfl hsrc b1 b2 b3 ?_; intro v5 w5 hR5 hg5 _ _; obtain ⟨p5, c5, rfl⟩ := row_slice hR5; simp only [List.setIfInBounds_toArray, List.set_cons_succ, List.set_cons_zero])
        go_roundw
        case rel => exact ⟨p5, j + 1, c5, ns ++ [S], xs ++ [.string S], rfl, by go_num, by omega, hR5, Lib.hid (by rw [List.length_append, ← HJ.out]; rfl), Lib.hid (by rw [List.map_append, ← HXS.out]; rfl), Lib.hid (by rw [List.map_append]; exact HC.out.2.1), Lib.hid (fun y hy => by
          rcases List.mem_append.1 hy with h | h
          · exact HZ.out y h
          · simp at h; rw [h]; exact HC.out.2.2), hBA.grown hg5 b3 (fun g e => (hRA.lt g e).1)⟩
        case measure => simp [intOf]; omega
    · have ej : n = j := by omega
      have hlt' : ¬ (j : Int) < (n : Int) := by omega
      have hall : bytesAll ws = some (ns.map (·.data.toList)) := by
        have := HB.out
        rw [← ej, EN.out, List.take_length] at this
        exact this
      have hRR := hR
      rw [HXS.out, HJ.out] at hRR
      have c64 := rootm_own hRR HZ.out (by rw [← HJ.out]; omega)
      rw [← HJ.out] at c64
      obtain ⟨A, eA⟩ : ∃ A, A = rootL (ns.map (·.data.toList)) := ⟨_, rfl⟩
      have hAl : A.length = 32 := by rw [eA]; exact rootL_length _
      rw [← eA] at c64
      have c29 := hexc_any A hAl
      have eO : rootO ws = some (hexL A) := by rw [rootO, hall, eA]; rfl
      obtain ⟨T, eT⟩ : ∃ T : ByteArray, T = ⟨(hexL A).toArray⟩ := ⟨_, rfl⟩
      have eV : ansV (rootO ws) = .tuple #[.string T, .bool true] := by rw [eO, ansV, Option.getD_some, Option.isSome_some, ← eT]
      rw [← eT] at c29
      have HC := Lib.hid (And.intro c64 (And.intro c29 eV))
      clear c64 c29 eT eO eV eA hAl hRR hall hlt
      subst ej
      go_wp2_with fail
      refine HC.out.1.mono ?_
      rintro e w1 ⟨rfl, hb1⟩
      have hb2 := hbw.trans (hb1.mono hwr)
      go_wp2_with fail
      refine (HC.out.2.1 _).mono ?_
      rintro e w2 ⟨rfl, hb3⟩
      go_wp2
      go_ret2
      exact ⟨by rw [HC.out.2.2]; rfl, hb2.trans (hb3.mono hb2.size)⟩
end Go.Proofs.YtmhbkilpllgchaaGreatDoor
