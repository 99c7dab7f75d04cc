/- The law's one. What certain scripts tell, in plain Lean. The law's one: object, file, split; all. The law's awake. -/
import Derived.Test.YtmhbkilpllgchaaGreatDoorCv
import Derived.Test.YtmhbkilpllgchaaGreatDoorRsp
namespace Go.Proofs.YtmhbkilpllgchaaGreatDoor
open Go.RowKit BigFrame
set_option linter.unusedVariables false
set_option linter.unusedSimpArgs false

theorem join_snoc (sep : List UInt8) : ∀ (xs : List (List UInt8)) (x : List UInt8), xs ≠ [] → Lib.join (xs ++ [x]) sep = Lib.join xs sep ++ (sep ++ x)
  | [], x, h => absurd rfl h
  | [a], x, _ => by simp [Lib.join, List.intercalate]
  | a :: b :: t, x, _ => by
    have ih := join_snoc sep (b :: t) x (by simp)
    have e : ∀ l : List (List UInt8), ∀ c, Lib.join (a :: c :: l) sep = a ++ (sep ++ Lib.join (c :: l) sep) := fun l c => by simp [Lib.join, List.intercalate]
    rw [show (a :: b :: t) ++ [x] = a :: b :: (t ++ [x]) from rfl, e, show b :: (t ++ [x]) = (b :: t) ++ [x] from rfl, ih, e]
    simp

theorem ba_ne {x : ByteArray} {l : List UInt8} (h : x ≠ ⟨l.toArray⟩) : ¬ x.toList = l := fun e => h (by
  apply ba_ext3
  rw [← Lib.toList_data, e])
theorem ba_beq {x : ByteArray} {l : List UInt8} (h : x ≠ ⟨l.toArray⟩) : (x.toList == l) = false := by rw [beq_eq_false_iff_ne]; exact ba_ne h
theorem bad_eq : (⟨(errT 2700).toArray⟩ : ByteArray) = ⟨#[101, 114, 114, 111, 114, 32, 50, 55, 48, 48]⟩ := by
  have : errT 2700 = [101, 114, 114, 111, 114, 32, 50, 55, 48, 48] := by decide +kernel
  rw [this]

theorem cmdO_bad {c x : ByteArray} (h1 : c ≠ nSplit) (h2 : c ≠ nRoot) (hb : bytesO x.data.toList = none) : cmdO c [x] = none := by
  unfold cmdO
  rw [if_neg h2, if_neg h1]
  simp only [oneO, hb, Option.map_none, ite_self]
theorem cmdO_other {c : ByteArray} {args : List ByteArray} (h1 : c ≠ nSha) (h2 : c ≠ nLeaf) (h3 : c ≠ nObject) (h4 : c ≠ nFile) (h5 : c ≠ nRoot) (h6 : c ≠ nSplit) : cmdO c args = none := by
  unfold cmdO
  rw [if_neg h1, if_neg h2, if_neg h3, if_neg h4, if_neg h5, if_neg h6]

set_option maxRecDepth 100000 in
set_option maxHeartbeats 8000000 in
theorem one_none (c x : ByteArray) (w : World) (hs : x.size ≤ 100000) (hne : x.data.toList ≠ []) (h1 : c ≠ nSplit) (h2 : c ≠ nRoot) (hb : bytesO x.data.toList = none) :
    Calls Tryz.prog 24 #[.string c, .string x] w fun e w' => e = .returned (.string ⟨(ansX c [x]).toArray⟩) ∧ Below w.heap.size w w' := by
  have c22 := bytesl_any x w hs hne
  rw [hb] at c22
  rw [ansX, cmdO_bad h1 h2 hb, Option.getD_none, bad_eq]
  have n1 := ba_ne (l := [115, 112, 108, 105, 116]) h1
  have n2 := ba_beq (l := [115, 112, 108, 105, 116]) h1
  have HC := Lib.hid c22
  clear c22 hb h1 h2 hne hs
  go_enter Tryz.func24, Tryz.ntmps24
  go_wp2_with fail
  refine HC.out.mono ?_
  rintro e w1 ⟨rfl, hb1⟩
  go_wp2
  go_ret
  exact ⟨rfl, hb1⟩

set_option maxRecDepth 100000 in
set_option maxHeartbeats 8000000 in
theorem one_other (c x : ByteArray) (w : World) (hs : x.size ≤ 100000) (hne : x.data.toList ≠ []) (h1 : c ≠ nSha) (h2 : c ≠ nLeaf) (h3 : c ≠ nObject) (h4 : c ≠ nFile) (h5 : c ≠ nRoot) (h6 : c ≠ nSplit) (b : List UInt8) (hb : bytesO x.data.toList = some b) :
    Calls Tryz.prog 24 #[.string c, .string x] w fun e w' => e = .returned (.string ⟨(ansX c [x]).toArray⟩) ∧ Below w.heap.size w w' := by
  have c22 := bytesl_any x w hs hne
  rw [hb] at c22
  rw [ansX, cmdO_other h1 h2 h3 h4 h5 h6, Option.getD_none, bad_eq]
  have a1 := ba_ne (l := [115, 112, 108, 105, 116]) h6
  have a2 := ba_beq (l := [115, 112, 108, 105, 116]) h6
  have b1 := ba_ne (l := [115, 104, 97]) h1
  have b2 := ba_beq (l := [115, 104, 97]) h1
  have d1 := ba_ne (l := [108, 101, 97, 102]) h2
  have d2 := ba_beq (l := [108, 101, 97, 102]) h2
  have f1 := ba_ne (l := [111, 98, 106, 101, 99, 116]) h3
  have f2 := ba_beq (l := [111, 98, 106, 101, 99, 116]) h3
  have g1 := ba_ne (l := [102, 105, 108, 101]) h4
  have g2 := ba_beq (l := [102, 105, 108, 101]) h4
  obtain ⟨S, eS⟩ : ∃ S : ByteArray, S = ⟨((some b).getD []).toArray⟩ := ⟨_, rfl⟩
  rw [← eS] at c22
  have HC := Lib.hid c22
  clear c22 hb h1 h2 h3 h4 h5 h6 hne hs eS
  go_enter Tryz.func24, Tryz.ntmps24
  go_wp2_with fail
  refine HC.out.mono ?_
  rintro e w1 ⟨rfl, hb1⟩
  go_wp2
  go_ret
  exact ⟨rfl, hb1⟩

set_option maxRecDepth 100000 in
set_option maxHeartbeats 8000000 in
theorem one_sha (x : ByteArray) (w : World) (hs : x.size ≤ 100000) (hne : x.data.toList ≠ []) (b : List UInt8) (hb : bytesO x.data.toList = some b) :
    Calls Tryz.prog 24 #[.string nSha, .string x] w fun e w' => e = .returned (.string ⟨(ansX nSha [x]).toArray⟩) ∧ Below w.heap.size w w' := by
  have c22 := bytesl_any x w hs hne
  rw [hb] at c22
  have hlen := bytesO_length _ b hb
  obtain ⟨S, eS⟩ : ∃ S : ByteArray, S = ⟨b.toArray⟩ := ⟨_, rfl⟩
  have hSs : S.size ≤ 1000000 := by
    rw [eS]
    show b.toArray.size ≤ _
    rw [List.size_toArray]
    have : x.data.toList.length = x.size := rfl
    omega
  have c22' : Calls Tryz.prog 22 #[.string x] w fun e w' => e = .returned (.tuple #[.string S, .bool true]) ∧ Below w.heap.size w w' := by rw [eS]; exact c22
  have hans : ansX nSha [x] = shaX S := by
    rw [ansX, show cmdO nSha [x] = oneO shaX [x] from by unfold cmdO; simp [nSha, nLeaf, nObject, nFile, nRoot, nSplit], oneO, hb, eS]; rfl
  rw [hans]
  clear c22 hb hans hlen eS hne hs
  obtain ⟨A, eA⟩ : ∃ A, A = sha S.data.toList := ⟨_, rfl⟩
  have hAl : A.length = 32 := by rw [eA]; exact sha_length _
  have c1 := fun w' => refsha_any S w' (by omega)
  rw [← eA] at c1
  have c2 := hexl_any A hAl
  have eX : shaX S = hexL A := by rw [shaX, eA]
  rw [eX]
  obtain ⟨R, eR⟩ : ∃ R : ByteArray, R = ⟨(hexL A).toArray⟩ := ⟨_, rfl⟩
  rw [← eR] at c2 ⊢
  have HC := Lib.hid (And.intro c22' (And.intro c1 c2))
  clear c22' c1 c2 eA eX eR hAl hSs
  obtain ⟨c, ec⟩ : ∃ c, c = nSha := ⟨_, rfl⟩
  have q0 : c.toList = [115, 104, 97] := by rw [ec, Lib.toList_data]; rfl
  have r0 : (c.toList == [115, 104, 97]) = true := by rw [q0]; rfl
  have q1 : ¬ c.toList = [108, 101, 97, 102] := ba_ne (by rw [ec]; decide)
  have r1 : (c.toList == [108, 101, 97, 102]) = false := ba_beq (by rw [ec]; decide)
  have q2 : ¬ c.toList = [111, 98, 106, 101, 99, 116] := ba_ne (by rw [ec]; decide)
  have r2 : (c.toList == [111, 98, 106, 101, 99, 116]) = false := ba_beq (by rw [ec]; decide)
  have q3 : ¬ c.toList = [102, 105, 108, 101] := ba_ne (by rw [ec]; decide)
  have r3 : (c.toList == [102, 105, 108, 101]) = false := ba_beq (by rw [ec]; decide)
  have q4 : ¬ c.toList = [115, 112, 108, 105, 116] := ba_ne (by rw [ec]; decide)
  have r4 : (c.toList == [115, 112, 108, 105, 116]) = false := ba_beq (by rw [ec]; decide)
  rw [← ec]
  clear ec
  go_enter Tryz.func24, Tryz.ntmps24
  go_wp2_with fail
  refine HC.out.1.mono ?_
  rintro e w1 ⟨rfl, hb1⟩
  go_wp2_with fail
  refine (HC.out.2.1 _).mono ?_
  rintro e w2 ⟨rfl, hb2⟩
  have hb3 := hb1.trans (hb2.mono hb1.size)
  go_wp2_with fail
  refine (HC.out.2.2 _).mono ?_
  rintro e w3 ⟨rfl, hb4⟩
  go_wp2
  go_ret
  exact ⟨rfl, hb3.trans (hb4.mono hb3.size)⟩


set_option maxRecDepth 100000 in
set_option maxHeartbeats 8000000 in
theorem one_leaf (x : ByteArray) (w : World) (hs : x.size ≤ 100000) (hne : x.data.toList ≠ []) (b : List UInt8) (hb : bytesO x.data.toList = some b) :
    Calls Tryz.prog 24 #[.string nLeaf, .string x] w fun e w' => e = .returned (.string ⟨(ansX nLeaf [x]).toArray⟩) ∧ Below w.heap.size w w' := by
  have c22 := bytesl_any x w hs hne
  rw [hb] at c22
  have hlen := bytesO_length _ b hb
  obtain ⟨S, eS⟩ : ∃ S : ByteArray, S = ⟨b.toArray⟩ := ⟨_, rfl⟩
  have hSs : S.size ≤ 1000000 := by
    rw [eS]
    show b.toArray.size ≤ _
    rw [List.size_toArray]
    have : x.data.toList.length = x.size := rfl
    omega
  have c22' : Calls Tryz.prog 22 #[.string x] w fun e w' => e = .returned (.tuple #[.string S, .bool true]) ∧ Below w.heap.size w w' := by rw [eS]; exact c22
  have hans : ansX nLeaf [x] = leafX S := by
    rw [ansX, show cmdO nLeaf [x] = oneO leafX [x] from by unfold cmdO; simp [nSha, nLeaf, nObject, nFile, nRoot, nSplit], oneO, hb, eS]; rfl
  rw [hans]
  clear c22 hb hans hlen eS hne hs
  obtain ⟨A, eA⟩ : ∃ A, A = leafH S.data.toList := ⟨_, rfl⟩
  have hAl : A.length = 32 := by rw [eA]; exact leafH_length _
  have c1 := fun w' => leafr_any S w' (by omega)
  rw [← eA] at c1
  have c2 := hexl_any A hAl
  have eX : leafX S = hexL A := by rw [leafX, eA]
  rw [eX]
  obtain ⟨R, eR⟩ : ∃ R : ByteArray, R = ⟨(hexL A).toArray⟩ := ⟨_, rfl⟩
  rw [← eR] at c2 ⊢
  have HC := Lib.hid (And.intro c22' (And.intro c1 c2))
  clear c22' c1 c2 eA eX eR hAl hSs
  obtain ⟨c, ec⟩ : ∃ c, c = nLeaf := ⟨_, rfl⟩
  have q0 : ¬ c.toList = [115, 104, 97] := ba_ne (by rw [ec]; decide)
  have r0 : (c.toList == [115, 104, 97]) = false := ba_beq (by rw [ec]; decide)
  have q1 : c.toList = [108, 101, 97, 102] := by rw [ec, Lib.toList_data]; rfl
  have r1 : (c.toList == [108, 101, 97, 102]) = true := by rw [q1]; rfl
  have q2 : ¬ c.toList = [111, 98, 106, 101, 99, 116] := ba_ne (by rw [ec]; decide)
  have r2 : (c.toList == [111, 98, 106, 101, 99, 116]) = false := ba_beq (by rw [ec]; decide)
  have q3 : ¬ c.toList = [102, 105, 108, 101] := ba_ne (by rw [ec]; decide)
  have r3 : (c.toList == [102, 105, 108, 101]) = false := ba_beq (by rw [ec]; decide)
  have q4 : ¬ c.toList = [115, 112, 108, 105, 116] := ba_ne (by rw [ec]; decide)
  have r4 : (c.toList == [115, 112, 108, 105, 116]) = false := ba_beq (by rw [ec]; decide)
  rw [← ec]
  clear ec
  go_enter Tryz.func24, Tryz.ntmps24
  go_wp2_with fail
  refine HC.out.1.mono ?_
  rintro e w1 ⟨rfl, hb1⟩
  go_wp2_with fail
  refine (HC.out.2.1 _).mono ?_
  rintro e w2 ⟨rfl, hb2⟩
  have hb3 := hb1.trans (hb2.mono hb1.size)
  go_wp2_with fail
  refine (HC.out.2.2 _).mono ?_
  rintro e w3 ⟨rfl, hb4⟩
  go_wp2
  go_ret
  exact ⟨rfl, hb3.trans (hb4.mono hb3.size)⟩

end Go.Proofs.YtmhbkilpllgchaaGreatDoor
namespace Go.Proofs.YtmhbkilpllgchaaGreatDoor
open Go.RowKit
set_option linter.unusedVariables false
set_option linter.unusedSimpArgs false

theorem linesL_app : ∀ a b : List UInt8, linesL (a ++ 10 :: b) = linesL a ++ linesL b
  | [], b => by
    show (if (10 : UInt8) = 10 then [] :: linesL b else headC 10 (linesL b)) = _
    rw [if_pos rfl]; rfl
  | c :: a, b => by
    have ih := linesL_app a b
    rw [List.cons_append, linesL, linesL, ih]
    by_cases h : c = 10
    · rw [if_pos h, if_pos h]; rfl
    · rw [if_neg h, if_neg h]
      cases hq : linesL a with
      | nil => exact absurd hq (linesL_ne a)
      | cons x r => rfl
theorem linesL_one : ∀ a : List UInt8, (∀ b ∈ a, b ≠ 10) → linesL a = [a]
  | [], _ => rfl
  | c :: a, h => by
    rw [linesL, if_neg (h c (by simp)), linesL_one a (fun b hb => h b (by simp [hb]))]; rfl
theorem lineX_empty : lineX ⟨#[]⟩ = [] := rfl
theorem lineX_of {l c : ByteArray} {args : List ByteArray} (h : wordsL l = c :: args) (hc : c.data.toList.head? ≠ some 35) : lineX l = ansX c args ++ [10] := by
  rw [lineX, h, wordsX, if_neg hc]
theorem lineX_bad {l c : ByteArray} {args : List ByteArray} (h : wordsL l = c :: args) (hc : c.data.toList.head? ≠ some 35) (hn : cmdO c args = none) : lineX l = errT 2700 ++ [10] := by
  rw [lineX_of h hc, ansX, hn]; rfl
theorem err2700 : errT 2700 = [101, 114, 114, 111, 114, 32, 50, 55, 48, 48] := by decide +kernel
theorem err1600 : errT 1600 = [101, 114, 114, 111, 114, 32, 49, 54, 48, 48] := by decide +kernel
theorem ansX_sha (x : ByteArray) (b : List UInt8) (hb : bytesO x.data.toList = some b) : ansX nSha [x] = hexL (sha b) := by
  rw [ansX, show cmdO nSha [x] = oneO shaX [x] from by unfold cmdO; simp [nSha, nLeaf, nObject, nFile, nRoot, nSplit], oneO, hb]; rfl
theorem ansX_file (x : ByteArray) (b : List UInt8) (hb : bytesO x.data.toList = some b) (hl : b.length ≤ 4096) : ansX nFile [x] = hexL (rootH b) := by
  have hs : (⟨b.toArray⟩ : ByteArray).size ≤ 4096 := by
    show b.toArray.size ≤ _
    rw [List.size_toArray]; exact hl
  rw [ansX, show cmdO nFile [x] = oneO fileX [x] from by unfold cmdO; simp [nSha, nLeaf, nObject, nFile, nRoot, nSplit], oneO, hb]
  show fileX ⟨b.toArray⟩ = _
  rw [fileX, errF, if_pos hs, hashF, if_pos hs, toldL, if_pos rfl]
theorem ansX_split (x : ByteArray) : ansX nSplit [x] = splitX x := by
  rw [ansX, show cmdO nSplit [x] = splitO [x] from by unfold cmdO; simp [nSha, nLeaf, nObject, nFile, nRoot, nSplit]]; rfl
theorem cmdO_many {c : ByteArray} {args : List ByteArray} (h : args.length ≠ 1) (h5 : c ≠ nRoot) : cmdO c args = none := by
  have h1 : ∀ f, oneO f args = none := fun f => by
    match args, h with
    | [], _ => rfl
    | [x], h => exact absurd rfl h
    | a :: b :: t, _ => rfl
  unfold cmdO
  simp only [h1, if_neg h5, splitO_not h, ite_self]
theorem cmdO_root (args : List ByteArray) : cmdO nRoot args = rootO args := by unfold cmdO; simp [nSha, nLeaf, nObject, nFile, nRoot, nSplit]
theorem rootO_bad {args : List ByteArray} (h : bytesAll args = none) : rootO args = none := by rw [rootO, h]; rfl

/-! ### awake's script -/
def awakeS : ByteArray := ⟨#[115, 104, 97, 32, 54, 49, 54, 50, 54, 51, 10, 35, 32, 120, 10, 10, 115, 112, 108, 105, 116, 32, 47, 97, 47, 98, 10, 102, 114, 111, 98, 10, 102, 105, 108, 101, 32, 45, 10, 115, 112, 108, 105, 116, 32, 97]⟩
theorem awake_lines : lines awakeS = [⟨#[115, 104, 97, 32, 54, 49, 54, 50, 54, 51]⟩, ⟨#[35, 32, 120]⟩, ⟨#[]⟩, ⟨#[115, 112, 108, 105, 116, 32, 47, 97, 47, 98]⟩, ⟨#[102, 114, 111, 98]⟩, ⟨#[102, 105, 108, 101, 32, 45]⟩, ⟨#[115, 112, 108, 105, 116, 32, 97]⟩] := by decide +kernel
def awakeA : List UInt8 := [10, 97, 32, 98, 10, 101, 114, 114, 111, 114, 32, 50, 55, 48, 48, 10]
def awakeB : List UInt8 := [10, 101, 114, 114, 111, 114, 32, 49, 54, 48, 48, 10]
theorem rootH_nil : rootH [] = objH ⟨#[82, 0]⟩ := rfl
theorem awake_run : runF awakeS = ((hexL (sha [97, 98, 99]) ++ awakeA) ++ hexL (objH ⟨#[82, 0]⟩)) ++ awakeB := by
  have w0 : wordsL ⟨#[115, 104, 97, 32, 54, 49, 54, 50, 54, 51]⟩ = [nSha, ⟨#[54, 49, 54, 50, 54, 51]⟩] := by decide +kernel
  have w1 : wordsL ⟨#[35, 32, 120]⟩ = [⟨#[35]⟩, ⟨#[120]⟩] := by decide +kernel
  have w3 : wordsL ⟨#[115, 112, 108, 105, 116, 32, 47, 97, 47, 98]⟩ = [nSplit, ⟨#[47, 97, 47, 98]⟩] := by decide +kernel
  have w4 : wordsL ⟨#[102, 114, 111, 98]⟩ = [⟨#[102, 114, 111, 98]⟩] := by decide +kernel
  have w5 : wordsL ⟨#[102, 105, 108, 101, 32, 45]⟩ = [nFile, ⟨#[45]⟩] := by decide +kernel
  have w6 : wordsL ⟨#[115, 112, 108, 105, 116, 32, 97]⟩ = [nSplit, ⟨#[97]⟩] := by decide +kernel
  have x0 := lineX_of w0 (by decide)
  rw [ansX_sha _ [97, 98, 99] (by decide +kernel)] at x0
  have x1 : lineX ⟨#[35, 32, 120]⟩ = [] := by rw [lineX, w1]; rfl
  have x3 := lineX_of w3 (by decide)
  rw [ansX_split, show splitX ⟨#[47, 97, 47, 98]⟩ = [97, 32, 98] from by decide +kernel] at x3
  have x4 := lineX_bad w4 (by decide) (cmdO_many (by decide) (by decide))
  rw [err2700] at x4
  have x5 := lineX_of w5 (by decide)
  rw [ansX_file _ [] (by decide +kernel) (by decide), rootH_nil] at x5
  have x6 := lineX_of w6 (by decide)
  rw [ansX_split, show splitX ⟨#[97]⟩ = [101, 114, 114, 111, 114, 32, 49, 54, 48, 48] from by decide +kernel] at x6
  rw [runF, if_neg (by decide), awake_lines]
  obtain ⟨X, eX⟩ : ∃ X, X = hexL (sha [97, 98, 99]) := ⟨_, rfl⟩
  obtain ⟨Y, eY⟩ : ∃ Y, Y = hexL (objH ⟨#[82, 0]⟩) := ⟨_, rfl⟩
  rw [← eX] at x0 ⊢
  rw [← eY] at x5 ⊢
  simp only [runL, List.map_cons, List.map_nil, x0, x1, lineX_empty, x3, x4, x5, x6, awakeA, awakeB]
  simp

/-! ### ConsoleWrong's lines -/
def wrongs : List ByteArray := [⟨#[115, 104, 97]⟩, ⟨#[115, 104, 97, 32, 48]⟩, ⟨#[115, 104, 97, 32, 48, 103]⟩, ⟨#[115, 104, 97, 32, 48, 48, 32, 48, 48]⟩, ⟨#[114, 111, 111, 116, 32, 48]⟩, ⟨#[108, 101, 97, 102, 32, 65, 66]⟩, ⟨#[102, 105, 108, 101, 32, 48, 120]⟩, ⟨#[115, 112, 108, 105, 116]⟩, ⟨#[115, 112, 108, 105, 116, 32, 47, 32, 47]⟩, ⟨#[111, 98, 106, 101, 99, 116]⟩, ⟨#[102, 114, 111, 98, 32, 48, 48]⟩, ⟨#[114, 111, 111, 116, 32, 45, 32, 45, 45, 32]⟩, ⟨#[83, 72, 65, 32, 45]⟩]
theorem wrong_line (l : ByteArray) (h : l ∈ wrongs) : lineX l = errT 2700 ++ [10] := by
  simp only [wrongs, List.mem_cons, List.not_mem_nil, or_false] at h
  rcases h with rfl | rfl | rfl | rfl | rfl | rfl | rfl | rfl | rfl | rfl | rfl | rfl | rfl
  · exact lineX_bad (c := nSha) (args := []) (by decide +kernel) (by decide) (cmdO_many (by decide) (by decide))
  · exact lineX_bad (c := nSha) (args := [⟨#[48]⟩]) (by decide +kernel) (by decide) (cmdO_bad (by decide) (by decide) (by decide +kernel))
  · exact lineX_bad (c := nSha) (args := [⟨#[48, 103]⟩]) (by decide +kernel) (by decide) (cmdO_bad (by decide) (by decide) (by decide +kernel))
  · exact lineX_bad (c := nSha) (args := [⟨#[48, 48]⟩, ⟨#[48, 48]⟩]) (by decide +kernel) (by decide) (cmdO_many (by decide) (by decide))
  · exact lineX_bad (c := nRoot) (args := [⟨#[48]⟩]) (by decide +kernel) (by decide) (by rw [cmdO_root]; exact rootO_bad (by decide +kernel))
  · exact lineX_bad (c := nLeaf) (args := [⟨#[65, 66]⟩]) (by decide +kernel) (by decide) (cmdO_bad (by decide) (by decide) (by decide +kernel))
  · exact lineX_bad (c := nFile) (args := [⟨#[48, 120]⟩]) (by decide +kernel) (by decide) (cmdO_bad (by decide) (by decide) (by decide +kernel))
  · exact lineX_bad (c := nSplit) (args := []) (by decide +kernel) (by decide) (cmdO_many (by decide) (by decide))
  · exact lineX_bad (c := nSplit) (args := [⟨#[47]⟩, ⟨#[47]⟩]) (by decide +kernel) (by decide) (cmdO_many (by decide) (by decide))
  · exact lineX_bad (c := nObject) (args := []) (by decide +kernel) (by decide) (cmdO_many (by decide) (by decide))
  · exact lineX_bad (c := ⟨#[102, 114, 111, 98]⟩) (args := [⟨#[48, 48]⟩]) (by decide +kernel) (by decide) (cmdO_other (by decide) (by decide) (by decide) (by decide) (by decide) (by decide))
  · exact lineX_bad (c := nRoot) (args := [⟨#[45]⟩, ⟨#[45, 45]⟩]) (by decide +kernel) (by decide) (by rw [cmdO_root]; exact rootO_bad (by decide +kernel))
  · exact lineX_bad (c := ⟨#[83, 72, 65]⟩) (args := [⟨#[45]⟩]) (by decide +kernel) (by decide) (cmdO_other (by decide) (by decide) (by decide) (by decide) (by decide) (by decide))
theorem wrong_short (l : ByteArray) (h : l ∈ wrongs) : l.size ≤ 100 ∧ ∀ b ∈ l.data.toList, b ≠ 10 := by
  have : ∀ l ∈ wrongs, l.size ≤ 100 ∧ ∀ b ∈ l.data.toList, b ≠ 10 := by decide +kernel
  exact this l h
def wrongH : ByteArray := ⟨#[115, 104, 97, 32, 45, 10]⟩
theorem wrong_run (l : ByteArray) (h : l ∈ wrongs) : runF (wrongH ++ l) = ((hexL (sha []) ++ [10]) ++ errT 2700) ++ [10] := by
  obtain ⟨h1, h2⟩ := wrong_short l h
  have hs : ¬ 65536 < (wrongH ++ l).size := by
    rw [ByteArray.size_append]
    have : wrongH.size = 6 := rfl
    omega
  have w0 : wordsL ⟨#[115, 104, 97, 32, 45]⟩ = [nSha, ⟨#[45]⟩] := by decide +kernel
  have x0 := lineX_of w0 (by decide)
  rw [ansX_sha _ [] (by decide +kernel)] at x0
  have hl : lines (wrongH ++ l) = [⟨#[115, 104, 97, 32, 45]⟩, l] := by
    rw [lines, ByteArray.data_append, Array.toList_append, show wrongH.data.toList = [115, 104, 97, 32, 45] ++ [10] from rfl, List.append_assoc]
    show (linesL ([115, 104, 97, 32, 45] ++ 10 :: l.data.toList)).map bs = _
    rw [linesL_app, linesL_one _ h2, linesL_one _ (by decide)]
    simp only [List.cons_append, List.nil_append, List.map_cons, List.map_nil, bs_of]
    rfl
  rw [runF, if_neg hs, hl]
  obtain ⟨X, eX⟩ : ∃ X, X = hexL (sha []) := ⟨_, rfl⟩
  obtain ⟨Y, eY⟩ : ∃ Y, Y = errT 2700 := ⟨_, rfl⟩
  rw [← eX] at x0 ⊢
  have x1 := wrong_line l h
  rw [← eY] at x1 ⊢
  simp only [runL, List.map_cons, List.map_nil, x0, x1]
  simp

/-! ### Beginnings -/
theorem begins (f r : ByteArray) (h : (f ++ ⟨#[10]⟩ ++ r).size ≤ 65536) : ∃ t, runF (f ++ ⟨#[10]⟩ ++ r) = runF (f ++ ⟨#[10]⟩) ++ t := by
  have h2 : (f ++ ⟨#[10]⟩).size ≤ 65536 := by rw [ByteArray.size_append] at h; omega
  refine ⟨runL (lines r), ?_⟩
  rw [runF, runF, if_neg (by omega), if_neg (by omega)]
  have e1 : lines (f ++ ⟨#[10]⟩) = lines f ++ [⟨#[]⟩] := by
    rw [lines, ByteArray.data_append, Array.toList_append]
    show (linesL (f.data.toList ++ 10 :: [])).map bs = _
    rw [linesL_app, List.map_append]; rfl
  have e2 : lines (f ++ ⟨#[10]⟩ ++ r) = lines f ++ lines r := by
    rw [lines, ByteArray.data_append, Array.toList_append, ByteArray.data_append, Array.toList_append, List.append_assoc]
    show (linesL (f.data.toList ++ 10 :: r.data.toList)).map bs = _
    rw [linesL_app, List.map_append]; rfl
  rw [e1, e2, runL_app, runL_app, show runL [⟨#[]⟩] = [] from rfl, List.append_nil]

/-! ### Many -/
def manys : List ByteArray := [⟨#[115, 104, 97, 32, 54, 49, 54, 50]⟩, ⟨#[108, 101, 97, 102, 32, 45]⟩, ⟨#[114, 111, 111, 116]⟩, ⟨#[114, 111, 111, 116, 32, 54, 49, 32, 54, 50, 32, 54, 51]⟩, ⟨#[102, 105, 108, 101, 32, 48, 48]⟩, ⟨#[115, 112, 108, 105, 116, 32, 47, 97]⟩, ⟨#[35, 32, 99]⟩, ⟨#[102, 114, 111, 98]⟩, ⟨#[111, 98, 106, 101, 99, 116, 32, 45]⟩]
theorem many_short (l : ByteArray) (h : l ∈ manys) : l.size ≤ 100 ∧ ∀ b ∈ l.data.toList, b ≠ 10 := by
  have : ∀ l ∈ manys, l.size ≤ 100 ∧ ∀ b ∈ l.data.toList, b ≠ 10 := by decide +kernel
  exact this l h
theorem many_one (l : ByteArray) (h : l ∈ manys) : runF l = lineX l := by
  obtain ⟨h1, h2⟩ := many_short l h
  rw [runF, if_neg (by omega), lines, linesL_one _ h2]
  simp [runL, bs_of]
/-- Lines, an LF behind each. -/
def manyL (xs : List ByteArray) : List UInt8 := xs.flatMap fun x => x.data.toList ++ [10]
theorem manyL_snoc (xs : List ByteArray) (x : ByteArray) : manyL (xs ++ [x]) = (manyL xs ++ x.data.toList) ++ [10] := by simp [manyL]
theorem manyL_length : ∀ xs : List ByteArray, (∀ x ∈ xs, x ∈ manys) → (manyL xs).length ≤ 101 * xs.length
  | [], _ => by simp [manyL]
  | x :: xs, h => by
    have ih := manyL_length xs (fun y hy => h y (by simp [hy]))
    have := (many_short x (h x (by simp))).1
    have el : x.data.toList.length = x.size := rfl
    simp only [manyL, List.flatMap_cons, List.length_append, List.length_cons, List.length_nil] at ih ⊢
    omega
theorem many_lines : ∀ xs : List ByteArray, (∀ x ∈ xs, x ∈ manys) → linesL (manyL xs) = xs.map (·.data.toList) ++ [[]]
  | [], _ => rfl
  | x :: xs, h => by
    have ih := many_lines xs (fun y hy => h y (by simp [hy]))
    have e : manyL (x :: xs) = x.data.toList ++ 10 :: manyL xs := by simp [manyL]
    rw [e, linesL_app, linesL_one _ (many_short x (h x (by simp))).2, ih]; rfl
theorem many_run (xs : List ByteArray) (h : ∀ x ∈ xs, x ∈ manys) (hn : xs.length ≤ 30) (s : ByteArray) (hs : s.data.toList = manyL xs) : runF s = runL xs := by
  have hl := manyL_length xs h
  have e : s.size = (manyL xs).length := by rw [← hs]; rfl
  rw [runF, if_neg (by omega), lines, hs, many_lines xs h, List.map_append, runL_app, List.map_map]
  rw [show (List.map (bs ∘ fun x => x.data.toList) xs) = xs from by
    conv => rhs; rw [← List.map_id xs]
    exact List.map_congr_left (fun x _ => bs_of x)]
  rw [show runL (List.map bs [[]]) = [] from rfl, List.append_nil]

/-! ### ConsoleRuns: lines by hand -/
/-- How far the law's loop is: from f, at i; R is told. -/
def Lns (s : ByteArray) (f i : Nat) (R : List UInt8) : Prop :=
  (i ≤ s.size ∧ f ≤ i ∧ (∀ b ∈ sliB s f i, b ≠ 10) ∧ runL (lines s) = R ++ runL ((linesL (s.data.toList.drop f)).map bs)) ∨ (i = s.size + 1 ∧ runL (lines s) = R)
theorem Lns.start (s : ByteArray) : Lns s 0 0 [] := .inl ⟨Nat.zero_le _, Nat.le_refl _, by rw [sliB_self]; simp, rfl⟩
theorem Lns.on {s : ByteArray} {f i : Nat} {R : List UInt8} (h : Lns s f i R) (hi : i < s.size) (hb : bt s i ≠ 10) : Lns s f (i + 1) R := by
  rcases h with ⟨h1, h2, h3, h4⟩ | ⟨h1, _⟩
  · refine .inl ⟨by omega, by omega, ?_, h4⟩
    have e : sliB s i (i + 1) = [bt s i] := by
      rw [sliB, show i + 1 - i = 1 by omega, drop_bt s i hi]; rfl
    rw [sliB_cut s f i (i + 1) h2 (by omega), e]
    intro b hbm
    rcases List.mem_append.1 hbm with h | h
    · exact h3 b h
    · rw [List.mem_singleton.1 h]; exact hb
  · omega
theorem Lns.cut {s : ByteArray} {f i : Nat} {R : List UInt8} (h : Lns s f i R) (hi : i < s.size) (hb : bt s i = 10) : f ≤ i ∧ Lns s (i + 1) (i + 1) (R ++ lineX (s.extract f i)) := by
  rcases h with ⟨h1, h2, h3, h4⟩ | ⟨h1, _⟩
  · refine ⟨h2, .inl ⟨by omega, Nat.le_refl _, by rw [sliB_self]; simp, ?_⟩⟩
    rw [drop_sliB s f i h2, drop_bt s i hi, hb, linesL_app, linesL_one _ h3, List.map_append, runL_app, ← List.append_assoc] at h4
    rw [h4]
    congr 1
    simp [runL, sliB_bs]
  · omega
theorem Lns.last {s : ByteArray} {f i : Nat} {R : List UInt8} (h : Lns s f i R) (hi : i = s.size) : f ≤ i ∧ Lns s (i + 1) (i + 1) (R ++ lineX (s.extract f i)) := by
  rcases h with ⟨h1, h2, h3, h4⟩ | ⟨h1, _⟩
  · refine ⟨h2, .inr ⟨by omega, ?_⟩⟩
    rw [drop_sliB s f i h2, List.drop_of_length_le (show s.data.toList.length ≤ i by have : s.data.toList.length = s.size := rfl; omega), List.append_nil, linesL_one _ h3] at h4
    rw [h4]
    simp [runL, sliB_bs]
  · omega
theorem Lns.skip {s : ByteArray} {i : Nat} {R : List UInt8} (h : Lns s i i R) (hi : i = s.size) : Lns s i (i + 1) R := by
  have := (h.last hi).2
  rcases this with ⟨h1, _⟩ | ⟨h1, h2⟩
  · omega
  · refine .inr ⟨h1, ?_⟩
    rw [h2, show s.extract i i = ⟨#[]⟩ from by rw [← sliB_bs, sliB_self]; rfl, lineX_empty, List.append_nil]
theorem Lns.done {s : ByteArray} {f i : Nat} {R : List UInt8} (h : Lns s f i R) (hi : s.size < i) : runL (lines s) = R := by
  rcases h with ⟨h1, _⟩ | ⟨_, h2⟩
  · omega
  · exact h2
end Go.Proofs.YtmhbkilpllgchaaGreatDoor
namespace Go.Proofs.YtmhbkilpllgchaaGreatDoor
open Go.RowKit BigFrame
set_option linter.unusedVariables false
set_option linter.unusedSimpArgs false

theorem dec_add (E : Nat) (h1 : 0 < E) (h2 : E ≤ 100000) : ∃ D R : ByteArray, R = ⟨(errT (E : Int)).toArray⟩ ∧ (∀ w', Calls Tryz.prog 47 #[.int .i64 (E : Int)] w' fun r w'' => r = .returned (.string D) ∧ Below w'.heap.size w' w'') ∧ ∀ w', (Op.stringOp .add ⟨#[101, 114, 114, 111, 114, 32]⟩ D).run Tryz.prog w' = .ok (.string R) w' := by
  have hl := itoa_short (E : Int) (by omega) (by omega)
  refine ⟨⟨(Lib.itoa (E : Int)).toArray⟩, _, rfl, fun w' => decimal_any E h2 h1 w', fun w' => add_texts w' _ _ ?_ ?_⟩
  · show (6 + (Lib.itoa (E : Int)).toArray.size : Nat) ≤ _
    rw [List.size_toArray]; omega
  · rw [errT]; exact add_S rfl rfl

set_option maxRecDepth 100000 in
set_option maxHeartbeats 8000000 in
theorem one_objbig (x : ByteArray) (w : World) (hs : x.size ≤ 100000) (hne : x.data.toList ≠ []) (b : List UInt8) (hb : bytesO x.data.toList = some b) (hbig : 4096 < b.length) :
    Calls Tryz.prog 24 #[.string nObject, .string x] w fun e w' => e = .returned (.string ⟨(ansX nObject [x]).toArray⟩) ∧ Below w.heap.size w w' := by
  have c22 := bytesl_any x w hs hne
  rw [hb] at c22
  have hlen := bytesO_length _ b hb
  obtain ⟨S, eS⟩ : ∃ S : ByteArray, S = ⟨b.toArray⟩ := ⟨_, rfl⟩
  have hSb : S.size = b.length := by
    rw [eS]
    show b.toArray.size = _
    rw [List.size_toArray]
  have hSs : S.size ≤ 1000000 := by
    have : x.data.toList.length = x.size := rfl
    omega
  have c22' : Calls Tryz.prog 22 #[.string x] w fun e w' => e = .returned (.tuple #[.string S, .bool true]) ∧ Below w.heap.size w w' := by rw [eS]; exact c22
  have hans : ansX nObject [x] = objX S := by
    rw [ansX, show cmdO nObject [x] = oneO objX [x] from by unfold cmdO; simp [nSha, nLeaf, nObject, nFile, nRoot, nSplit], oneO, hb, eS]; rfl
  rw [hans]
  rw [objX, if_pos (by omega)]
  obtain ⟨D, R, eR, c47, hadd⟩ := dec_add 1100 (by omega) (by omega)
  rw [show (errT 1100 : List UInt8) = errT ((1100 : Nat) : Int) from rfl, ← eR]
  rw [show ((1100 : Nat) : Int) = 1100 from rfl] at c47
  have hbig' : (4096 : Int) < (S.size : Int) := by omega
  have HC := Lib.hid (And.intro c22' c47)
  clear c22 c22' c47 hb hans hlen eS hne hs eR hSs hSb hbig
  obtain ⟨c, ec⟩ : ∃ c, c = nObject := ⟨_, rfl⟩
  have q0 : ¬ c.toList = [115, 104, 97] := ba_ne (by rw [ec]; decide)
  have r0 : (c.toList == [115, 104, 97]) = false := ba_beq (by rw [ec]; decide)
  have q1 : ¬ c.toList = [108, 101, 97, 102] := ba_ne (by rw [ec]; decide)
  have r1 : (c.toList == [108, 101, 97, 102]) = false := ba_beq (by rw [ec]; decide)
  have q2 : c.toList = [111, 98, 106, 101, 99, 116] := by rw [ec, Lib.toList_data]; rfl
  have r2 : (c.toList == [111, 98, 106, 101, 99, 116]) = true := by rw [q2]; rfl
  have q3 : ¬ c.toList = [102, 105, 108, 101] := ba_ne (by rw [ec]; decide)
  have r3 : (c.toList == [102, 105, 108, 101]) = false := ba_beq (by rw [ec]; decide)
  have q4 : ¬ c.toList = [115, 112, 108, 105, 116] := ba_ne (by rw [ec]; decide)
  have r4 : (c.toList == [115, 112, 108, 105, 116]) = false := ba_beq (by rw [ec]; decide)
  rw [← ec]
  clear ec
  go_enter Tryz.func24, Tryz.ntmps24
  go_wp2_with fail
  refine HC.out.1.mono ?_
  rintro e w1 ⟨rfl, hb1⟩
  go_wp2_with fail
  refine (HC.out.2 _).mono ?_
  rintro e w2 ⟨rfl, hb2⟩
  go_wp2
  go_ret
  exact ⟨rfl, hb1.trans (hb2.mono hb1.size)⟩

set_option maxRecDepth 100000 in
set_option maxHeartbeats 8000000 in
theorem one_objsmall (x : ByteArray) (w : World) (hs : x.size ≤ 100000) (hne : x.data.toList ≠ []) (b : List UInt8) (hb : bytesO x.data.toList = some b) (hsm : ¬ 4096 < b.length) :
    Calls Tryz.prog 24 #[.string nObject, .string x] w fun e w' => e = .returned (.string ⟨(ansX nObject [x]).toArray⟩) ∧ Below w.heap.size w w' := by
  have c22 := bytesl_any x w hs hne
  rw [hb] at c22
  have hlen := bytesO_length _ b hb
  obtain ⟨S, eS⟩ : ∃ S : ByteArray, S = ⟨b.toArray⟩ := ⟨_, rfl⟩
  have hSb : S.size = b.length := by
    rw [eS]
    show b.toArray.size = _
    rw [List.size_toArray]
  have hSs : S.size ≤ 1000000 := by
    have : x.data.toList.length = x.size := rfl
    omega
  have c22' : Calls Tryz.prog 22 #[.string x] w fun e w' => e = .returned (.tuple #[.string S, .bool true]) ∧ Below w.heap.size w w' := by rw [eS]; exact c22
  have hans : ansX nObject [x] = objX S := by
    rw [ansX, show cmdO nObject [x] = oneO objX [x] from by unfold cmdO; simp [nSha, nLeaf, nObject, nFile, nRoot, nSplit], oneO, hb, eS]; rfl
  rw [hans]
  rw [objX, if_neg (by omega)]
  obtain ⟨A, eA⟩ : ∃ A, A = objH S := ⟨_, rfl⟩
  have hAl : A.length = 32 := by rw [eA]; exact objH_length _
  have c1 := fun w' => obj_any S w' (by omega)
  rw [← eA] at c1 ⊢
  have c2 := hexl_any A hAl
  obtain ⟨R, eR⟩ : ∃ R : ByteArray, R = ⟨(hexL A).toArray⟩ := ⟨_, rfl⟩
  rw [← eR] at c2 ⊢
  have hsm' : (S.size : Int) ≤ (4096 : Int) := by omega
  have HC := Lib.hid (And.intro c22' (And.intro c1 c2))
  clear c22 c22' c1 c2 hb hans hlen eS hne hs eR eA hAl hSs hSb hsm
  obtain ⟨c, ec⟩ : ∃ c, c = nObject := ⟨_, rfl⟩
  have q0 : ¬ c.toList = [115, 104, 97] := ba_ne (by rw [ec]; decide)
  have r0 : (c.toList == [115, 104, 97]) = false := ba_beq (by rw [ec]; decide)
  have q1 : ¬ c.toList = [108, 101, 97, 102] := ba_ne (by rw [ec]; decide)
  have r1 : (c.toList == [108, 101, 97, 102]) = false := ba_beq (by rw [ec]; decide)
  have q2 : c.toList = [111, 98, 106, 101, 99, 116] := by rw [ec, Lib.toList_data]; rfl
  have r2 : (c.toList == [111, 98, 106, 101, 99, 116]) = true := by rw [q2]; rfl
  have q3 : ¬ c.toList = [102, 105, 108, 101] := ba_ne (by rw [ec]; decide)
  have r3 : (c.toList == [102, 105, 108, 101]) = false := ba_beq (by rw [ec]; decide)
  have q4 : ¬ c.toList = [115, 112, 108, 105, 116] := ba_ne (by rw [ec]; decide)
  have r4 : (c.toList == [115, 112, 108, 105, 116]) = false := ba_beq (by rw [ec]; decide)
  rw [← ec]
  clear ec
  go_enter Tryz.func24, Tryz.ntmps24
  go_wp2_with fail
  refine HC.out.1.mono ?_
  rintro e w1 ⟨rfl, hb1⟩
  go_wp2_with fail
  refine (HC.out.2.1 _).mono ?_
  rintro e w2 ⟨rfl, hb2⟩
  have hb3 := hb1.trans (hb2.mono hb1.size)
  go_wp2_with fail
  refine (HC.out.2.2 _).mono ?_
  rintro e w3 ⟨rfl, hb4⟩
  go_wp2
  go_ret
  exact ⟨rfl, hb3.trans (hb4.mono hb3.size)⟩

set_option maxRecDepth 100000 in
set_option maxHeartbeats 8000000 in
theorem one_fileok (x : ByteArray) (w : World) (hs : x.size ≤ 100000) (hne : x.data.toList ≠ []) (b : List UInt8) (hb : bytesO x.data.toList = some b) (hE : errF ⟨b.toArray⟩ = 0) :
    Calls Tryz.prog 24 #[.string nFile, .string x] w fun e w' => e = .returned (.string ⟨(ansX nFile [x]).toArray⟩) ∧ Below w.heap.size w w' := by
  have c22 := bytesl_any x w hs hne
  rw [hb] at c22
  have hlen := bytesO_length _ b hb
  obtain ⟨S, eS⟩ : ∃ S : ByteArray, S = ⟨b.toArray⟩ := ⟨_, rfl⟩
  have hSb : S.size = b.length := by
    rw [eS]
    show b.toArray.size = _
    rw [List.size_toArray]
  have hSs : S.size ≤ 1000000 := by
    have : x.data.toList.length = x.size := rfl
    omega
  have c22' : Calls Tryz.prog 22 #[.string x] w fun e w' => e = .returned (.tuple #[.string S, .bool true]) ∧ Below w.heap.size w w' := by rw [eS]; exact c22
  have hans : ansX nFile [x] = fileX S := by
    rw [ansX, show cmdO nFile [x] = oneO fileX [x] from by unfold cmdO; simp [nSha, nLeaf, nObject, nFile, nRoot, nSplit], oneO, hb, eS]; rfl
  rw [hans]
  rw [← eS] at hE
  obtain ⟨A, eA⟩ : ∃ A, A = hashF S := ⟨_, rfl⟩
  have hAl : A.length = 32 := by rw [eA]; exact hashF_length _
  have c1 := fun w' => bfile_full S w' (by omega)
  rw [hE, ← eA] at c1
  rw [fileX, hE, ← eA]
  rw [toldL, if_pos rfl]
  have c2 := hexl_any A hAl
  obtain ⟨R, eR⟩ : ∃ R : ByteArray, R = ⟨(hexL A).toArray⟩ := ⟨_, rfl⟩
  rw [← eR] at c2 ⊢
  have HC := Lib.hid (And.intro c22' (And.intro c1 (And.intro c2 hAl)))
  clear c22 c22' c1 c2 hb hans hlen eS hne hs eR eA hAl hSs hSb hE
  obtain ⟨c, ec⟩ : ∃ c, c = nFile := ⟨_, rfl⟩
  have q0 : ¬ c.toList = [115, 104, 97] := ba_ne (by rw [ec]; decide)
  have r0 : (c.toList == [115, 104, 97]) = false := ba_beq (by rw [ec]; decide)
  have q1 : ¬ c.toList = [108, 101, 97, 102] := ba_ne (by rw [ec]; decide)
  have r1 : (c.toList == [108, 101, 97, 102]) = false := ba_beq (by rw [ec]; decide)
  have q2 : ¬ c.toList = [111, 98, 106, 101, 99, 116] := ba_ne (by rw [ec]; decide)
  have r2 : (c.toList == [111, 98, 106, 101, 99, 116]) = false := ba_beq (by rw [ec]; decide)
  have q3 : c.toList = [102, 105, 108, 101] := by rw [ec, Lib.toList_data]; rfl
  have r3 : (c.toList == [102, 105, 108, 101]) = true := by rw [q3]; rfl
  have q4 : ¬ c.toList = [115, 112, 108, 105, 116] := ba_ne (by rw [ec]; decide)
  have r4 : (c.toList == [115, 112, 108, 105, 116]) = false := ba_beq (by rw [ec]; decide)
  rw [← ec]
  clear ec
  go_enter Tryz.func24, Tryz.ntmps24
  go_wp2_with fail
  refine HC.out.1.mono ?_
  rintro e w1 ⟨rfl, hb1⟩
  go_wp2_with fail
  refine (HC.out.2.1 _).mono ?_
  rintro e w2 ⟨p, m, k, rfl, -, -, hb2⟩
  have hb3 := hb1.trans (hb2.mono hb1.size)
  have hX : Blk (w2.alloc (.cells z32 36)) w2.heap.size 36 z32 := Blk.new _ _ _
  have hb4 : Below w.heap.size w (w2.alloc (.cells z32 36)) := hb3.alloc hb3.size _
  have hX2 : Blk ((w2.alloc (.cells z32 36)).setRow w2.heap.size (bcells A)) w2.heap.size 36 (bcells A) := hX.row _
  have hb5 : Below w.heap.size w ((w2.alloc (.cells z32 36)).setRow w2.heap.size (bcells A)) := below_setRow hb4 hb3.size _
  have HX := Lib.hid (And.intro hX (And.intro hX2 hb5))
  clear hX hX2 hb4 hb5
  go_wp2_with (first
    | (refine wpList_alN (d := 11) z32 zero29 w2.heap.size rfl ?_; simp only [List.setIfInBounds_toArray, List.set_cons_succ, List.set_cons_zero])
    | (refine wpList_st_row w2.heap.size (bcells A) rfl rfl 36 z32 HX.out.1 (by rw [size29, bcells_size, HC.out.2.2.2]) (by rw [bcells_size, HC.out.2.2.2]; rfl) (bcells_one _) ?_)
    | (refine wpList_ld_row (d := 84) w2.heap.size (bcells A) rfl 36 HX.out.2.1 Tryz.underlying36 rfl (by rw [size29, bcells_size, HC.out.2.2.2]) ?_; simp only [List.setIfInBounds_toArray, List.set_cons_succ, List.set_cons_zero]))
  refine (HC.out.2.2.1 _).mono ?_
  rintro e w3 ⟨rfl, hb6⟩
  go_wp2
  go_ret
  exact ⟨rfl, HX.out.2.2.trans (hb6.mono HX.out.2.2.size)⟩

set_option maxRecDepth 100000 in
set_option maxHeartbeats 8000000 in
theorem one_filebad (x : ByteArray) (w : World) (hs : x.size ≤ 100000) (hne : x.data.toList ≠ []) (b : List UInt8) (hb : bytesO x.data.toList = some b) (hE : errF ⟨b.toArray⟩ = 1200) :
    Calls Tryz.prog 24 #[.string nFile, .string x] w fun e w' => e = .returned (.string ⟨(ansX nFile [x]).toArray⟩) ∧ Below w.heap.size w w' := by
  have c22 := bytesl_any x w hs hne
  rw [hb] at c22
  have hlen := bytesO_length _ b hb
  obtain ⟨S, eS⟩ : ∃ S : ByteArray, S = ⟨b.toArray⟩ := ⟨_, rfl⟩
  have hSb : S.size = b.length := by
    rw [eS]
    show b.toArray.size = _
    rw [List.size_toArray]
  have hSs : S.size ≤ 1000000 := by
    have : x.data.toList.length = x.size := rfl
    omega
  have c22' : Calls Tryz.prog 22 #[.string x] w fun e w' => e = .returned (.tuple #[.string S, .bool true]) ∧ Below w.heap.size w w' := by rw [eS]; exact c22
  have hans : ansX nFile [x] = fileX S := by
    rw [ansX, show cmdO nFile [x] = oneO fileX [x] from by unfold cmdO; simp [nSha, nLeaf, nObject, nFile, nRoot, nSplit], oneO, hb, eS]; rfl
  rw [hans]
  rw [← eS] at hE
  obtain ⟨A, eA⟩ : ∃ A, A = hashF S := ⟨_, rfl⟩
  have hAl : A.length = 32 := by rw [eA]; exact hashF_length _
  have c1 := fun w' => bfile_full S w' (by omega)
  rw [hE, ← eA] at c1
  rw [fileX, hE, ← eA]
  rw [toldL, if_neg (by omega)]
  obtain ⟨D, R, eR, c2, hadd⟩ := dec_add 1200 (by omega) (by omega)
  rw [show (errT 1200 : List UInt8) = errT ((1200 : Nat) : Int) from rfl, ← eR]
  rw [show ((1200 : Nat) : Int) = 1200 from rfl] at c2
  have HC := Lib.hid (And.intro c22' (And.intro c1 (And.intro c2 hAl)))
  clear c22 c22' c1 c2 hb hans hlen eS hne hs eR eA hAl hSs hSb hE
  obtain ⟨c, ec⟩ : ∃ c, c = nFile := ⟨_, rfl⟩
  have q0 : ¬ c.toList = [115, 104, 97] := ba_ne (by rw [ec]; decide)
  have r0 : (c.toList == [115, 104, 97]) = false := ba_beq (by rw [ec]; decide)
  have q1 : ¬ c.toList = [108, 101, 97, 102] := ba_ne (by rw [ec]; decide)
  have r1 : (c.toList == [108, 101, 97, 102]) = false := ba_beq (by rw [ec]; decide)
  have q2 : ¬ c.toList = [111, 98, 106, 101, 99, 116] := ba_ne (by rw [ec]; decide)
  have r2 : (c.toList == [111, 98, 106, 101, 99, 116]) = false := ba_beq (by rw [ec]; decide)
  have q3 : c.toList = [102, 105, 108, 101] := by rw [ec, Lib.toList_data]; rfl
  have r3 : (c.toList == [102, 105, 108, 101]) = true := by rw [q3]; rfl
  have q4 : ¬ c.toList = [115, 112, 108, 105, 116] := ba_ne (by rw [ec]; decide)
  have r4 : (c.toList == [115, 112, 108, 105, 116]) = false := ba_beq (by rw [ec]; decide)
  rw [← ec]
  clear ec
  go_enter Tryz.func24, Tryz.ntmps24
  go_wp2_with fail
  refine HC.out.1.mono ?_
  rintro e w1 ⟨rfl, hb1⟩
  go_wp2_with fail
  refine (HC.out.2.1 _).mono ?_
  rintro e w2 ⟨p, m, k, rfl, -, -, hb2⟩
  have hb3 := hb1.trans (hb2.mono hb1.size)
  have hX : Blk (w2.alloc (.cells z32 36)) w2.heap.size 36 z32 := Blk.new _ _ _
  have hb4 : Below w.heap.size w (w2.alloc (.cells z32 36)) := hb3.alloc hb3.size _
  have hX2 : Blk ((w2.alloc (.cells z32 36)).setRow w2.heap.size (bcells A)) w2.heap.size 36 (bcells A) := hX.row _
  have hb5 : Below w.heap.size w ((w2.alloc (.cells z32 36)).setRow w2.heap.size (bcells A)) := below_setRow hb4 hb3.size _
  have HX := Lib.hid (And.intro hX (And.intro hX2 hb5))
  clear hX hX2 hb4 hb5
  go_wp2_with (first
    | (refine wpList_alN (d := 11) z32 zero29 w2.heap.size rfl ?_; simp only [List.setIfInBounds_toArray, List.set_cons_succ, List.set_cons_zero])
    | (refine wpList_st_row w2.heap.size (bcells A) rfl rfl 36 z32 HX.out.1 (by rw [size29, bcells_size, HC.out.2.2.2]) (by rw [bcells_size, HC.out.2.2.2]; rfl) (bcells_one _) ?_)
    | (refine wpList_ld_row (d := 84) w2.heap.size (bcells A) rfl 36 HX.out.2.1 Tryz.underlying36 rfl (by rw [size29, bcells_size, HC.out.2.2.2]) ?_; simp only [List.setIfInBounds_toArray, List.set_cons_succ, List.set_cons_zero]))
  refine (HC.out.2.2.1 _).mono ?_
  rintro e w3 ⟨rfl, hb6⟩
  go_wp2
  go_ret
  exact ⟨rfl, HX.out.2.2.trans (hb6.mono HX.out.2.2.size)⟩

set_option maxRecDepth 100000 in
set_option maxHeartbeats 8000000 in
theorem one_split (x : ByteArray) (w : World) (hs : x.size ≤ 100000) :
    Calls Tryz.prog 24 #[.string nSplit, .string x] w fun e w' => e = .returned (.string ⟨(ansX nSplit [x]).toArray⟩) ∧ Below w.heap.size w w' := by
  have c46 := rsplit_any x w (by omega)
  obtain ⟨hs1, hs2⟩ := okN_short x.data.toList
  have hjl : ∀ k, (Lib.join (((okN x.data.toList).take k).map (·.data.toList)) [32]).length ≤ 1000 := fun k => by
    have := join_short [32] (((okN x.data.toList).take k).map (·.data.toList)) (fun y hy => by
      obtain ⟨z, hz, rfl⟩ := List.mem_map.1 hy
      exact hs1 _ (List.mem_map.2 ⟨z, List.mem_of_mem_take hz, rfl⟩))
    rw [List.length_map, List.length_take] at this
    have h8 : min k (okN x.data.toList).length ≤ 8 := by omega
    have h9 := Nat.le_trans this (Nat.mul_le_mul_right _ h8)
    have h10 : 8 * (24 + ([32] : List UInt8).length) = 200 := rfl
    omega
  have hans : ansX nSplit [x] = toldL (okE x.data.toList) (Lib.join ((okN x.data.toList).map (·.data.toList)) [32]) := by
    rw [ansX, show cmdO nSplit [x] = splitO [x] from by unfold cmdO; simp [nSha, nLeaf, nObject, nFile, nRoot, nSplit]]; rfl
  rw [hans]
  unfold SplitPost at c46
  obtain ⟨ns, ens⟩ : ∃ ns, ns = okN x.data.toList := ⟨_, rfl⟩
  rw [← ens] at c46 hjl hs1 hs2 ⊢
  have hE : okE x.data.toList = 0 ∨ okE x.data.toList = 1600 := by rw [okE]; split <;> simp
  rcases hE with hE | hE
  · rw [hE] at c46 ⊢
    rw [toldL, if_pos rfl]
    obtain ⟨R, eR⟩ : ∃ R : ByteArray, R = ⟨(Lib.join (ns.map (·.data.toList)) [32]).toArray⟩ := ⟨_, rfl⟩
    rw [← eR]
    obtain ⟨n, en⟩ : ∃ n, n = ns.length := ⟨_, rfl⟩
    rw [← en] at c46 hs2
    have hn' : (n : Int) ≤ 8 := by omega
    have HC := Lib.hid (And.intro c46 (And.intro hs1 (And.intro hjl en)))
    have HR := Lib.hid eR
    clear c46 hs1 hjl en ens hE hans hs eR
    obtain ⟨c, ec⟩ : ∃ c, c = nSplit := ⟨_, rfl⟩
    have q0 : ¬ c.toList = [115, 104, 97] := ba_ne (by rw [ec]; decide)
    have r0 : (c.toList == [115, 104, 97]) = false := ba_beq (by rw [ec]; decide)
    have q1 : ¬ c.toList = [108, 101, 97, 102] := ba_ne (by rw [ec]; decide)
    have r1 : (c.toList == [108, 101, 97, 102]) = false := ba_beq (by rw [ec]; decide)
    have q2 : ¬ c.toList = [111, 98, 106, 101, 99, 116] := ba_ne (by rw [ec]; decide)
    have r2 : (c.toList == [111, 98, 106, 101, 99, 116]) = false := ba_beq (by rw [ec]; decide)
    have q3 : ¬ c.toList = [102, 105, 108, 101] := ba_ne (by rw [ec]; decide)
    have r3 : (c.toList == [102, 105, 108, 101]) = false := ba_beq (by rw [ec]; decide)
    have q4 : c.toList = [115, 112, 108, 105, 116] := by rw [ec, Lib.toList_data]; rfl
    have r4 : (c.toList == [115, 112, 108, 105, 116]) = true := by rw [q4]; rfl
    rw [← ec]
    clear ec
    go_enter Tryz.func24, Tryz.ntmps24
    go_wp2_with fail
    refine HC.out.1.mono ?_
    rintro e w1 ⟨p, k, rfl, hS, hb1, hk⟩
    have HS := Lib.hid (And.intro hS hb1)
    clear hS hb1
    go_wp2
    go_loopw [7, 8] (fun t7 t8 wr => ∃ (j : Nat) (T : ByteArray), t7 = .string T ∧ t8 = .int .i64 (j : Int) ∧ j ≤ n ∧ Hid (wr = w1) ∧ Hid (T.data.toList = Lib.join ((ns.take j).map (·.data.toList)) [32])) (fun _ t8 _ => n - (intOf t8).toNat)
    case atStart => exact ⟨0, ⟨#[]⟩, rfl, rfl, Nat.zero_le _, Lib.hid rfl, Lib.hid rfl⟩
    case round =>
      obtain ⟨j, T, rfl, rfl, hjn, EW, HT⟩ := hrel
      obtain rfl := EW.out
      by_cases hlt : j < n
      · have hlt' : (j : Int) < (n : Int) := by omega
        obtain ⟨y, hy⟩ : ∃ y, ns[j]? = some y := by
          have : j < ns.length := by rw [← HC.out.2.2.2]; exact hlt
          exact ⟨_, List.getElem?_eq_getElem this⟩
        have hne : ns ≠ [] := fun e => by rw [e] at hy; cases hy
        obtain ⟨g, o, rfl, hg, hcells⟩ := HS.out.1.form hne
        have hcell := hcells j y hy
        have hjk : j < k := by omega
        have hTl : T.size ≤ 1000 := by
          have := HC.out.2.2.1 j
          rw [← HT.out] at this
          exact this
        have hys : y.size ≤ 24 := HC.out.2.1 _ (List.mem_map.2 ⟨y, List.mem_of_getElem? hy, rfl⟩)
        have htake : (ns.take (j + 1)).map (·.data.toList) = (ns.take j).map (·.data.toList) ++ [y.data.toList] := by
          rw [List.take_add_one, hy, List.map_append]; rfl
        by_cases h0 : j = 0
        · have hT0 : T.data.toList = [] := by rw [HT.out, h0]; rfl
          obtain ⟨U, eU⟩ : ∃ U, T ++ y = U := ⟨_, rfl⟩
          have hU : U.data.toList = Lib.join ((ns.take (j + 1)).map (·.data.toList)) [32] := by
            rw [htake, h0, ← eU, ByteArray.data_append, Array.toList_append, hT0]
            simp [Lib.join, List.intercalate]
          have hadd : ∀ w', (Op.stringOp .add T y).run Tryz.prog w' = .ok (.string U) w' := fun w' => add_texts w' _ _ (by omega) eU
          have HU := Lib.hid hU
          have hj0 : ¬ (0 : Int) < (j : Int) := by omega
          clear hU eU htake hT0 hcells hne hy hTl hys h0
          go_wp2
          go_roundw
          case rel => exact ⟨j + 1, U, rfl, by go_num, by omega, Lib.hid trivial, HU⟩
          case measure => simp [intOf]; omega
        · obtain ⟨V, eV⟩ : ∃ V, T ++ ⟨#[32]⟩ = V := ⟨_, rfl⟩
          obtain ⟨U, eU⟩ : ∃ U, V ++ y = U := ⟨_, rfl⟩
          have hVs : V.size ≤ 1001 := by rw [← eV, ByteArray.size_append]; show T.size + 1 ≤ _; omega
          have hU : U.data.toList = Lib.join ((ns.take (j + 1)).map (·.data.toList)) [32] := by
            rw [htake, join_snoc _ _ _ (by intro e; have := congrArg List.length e; rw [List.length_map, List.length_take, List.length_nil] at this; have := HC.out.2.2.2; omega), ← eU, ← eV, ByteArray.data_append, Array.toList_append, ByteArray.data_append, Array.toList_append, HT.out]
            simp
          have hadd1 : ∀ w', (Op.stringOp .add T ⟨#[32]⟩).run Tryz.prog w' = .ok (.string V) w' := fun w' => add_texts w' _ _ (by show (T.size + 1 : Nat) ≤ _; omega) eV
          have hadd : ∀ w', (Op.stringOp .add V y).run Tryz.prog w' = .ok (.string U) w' := fun w' => add_texts w' _ _ (by omega) eU
          have HU := Lib.hid hU
          have hj0 : (0 : Int) < (j : Int) := by omega
          clear hU eU eV htake hcells hne hy hTl hys h0 hVs
          go_wp2
          go_roundw
          case rel => exact ⟨j + 1, U, rfl, by go_num, by omega, Lib.hid trivial, HU⟩
          case measure => simp [intOf]; omega
      · have ej : n = j := by omega
        have hall : T.data.toList = Lib.join (ns.map (·.data.toList)) [32] := by
          rw [HT.out, ← ej, HC.out.2.2.2, List.take_length]
        have hT : R = T := by rw [HR.out]; exact (ba_ext3 (by rw [hall])).symm
        have HTR := Lib.hid hT
        clear hT hall
        have hlt' : ¬ (j : Int) < (n : Int) := by omega
        have HB := Lib.hid HS.out.2
        subst ej
        go_wp2
        go_ret
        exact ⟨(by rw [HTR.out] <;> rfl), HB.out⟩
  · rw [hE] at c46 ⊢
    rw [toldL, if_neg (by omega)]
    obtain ⟨D, R, eR, c47, hadd⟩ := dec_add 1600 (by omega) (by omega)
    rw [show (errT 1600 : List UInt8) = errT ((1600 : Nat) : Int) from rfl, ← eR]
    rw [show ((1600 : Nat) : Int) = 1600 from rfl] at c47
    have HC := Lib.hid (And.intro c46 c47)
    clear c46 c47 hs1 hs2 hjl ens hE hans hs eR
    obtain ⟨c, ec⟩ : ∃ c, c = nSplit := ⟨_, rfl⟩
    have q0 : ¬ c.toList = [115, 104, 97] := ba_ne (by rw [ec]; decide)
    have r0 : (c.toList == [115, 104, 97]) = false := ba_beq (by rw [ec]; decide)
    have q1 : ¬ c.toList = [108, 101, 97, 102] := ba_ne (by rw [ec]; decide)
    have r1 : (c.toList == [108, 101, 97, 102]) = false := ba_beq (by rw [ec]; decide)
    have q2 : ¬ c.toList = [111, 98, 106, 101, 99, 116] := ba_ne (by rw [ec]; decide)
    have r2 : (c.toList == [111, 98, 106, 101, 99, 116]) = false := ba_beq (by rw [ec]; decide)
    have q3 : ¬ c.toList = [102, 105, 108, 101] := ba_ne (by rw [ec]; decide)
    have r3 : (c.toList == [102, 105, 108, 101]) = false := ba_beq (by rw [ec]; decide)
    have q4 : c.toList = [115, 112, 108, 105, 116] := by rw [ec, Lib.toList_data]; rfl
    have r4 : (c.toList == [115, 112, 108, 105, 116]) = true := by rw [q4]; rfl
    rw [← ec]
    clear ec
    go_enter Tryz.func24, Tryz.ntmps24
    go_wp2_with fail
    refine HC.out.1.mono ?_
    rintro e w1 ⟨p, k, rfl, -, hb1, -⟩
    go_wp2_with fail
    refine (HC.out.2 _).mono ?_
    rintro e w2 ⟨rfl, hb2⟩
    go_wp2
    go_ret
    exact ⟨rfl, hb1.trans (hb2.mono hb1.size)⟩


theorem one_any (c x : ByteArray) (w : World) (hs : x.size ≤ 100000) (hne : x.data.toList ≠ []) (h5 : c ≠ nRoot) :
    Calls Tryz.prog 24 #[.string c, .string x] w fun e w' => e = .returned (.string ⟨(ansX c [x]).toArray⟩) ∧ Below w.heap.size w w' := by
  by_cases h6 : c = nSplit
  · subst h6; exact one_split x w hs
  · cases hb : bytesO x.data.toList with
    | none => exact one_none c x w hs hne h6 h5 hb
    | some b =>
      by_cases h1 : c = nSha
      · subst h1; exact one_sha x w hs hne b hb
      · by_cases h2 : c = nLeaf
        · subst h2; exact one_leaf x w hs hne b hb
        · by_cases h3 : c = nObject
          · subst h3
            by_cases hbig : 4096 < b.length
            · exact one_objbig x w hs hne b hb hbig
            · exact one_objsmall x w hs hne b hb hbig
          · by_cases h4 : c = nFile
            · subst h4
              have hE : errF ⟨b.toArray⟩ = 0 ∨ errF ⟨b.toArray⟩ = 1200 := by rw [errF]; split <;> simp
              rcases hE with hE | hE
              · exact one_fileok x w hs hne b hb hE
              · exact one_filebad x w hs hne b hb hE
            · exact one_other c x w hs hne h1 h2 h3 h4 h5 h6 b hb
end Go.Proofs.YtmhbkilpllgchaaGreatDoor
namespace Go.Proofs.YtmhbkilpllgchaaGreatDoor
open Go.RowKit BigFrame
set_option linter.unusedVariables false
set_option linter.unusedSimpArgs false

theorem num_any2 (n : Int) (w : World) : Calls Tryz.prog 8 #[.int .i64 n] w fun e w' => e = .returned (.int .i64 n) ∧ w = w' := (num_any n w).mono fun _ _ ⟨h, e⟩ => ⟨h, e.symm⟩

theorem size_S (l : List UInt8) : (⟨l.toArray⟩ : ByteArray).size = l.length := by
  show l.toArray.size = _
  rw [List.size_toArray]

set_option maxRecDepth 100000 in
set_option maxHeartbeats 8000000 in
theorem awake_any (w : World) (hL : Laid w) : Calls Tryz.prog 9 #[] w fun e w' => e = .returned (.bool true) ∧ Below w.heap.size w w' := by
  have c7 := run_any awakeS w hL
  have hE : runE awakeS = 0 := by rw [runE, if_neg (by decide)]
  rw [hE, awake_run] at c7
  obtain ⟨X, eX⟩ : ∃ X, X = sha [97, 98, 99] := ⟨_, rfl⟩
  obtain ⟨Y, eY⟩ : ∃ Y, Y = objH ⟨#[82, 0]⟩ := ⟨_, rfl⟩
  have hX : X.length = 32 := by rw [eX]; exact sha_length _
  have hY : Y.length = 32 := by rw [eY]; exact objH_length _
  have c13 : ∀ w', Calls Tryz.prog 13 #[.string ⟨#[97, 98, 99]⟩] w' fun e w'' => e = .returned (.agg (bcells X)) ∧ Below w'.heap.size w' w'' := fun w' => by rw [eX]; exact refsha_any ⟨#[97, 98, 99]⟩ w' (by decide)
  have c21 : ∀ w', Calls Tryz.prog 21 #[.string ⟨#[82, 0]⟩] w' fun e w'' => e = .returned (.agg (bcells Y)) ∧ Below w'.heap.size w' w'' := fun w' => by rw [eY]; exact obj_any ⟨#[82, 0]⟩ w' (by decide)
  rw [← eX, ← eY] at c7
  have cX := hexl_any X hX
  have cY := hexl_any Y hY
  have lX : (hexL X).length = 64 := by rw [hexL_length, hX]
  have lY : (hexL Y).length = 64 := by rw [hexL_length, hY]
  obtain ⟨XH, eXH⟩ : ∃ S : ByteArray, S = ⟨(hexL X).toArray⟩ := ⟨_, rfl⟩
  obtain ⟨YH, eYH⟩ : ∃ S : ByteArray, S = ⟨(hexL Y).toArray⟩ := ⟨_, rfl⟩
  have sX : XH.size = 64 := by rw [eXH, size_S, lX]
  have sY : YH.size = 64 := by rw [eYH, size_S, lY]
  obtain ⟨U1, eU1⟩ : ∃ U, XH ++ ⟨#[10, 97, 32, 98, 10, 101, 114, 114, 111, 114, 32, 50, 55, 48, 48, 10]⟩ = U := ⟨_, rfl⟩
  obtain ⟨U2, eU2⟩ : ∃ U, U1 ++ YH = U := ⟨_, rfl⟩
  obtain ⟨U3, eU3⟩ : ∃ U, U2 ++ ⟨#[10, 101, 114, 114, 111, 114, 32, 49, 54, 48, 48, 10]⟩ = U := ⟨_, rfl⟩
  have s1 : U1.size = 80 := by rw [← eU1, ByteArray.size_append, sX]; rfl
  have s2 : U2.size = 144 := by rw [← eU2, ByteArray.size_append, s1, sY]
  have hadd1 : ∀ w', (Op.stringOp .add XH ⟨#[10, 97, 32, 98, 10, 101, 114, 114, 111, 114, 32, 50, 55, 48, 48, 10]⟩).run Tryz.prog w' = .ok (.string U1) w' := fun w' => add_texts w' _ _ (by rw [sX]; decide) eU1
  have hadd2 : ∀ w', (Op.stringOp .add U1 YH).run Tryz.prog w' = .ok (.string U2) w' := fun w' => add_texts w' _ _ (by rw [s1, sY]; decide) eU2
  have hadd3 : ∀ w', (Op.stringOp .add U2 ⟨#[10, 101, 114, 114, 111, 114, 32, 49, 54, 48, 48, 10]⟩).run Tryz.prog w' = .ok (.string U3) w' := fun w' => add_texts w' _ _ (by rw [s2]; decide) eU3
  have e3 : (⟨(((hexL X ++ awakeA) ++ hexL Y) ++ awakeB).toArray⟩ : ByteArray) = U3 := by
    apply ba_ext3
    rw [← eU3, ← eU2, ← eU1, ByteArray.data_append, Array.toList_append, ByteArray.data_append, Array.toList_append, ByteArray.data_append, Array.toList_append, eXH, eYH]
    rfl
  rw [e3] at c7
  rw [← eXH] at cX
  rw [← eYH] at cY
  have HC := Lib.hid (And.intro c7 (And.intro c13 (And.intro c21 (And.intro cX cY))))
  clear c7 c13 c21 cX cY hX hY eX eY lX lY eXH eYH sX sY eU1 eU2 eU3 s1 s2 e3 hE hL
  go_enter Tryz.func9, Tryz.ntmps9
  go_wp2_with fail
  refine HC.out.1.mono ?_
  rintro e w1 ⟨rfl, hb1⟩
  go_wp2_with fail
  refine (num_any2 _ _).mono ?_
  rintro e w2 ⟨rfl, rfl⟩
  go_wp2_with fail
  refine (HC.out.2.1 _).mono ?_
  rintro e w3 ⟨rfl, hb3⟩
  have hb3 := hb1.trans (hb3.mono hb1.size)
  go_wp2_with fail
  refine (HC.out.2.2.2.1 _).mono ?_
  rintro e w4 ⟨rfl, hb4⟩
  have hb4 := hb3.trans (hb4.mono hb3.size)
  go_wp2_with fail
  refine (HC.out.2.2.1 _).mono ?_
  rintro e w5 ⟨rfl, hb5⟩
  have hb5 := hb4.trans (hb5.mono hb4.size)
  go_wp2_with fail
  refine (HC.out.2.2.2.2 _).mono ?_
  rintro e w6 ⟨rfl, hb6⟩
  have hb6 := hb5.trans (hb6.mono hb5.size)
  go_wp2
  go_ret
  exact ⟨rfl, hb6⟩
end Go.Proofs.YtmhbkilpllgchaaGreatDoor
