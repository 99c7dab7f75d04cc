/- Lines of a script, in plain Lean; strings.Split at LF. What a script tells, in plain Lean. console.Run: what the loop keeps. console.Run: which command a word names. -/
import Derived.Test.YtmhbkilpllgchaaGreatDoorMgCoq
import Derived.Lib.SplitLaws
import Derived.Lib.IndexBytes
namespace Go.Proofs.YtmhbkilpllgchaaGreatDoor
open Go.RowKit BigFrame
set_option linter.unusedVariables false
set_option linter.unusedSimpArgs false

/-- b ahead of the first line. -/
def headC (b : UInt8) : List (List UInt8) → List (List UInt8)
  | h :: r => (b :: h) :: r
  | [] => [[b]]
/-- Lines: cut at LF. -/
def linesL : List UInt8 → List (List UInt8)
  | [] => [[]]
  | b :: t => if b = 10 then [] :: linesL t else headC b (linesL t)
theorem linesL_ne : ∀ l, linesL l ≠ []
  | [] => by simp [linesL]
  | b :: t => by
    rw [linesL]
    split
    · simp
    · cases linesL t <;> simp [headC]

theorem splitK_lines : ∀ l : List UInt8, Lib.splitK [10] 0 (Lib.count l [10]) l = linesL l
  | [] => by rw [Lib.count_one]; rfl
  | b :: l => by
    have ih := splitK_lines l
    rw [linesL]
    by_cases hb : b = 10
    · subst hb
      have hix : Lib.index (10 :: l) [10] = 0 := by rw [Lib.index]; simp [List.isPrefixOf]
      rw [if_pos rfl, Lib.count_cons_eq, Nat.add_comm 1, Lib.splitK, hix]
      simp only [show ((0 : Int) == -1) = false from rfl, Bool.false_eq_true, if_false]
      show _ :: Lib.splitK [10] 0 (Lib.count l [10]) l = _
      rw [ih]; rfl
    · rw [if_neg hb, Lib.count_cons_ne _ _ _ hb]
      have hp : ([10] : List UInt8).isPrefixOf (b :: l) = false := by simp [List.isPrefixOf, Ne.symm hb]
      have hix : Lib.index (b :: l) [10] = if Lib.index l [10] == -1 then -1 else Lib.index l [10] + 1 := by rw [Lib.index, hp]; simp
      by_cases hm : Lib.index l [10] = -1
      · have h1 : Lib.count l [10] = 0 := Lib.count_miss hm
        rw [h1] at ih ⊢
        rw [Lib.splitK] at ih ⊢
        rw [← ih]; rfl
      · have hge := Lib.index_ge l [10]
        obtain ⟨j, hj⟩ : ∃ j : Nat, Lib.index l [10] = j := ⟨(Lib.index l [10]).toNat, by omega⟩
        have hix' : Lib.index (b :: l) [10] = ((j + 1 : Nat) : Int) := by rw [hix, if_neg (fun e => hm (beq_iff_eq.1 e)), hj]; omega
        have hc := Lib.count_hit (by simp) hj
        obtain ⟨k, hk⟩ : ∃ k, Lib.count l [10] = k + 1 := ⟨_, by rw [hc, Nat.add_comm]⟩
        rw [hk] at ih ⊢
        rw [Lib.splitK, hj] at ih
        rw [Lib.splitK, hix', ← ih]
        have f1 : (((j : Nat) : Int) == -1) = false := by rw [beq_eq_false_iff_ne]; omega
        have f2 : (((j + 1 : Nat) : Int) == -1) = false := by rw [beq_eq_false_iff_ne]; omega
        rw [f1, f2]
        simp only [Bool.false_eq_true, if_false, Int.toNat_natCast, Nat.add_zero, List.length_cons, List.length_nil, Nat.zero_add, headC, List.take_succ_cons, List.drop_succ_cons]

/-- Lines of a script. -/
def lines (s : ByteArray) : List ByteArray := (linesL s.data.toList).map bs
theorem split_lines (s : ByteArray) : Lib.splitB ⟨#[10]⟩ 0 (Lib.countB s ⟨#[10]⟩) s = lines s := by
  have h := Lib.splitB_data ⟨#[10]⟩ 0 (Lib.countB s ⟨#[10]⟩) s
  have hc : Lib.countB s ⟨#[10]⟩ = Lib.count s.data.toList [10] := rfl
  have h2 : (Lib.splitB ⟨#[10]⟩ 0 (Lib.countB s ⟨#[10]⟩) s).map (·.data.toList) = linesL s.data.toList := by
    rw [h, hc]; exact splitK_lines _
  rw [lines, ← h2, List.map_map]
  conv => lhs; rw [← List.map_id (Lib.splitB ⟨#[10]⟩ 0 (Lib.countB s ⟨#[10]⟩) s)]
  exact List.map_congr_left (fun x _ => (bs_of x).symm)
theorem lines_length (s : ByteArray) : (lines s).length = Lib.countB s ⟨#[10]⟩ + 1 := by
  rw [← split_lines]
  exact Lib.splitB_all ⟨#[10]⟩ (by decide) 0 _ s rfl

theorem clines_any (s : ByteArray) (m : Int) (w : World) (hs : s.size < 4294967281) (hm : w.cell? ⟨0, 0, none⟩ = some (.int .i64 m)) :
    Calls Tryz.prog 15 #[.string s, .string ⟨#[10]⟩] w fun e w' =>
      e = .returned (.slice (some ⟨w.heap.size, 0, none⟩) (lines s).length (lines s).length) ∧ w' = w.alloc (.cells ((lines s).map Value.string).toArray 9) := by
  have := t_strings_Split s ⟨#[10]⟩ m w hs hm (by decide)
  rw [← lines_length, split_lines] at this
  exact this

/-- Of sizes: the lines' bytes are the script's. -/
theorem linesL_short : ∀ (l : List UInt8), (∀ x ∈ linesL l, x.length ≤ l.length) ∧ (linesL l).length ≤ l.length + 1
  | [] => by simp [linesL]
  | b :: t => by
    obtain ⟨h1, h2⟩ := linesL_short t
    rw [linesL]
    split
    · refine ⟨fun x hx => ?_, by simp; omega⟩
      rcases List.mem_cons.1 hx with rfl | hx
      · simp
      · have := h1 x hx; simp; omega
    · cases hq : linesL t with
      | nil => exact absurd hq (linesL_ne t)
      | cons h r =>
        rw [hq] at h1 h2
        refine ⟨fun x hx => ?_, by simp [headC] at h2 ⊢; omega⟩
        rcases List.mem_cons.1 hx with rfl | hx
        · have := h1 h (by simp); simp; omega
        · have := h1 x (by simp [hx]); simp; omega
theorem wsL_short : ∀ (l c : List UInt8), (∀ x ∈ wsL l c, x.length ≤ l.length + c.length) ∧ (wsL l c).length ≤ l.length + 1
  | [], c => by
    rw [wsL]
    split <;> simp
  | b :: t, c => by
    rw [wsL]
    obtain ⟨h1, h2⟩ := wsL_short t []
    split
    · split
      · exact ⟨fun x hx => by have := h1 x hx; simp at this ⊢; omega, by simp; omega⟩
      · refine ⟨fun x hx => ?_, by simp; omega⟩
        rcases List.mem_cons.1 hx with rfl | hx
        · simp
        · have := h1 x hx; simp at this ⊢; omega
    · obtain ⟨h3, h4⟩ := wsL_short t (c ++ [b])
      exact ⟨fun x hx => by have := h3 x hx; simp at this ⊢; omega, by simp; omega⟩
theorem words_short (s : ByteArray) : (∀ x ∈ wordsL s, x.size ≤ s.size ∧ x.data.toList ≠ []) ∧ (wordsL s).length ≤ s.size + 1 := by
  obtain ⟨h1, h2⟩ := wsL_short s.data.toList []
  have h3 := wsL_all s.data.toList [] (by simp)
  have el : s.data.toList.length = s.size := rfl
  refine ⟨fun x hx => ?_, by rw [wordsL, List.length_map]; omega⟩
  obtain ⟨y, hy, rfl⟩ := List.mem_map.1 hx
  rw [bs_size, bs_list]
  have := h1 y hy
  simp only [List.length_nil, Nat.add_zero] at this
  exact ⟨by omega, (h3 y hy).1⟩
theorem lines_short (s : ByteArray) : (∀ x ∈ lines s, x.size ≤ s.size) ∧ (lines s).length ≤ s.size + 1 := by
  obtain ⟨h1, h2⟩ := linesL_short s.data.toList
  have el : s.data.toList.length = s.size := rfl
  refine ⟨fun x hx => ?_, by rw [lines, List.length_map]; omega⟩
  obtain ⟨y, hy, rfl⟩ := List.mem_map.1 hx
  rw [bs_size]
  have := h1 y hy
  omega
end Go.Proofs.YtmhbkilpllgchaaGreatDoor
namespace Go.Proofs.YtmhbkilpllgchaaGreatDoor
open Go.RowKit BigFrame
set_option linter.unusedVariables false
set_option linter.unusedSimpArgs false

/-- What the command named c answers. -/
def cmdO (c : ByteArray) (args : List ByteArray) : Option (List UInt8) :=
  if c = nSha then oneO shaX args else if c = nLeaf then oneO leafX args else if c = nObject then oneO objX args else if c = nFile then oneO fileX args
  else if c = nRoot then rootO args else if c = nSplit then splitO args else none
/-- A line's answer. -/
def ansX (c : ByteArray) (args : List ByteArray) : List UInt8 := (cmdO c args).getD (errT 2700)
/-- What a line of such words adds. -/
def wordsX : List ByteArray → List UInt8
  | [] => []
  | c :: args => if c.data.toList.head? = some 35 then [] else ansX c args ++ [10]
def lineX (l : ByteArray) : List UInt8 := wordsX (wordsL l)
def runL (ls : List ByteArray) : List UInt8 := (ls.map lineX).flatten
theorem runL_next {ls : List ByteArray} {j : Nat} {x : ByteArray} (h : ls[j]? = some x) : runL (ls.take (j + 1)) = runL (ls.take j) ++ lineX x := by
  rw [List.take_add_one, h]
  simp [runL]
theorem runL_app (a b : List ByteArray) : runL (a ++ b) = runL a ++ runL b := by simp [runL]

theorem itoa_short (e : Int) (h1 : 0 ≤ e) (h2 : e < 1000000) : (Lib.itoa e).length ≤ 10 := by
  unfold Lib.itoa
  rw [if_neg (by omega), Lib.decDigits_length]
  have : ∀ (f u : Nat), u < 10 ^ f → Lib.nDigits u ≤ f + 1 := fun f => by
    induction f with
    | zero => intro u hu; rw [Lib.nDigits_small (by omega)]; omega
    | succ f ih =>
      intro u hu
      by_cases g : u < 10
      · rw [Lib.nDigits_small g]; omega
      · rw [Lib.nDigits, dif_neg g]
        have := ih (u / 10) (by rw [Nat.pow_succ] at hu; omega)
        omega
  have := this 6 e.toNat (by omega)
  omega
theorem errT_short (e : Int) (h1 : 0 ≤ e) (h2 : e < 1000000) : (errT e).length ≤ 16 := by
  have := itoa_short e h1 h2
  rw [errT, List.length_append]
  simp only [List.length_cons, List.length_nil]
  omega
theorem toldL_short (e : Int) (s : List UInt8) (n : Nat) (hs : s.length ≤ n) (hn : 16 ≤ n) (h1 : 0 ≤ e) (h2 : e < 1000000) : (toldL e s).length ≤ n := by
  unfold toldL
  split
  · exact hs
  · have := errT_short e h1 h2; omega
theorem cmdO_short (c : ByteArray) (args : List ByteArray) : ((cmdO c args).getD (errT 2700)).length ≤ 200 := by
  have h0 := errT_short 2700 (by omega) (by omega)
  have one : ∀ f : ByteArray → List UInt8, (∀ x, (f x).length ≤ 200) → ((oneO f args).getD (errT 2700)).length ≤ 200 := fun f hf => by
    unfold oneO
    split
    · rename_i x
      cases bytesO x.data.toList with
      | none => simp; omega
      | some b => exact hf _
    · simp; omega
  unfold cmdO
  split
  · exact one _ (fun x => by rw [shaX, hexL_length, sha_length]; omega)
  split
  · exact one _ (fun x => by rw [leafX, hexL_length, leafH_length]; omega)
  split
  · refine one _ (fun x => ?_)
    unfold objX
    split
    · have := errT_short 1100 (by omega) (by omega); omega
    · rw [hexL_length, objH_length]; omega
  split
  · refine one _ (fun x => ?_)
    unfold fileX
    refine toldL_short _ _ 200 (by rw [hexL_length, hashF_length]; omega) (by omega) ?_ ?_ <;> (rw [errF]; split <;> omega)
  split
  · unfold rootO
    cases bytesAll args with
    | none => simp; omega
    | some l => show (hexL (rootL l)).length ≤ 200; rw [hexL_length, rootL_length]; omega
  split
  · unfold splitO
    split
    · rename_i x
      show (splitX x).length ≤ 200
      unfold splitX
      obtain ⟨s1, s2⟩ := okN_short x.data.toList
      have := join_short [32] _ s1
      rw [List.length_map] at this
      refine toldL_short _ _ 200 (by simp at this; omega) (by omega) ?_ ?_ <;> (rw [okE]; split <;> omega)
    · simp; omega
  · simp; omega
theorem lineX_short (l : ByteArray) : (lineX l).length ≤ 201 := by
  unfold lineX wordsX
  split
  · simp
  · rename_i c args _
    split
    · simp
    · have := cmdO_short c args
      rw [List.length_append, ansX]; simp only [List.length_cons, List.length_nil]; omega
theorem runL_short : ∀ ls : List ByteArray, (runL ls).length ≤ 201 * ls.length
  | [] => by simp [runL]
  | l :: ls => by
    have ih := runL_short ls
    have h := lineX_short l
    rw [show l :: ls = [l] ++ ls from rfl, runL_app, List.length_append, show runL [l] = lineX l by simp [runL]]
    simp only [List.length_append, List.length_cons, List.length_nil]
    omega
end Go.Proofs.YtmhbkilpllgchaaGreatDoor
namespace Go.Proofs.YtmhbkilpllgchaaGreatDoor
open Go.RowKit BigFrame
set_option linter.unusedVariables false
set_option linter.unusedSimpArgs false

theorem bldF_below {T e : TypeId} {B b : Nat} {p : Value} {xs : List Value} {W W' : World} (h : Lib.BuilderAtF T e B b p xs W) (hb : Below W.heap.size W W') : Lib.BuilderAtF T e B b p xs W' := by
  have hlt := h.lt
  obtain ⟨hB, v, hk, hown, hne⟩ := h
  refine ⟨hB, v, (hb.block b hlt).trans hk, ⟨hown.1, ?_⟩, hne⟩
  rcases hown.2 with h | ⟨g, cap, cur, fz, e1, e2, e3, rest⟩
  · exact .inl h
  · exact .inr ⟨g, cap, cur, fz, e1, e2, (hb.block g (Array.getElem?_eq_some_iff.1 e3).1).trans e3, rest⟩
theorem isbF_below {T e : TypeId} {B b : Nat} {xs : List Value} {W W' : World} (h : Lib.IsBuilderF T e B b xs W) (hb : Below W.heap.size W W') : Lib.IsBuilderF T e B b xs W' :=
  h.elim (fun x => .inl (bldF_below x hb)) (fun x => .inr (bldF_below x hb))

/-- What Run's loop keeps: the builder at b (it holds l), the lines at A. -/
structure RunI (w1 wr : World) (b A : Nat) (LS : List ByteArray) (l : List UInt8) : Prop where
  bld : Lib.IsBuilderF 45 5 b b (Lib.byteCells l) wr
  blk : Blk wr A 9 (LS.map Value.string).toArray
  below : Below b w1 wr
  eb : b = w1.heap.size
  ne : A ≠ b
theorem RunI.on {w1 wr wr' : World} {b A : Nat} {LS : List ByteArray} {l : List UInt8} (h : RunI w1 wr b A LS l) (hb : Below wr.heap.size wr wr') : RunI w1 wr' b A LS l :=
  ⟨isbF_below h.bld hb, h.blk.below hb h.blk.lt, h.below.trans (hb.mono (by have := h.below.size; have := h.eb; omega)), h.eb, h.ne⟩
theorem RunI.laid {w1 wr : World} {b A : Nat} {LS : List ByteArray} {l : List UInt8} (h : RunI w1 wr b A LS l) (hL : Laid w1) : Laid wr := hL.below (by rw [← h.eb]; exact h.below)
theorem RunI.cmds {w1 wr : World} {b A M : Nat} {LS : List ByteArray} {l : List UInt8} (h : RunI w1 wr b A LS l) (hC : Cmds w1 M) : Cmds wr M := hC.below (by rw [← h.eb]; exact h.below)
theorem RunI.write {w1 wr wr' : World} {b A : Nat} {LS : List ByteArray} {l m : List UInt8} (h : RunI w1 wr b A LS l) (h1 : Lib.BuilderAtF 45 5 b b (.pointer (some ⟨b, 0, none⟩)) (Lib.byteCells l ++ Lib.strCells ⟨m.toArray⟩) wr') (h2 : Below b wr wr') (h3 : Lib.OthersKept 5 (some b) wr wr') : RunI w1 wr' b A LS (l ++ m) := by
  refine ⟨.inr ?_, ?_, h.below.trans h2, h.eb, h.ne⟩
  · rw [Lib.byteCells_append]; exact h1
  · exact h3 A _ h.blk (fun e => h.ne (Option.some.inj e)) (fun c fz e => by cases e)
theorem RunI.new (w1 : World) (LS : List ByteArray) : RunI w1 ((w1.alloc (.cells #[.pointer none, .slice none 0 0] 45)).alloc (.cells (LS.map Value.string).toArray 9)) w1.heap.size (w1.heap.size + 1) LS [] := by
  have hb : Lib.BuilderAtF 45 5 w1.heap.size w1.heap.size (.pointer none) [] (w1.alloc (.cells #[.pointer none, .slice none 0 0] 45)) :=
    ⟨Nat.le_refl _, .slice none 0 0, heap_alloc_new w1 _, World.ownsRowF_nil _ _ _ _, by simp [Value.ownBlock]⟩
  refine ⟨.inl (hb.alloc _), ?_, ((Below.refl _ _).alloc (Nat.le_refl _) _).alloc (by rw [World.size_alloc]; omega) _, rfl, by omega⟩
  have := Blk.new (w1.alloc (.cells #[.pointer none, .slice none 0 0] 45)) 9 (LS.map Value.string).toArray
  rw [World.size_alloc] at this
  exact this

theorem fields_full (s : ByteArray) (w : World) (hs : s.size ≤ 4294967296) : Calls Tryz.prog 16 #[.string s, .func (.func 17) #[] #[]] w fun e w' =>
    ∃ p, e = .returned (.slice p (wordsL s).length (wordsL s).length) ∧ Strs w' p (wordsL s) ∧ Below w.heap.size w w' := by
  have := t_strings_FieldsFunc_runes 17 #[] (fun args w => f17_enter args w) blankR s w hs (blank_pays w)
  rw [fields_words] at this
  refine this.mono ?_
  rintro e w' ⟨A, he, -, hR, hB⟩
  exact ⟨_, he, strs_of_row hR, hB⟩

def runF (s : ByteArray) : List UInt8 := if 65536 < s.size then [] else runL (lines s)
def runE (s : ByteArray) : Int := if 65536 < s.size then 2701 else 0
theorem strs_tail {w : World} {g o : Nat} {c : ByteArray} {args : List ByteArray} (hg : g < w.heap.size) (h : ∀ (j : Nat) x, (c :: args)[j]? = some x → w.cell? ⟨g, o + j, none⟩ = some (.string x)) : Strs w (some ⟨g, o + 1, none⟩) args := by
  refine ⟨(fun e => by cases e), fun a e j hj => ?_⟩
  injection e with e
  subst e
  rw [Addr.add_mid]
  refine ⟨hg, ?_⟩
  rw [show o + 1 + j = o + (j + 1) by omega, List.getD, List.getElem?_eq_getElem hj]
  exact h (j + 1) _ (by rw [List.getElem?_cons_succ, List.getElem?_eq_getElem hj]; rfl)
end Go.Proofs.YtmhbkilpllgchaaGreatDoor
namespace Go.Proofs.YtmhbkilpllgchaaGreatDoor
open Go.RowKit BigFrame
set_option linter.unusedVariables false
set_option linter.unusedSimpArgs false

theorem findC_cons (k : ByteArray) (v : Value) (kv : List (ByteArray × Value)) (x : ByteArray) : findC ((k, v) :: kv) x = if x = k then some v else findC kv x := by
  unfold findC
  rw [List.find?_cons]
  by_cases h : x = k
  · simp [h]
  · simp [h]

theorem pick_cmd (M : Nat) (c0 : ByteArray) (args : List ByteArray) (w : World) (hL : Laid w) (hC : Cmds w M) (hz : ∀ x ∈ args, x.size ≤ 100000 ∧ x.data.toList ≠ []) (hn : args.length ≤ 100000) :
    (findC (cmdKV M) c0 = none ∧ cmdO c0 args = none) ∨
    (∃ B, findC (cmdKV M) c0 = some (ofV B) ∧ ∀ p, Strs w p args → Calls Tryz.prog 50 #[.slice p args.length args.length, .pointer (some ⟨B, 0, none⟩)] w fun e w' => e = .returned (ansV (cmdO c0 args)) ∧ Below w.heap.size w w') ∨
    (findC (cmdKV M) c0 = some (fnV 37) ∧ ∀ p, Strs w p args → Calls Tryz.prog 37 #[.slice p args.length args.length] w fun e w' => e = .returned (ansV (cmdO c0 args)) ∧ Below w.heap.size w w') ∨
    (findC (cmdKV M) c0 = some (fnV 38) ∧ ∀ p, Strs w p args → Calls Tryz.prog 38 #[.slice p args.length args.length] w fun e w' => e = .returned (ansV (cmdO c0 args)) ∧ Below w.heap.size w w') := by
  unfold cmdO
  by_cases h1 : c0 = nSha
  · rw [if_pos h1]
    exact .inr (.inl ⟨M + 1, by simp only [cmdKV, findC_cons, if_pos h1], fun p hW => of_28 (M + 1) args p args.length w hL hC.b1 hW hz (Nat.le_refl _) (by omega)⟩)
  rw [if_neg h1]
  by_cases h2 : c0 = nLeaf
  · rw [if_pos h2]
    exact .inr (.inl ⟨M + 2, by simp only [cmdKV, findC_cons, if_neg h1, if_pos h2], fun p hW => of_31 (M + 2) args p args.length w hL hC.b2 hW hz (Nat.le_refl _) (by omega)⟩)
  rw [if_neg h2]
  by_cases h3 : c0 = nObject
  · rw [if_pos h3]
    exact .inr (.inl ⟨M + 3, by simp only [cmdKV, findC_cons, if_neg h1, if_neg h2, if_pos h3], fun p hW => of_33 (M + 3) args p args.length w hL hC.b3 hW hz (Nat.le_refl _) (by omega)⟩)
  rw [if_neg h3]
  by_cases h4 : c0 = nFile
  · rw [if_pos h4]
    exact .inr (.inl ⟨M + 4, by simp only [cmdKV, findC_cons, if_neg h1, if_neg h2, if_neg h3, if_pos h4], fun p hW => of_35 (M + 4) args p args.length w hL hC.b4 hW hz (Nat.le_refl _) (by omega)⟩)
  rw [if_neg h4]
  by_cases h5 : c0 = nRoot
  · rw [if_pos h5]
    exact .inr (.inr (.inl ⟨by simp only [cmdKV, findC_cons, if_neg h1, if_neg h2, if_neg h3, if_neg h4, if_pos h5], fun p hW => croot_any args p args.length w hW hz (Nat.le_refl _) (by omega) hn⟩))
  rw [if_neg h5]
  by_cases h6 : c0 = nSplit
  · rw [if_pos h6]
    exact .inr (.inr (.inr ⟨by simp only [cmdKV, findC_cons, if_neg h1, if_neg h2, if_neg h3, if_neg h4, if_neg h5, if_pos h6], fun p hW => csplit_any args p args.length w hL hW hz (Nat.le_refl _) (by omega)⟩))
  rw [if_neg h6]
  refine .inl ⟨findC_no _ _ (fun q hq => ?_), rfl⟩
  simp only [cmdKV, List.mem_cons, List.not_mem_nil, or_false] at hq
  rcases hq with rfl | rfl | rfl | rfl | rfl | rfl <;> assumption
end Go.Proofs.YtmhbkilpllgchaaGreatDoor
