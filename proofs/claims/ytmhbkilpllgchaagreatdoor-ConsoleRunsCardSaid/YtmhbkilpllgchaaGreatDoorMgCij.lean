/- Words of a line, in plain Lean. console.blank, strings.FieldsFunc at it, and the law's words. -/
import Derived.Test.YtmhbkilpllgchaaGreatDoorTagE
import Derived.Test.YtmhbkilpllgchaaGreatDoorStr
import Derived.Test.YtmhbkilpllgchaaGreatDoorMgSpl
import Derived.Lib.FieldsP
import Derived.Lib.DecodeN
namespace Go.Proofs.YtmhbkilpllgchaaGreatDoor
open Go.RowKit BigFrame
set_option linter.unusedVariables false
set_option linter.unusedSimpArgs false

/-- A sign between words. -/
def sepB (b : UInt8) : Bool := b == 32 || b == 9
/-- Words of a list of bytes; c: the word under way. -/
def wsL : List UInt8 → List UInt8 → List (List UInt8)
  | [], c => if c = [] then [] else [c]
  | b :: t, c => if sepB b then (if c = [] then wsL t [] else c :: wsL t []) else wsL t (c ++ [b])
/-- Words of a line. -/
def wordsL (s : ByteArray) : List ByteArray := (wsL s.data.toList []).map bs

theorem wsL_run : ∀ (x t c : List UInt8), (∀ b ∈ x, sepB b = false) → wsL (x ++ t) c = wsL t (c ++ x)
  | [], t, c, _ => by simp
  | b :: x, t, c, h => by
    rw [List.cons_append, wsL, if_neg (by rw [h b (by simp)]; simp), wsL_run x t _ (fun y hy => h y (by simp [hy]))]
    simp
theorem wsL_sep (b : UInt8) (t c : List UInt8) (hb : sepB b = true) (hc : c ≠ []) : wsL (b :: t) c = c :: wsL t [] := by
  rw [wsL, if_pos hb, if_neg hc]
theorem wsL_sep0 (b : UInt8) (t : List UInt8) (hb : sepB b = true) : wsL (b :: t) [] = wsL t [] := by
  rw [wsL, if_pos hb, if_pos rfl]
theorem wsL_end (c : List UInt8) (hc : c ≠ []) : wsL [] c = [c] := by rw [wsL, if_neg hc]
theorem wsL_end0 : wsL [] [] = [] := by rw [wsL, if_pos rfl]

theorem wsL_all : ∀ (l c : List UInt8), (∀ b ∈ c, sepB b = false) → ∀ x ∈ wsL l c, x ≠ [] ∧ ∀ b ∈ x, sepB b = false
  | [], c, h, x, hx => by
    rw [wsL] at hx
    split at hx
    · cases hx
    · rename_i hne
      rw [List.mem_singleton.1 hx]
      exact ⟨hne, h⟩
  | b :: t, c, h, x, hx => by
    rw [wsL] at hx
    split at hx
    · split at hx
      · exact wsL_all t [] (by simp) x hx
      · rename_i hne
        rcases List.mem_cons.1 hx with e | hx
        · rw [e]; exact ⟨hne, h⟩
        · exact wsL_all t [] (by simp) x hx
    · rename_i hb
      exact wsL_all t (c ++ [b]) (fun y hy => by
        rcases List.mem_append.1 hy with hy | hy
        · exact h y hy
        · rw [List.mem_singleton.1 hy]; simpa using hb) x hx

/-- The bytes of s from a up to b. -/
def sliB (s : ByteArray) (a b : Nat) : List UInt8 := (s.data.toList.drop a).take (b - a)
theorem sliB_extract (s : ByteArray) (a b : Nat) : (s.extract a b).data.toList = sliB s a b := by
  rw [ByteArray.data_extract, Array.toList_extract, List.extract_eq_take_drop]; rfl
theorem sliB_bs (s : ByteArray) (a b : Nat) : bs (sliB s a b) = s.extract a b := by rw [← sliB_extract, bs_of]
theorem sliB_length (s : ByteArray) (a b : Nat) (h : b ≤ s.size) : (sliB s a b).length = b - a := by
  rw [sliB, List.length_take, List.length_drop]
  have : s.data.toList.length = s.size := rfl
  omega
theorem sliB_ne (s : ByteArray) (a b : Nat) (h1 : a < b) (h : b ≤ s.size) : sliB s a b ≠ [] := fun e => by
  have := sliB_length s a b h
  rw [e] at this
  simp at this
  omega
theorem sliB_self (s : ByteArray) (a : Nat) : sliB s a a = [] := by simp [sliB]
theorem sliB_cut (s : ByteArray) (a b c : Nat) (h1 : a ≤ b) (h2 : b ≤ c) : sliB s a c = sliB s a b ++ sliB s b c := by
  rw [sliB, sliB, sliB, show c - a = (b - a) + (c - b) by omega, List.take_add, List.drop_drop, show a + (b - a) = b by omega]
theorem drop_sliB (s : ByteArray) (a b : Nat) (h1 : a ≤ b) : s.data.toList.drop a = sliB s a b ++ s.data.toList.drop b := by
  conv => lhs; rw [← List.take_append_drop (b - a) (s.data.toList.drop a)]
  rw [List.drop_drop, show a + (b - a) = b by omega]; rfl
theorem get_bt (s : ByteArray) (i : Nat) : s.get! i = bt s i := by
  rw [bt, List.getD]
  show s.data.get!Internal i = _
  rw [Array.get!Internal_eq_getElem!, getElem!_def, ← Array.getElem?_toList]
  cases s.data.toList[i]? <;> rfl
theorem mem_sliB (s : ByteArray) (a b : Nat) (x : UInt8) (h : x ∈ sliB s a b) (hb : b ≤ s.size) : ∃ j, a ≤ j ∧ j < b ∧ x = bt s j := by
  obtain ⟨n, hn, e⟩ := List.mem_iff_getElem.1 h
  have hl := sliB_length s a b hb
  rw [hl] at hn
  refine ⟨a + n, by omega, by omega, ?_⟩
  rw [← e, bt, List.getD]
  simp only [sliB, List.getElem_take, List.getElem_drop]
  have hlt : a + n < s.data.toList.length := by
    have : s.data.toList.length = s.size := rfl
    omega
  rw [List.getElem?_eq_getElem hlt]; rfl
theorem drop_bt (s : ByteArray) (i : Nat) (h : i < s.size) : s.data.toList.drop i = bt s i :: s.data.toList.drop (i + 1) := by
  have hlt : i < s.data.toList.length := h
  rw [List.drop_eq_getElem_cons hlt, bt, List.getD, List.getElem?_eq_getElem hlt]; rfl

/-- A rune between words. -/
def blankR (r : Nat) : Bool := r == 32 || r == 9

set_option maxHeartbeats 4000000 in
theorem decN (n b0 b1 b2 b3 : Nat) (hn : 1 ≤ n) :
    (b0 < 128 ∧ Lib.decodeN n b0 b1 b2 b3 = (b0, 1)) ∨
    (128 ≤ b0 ∧ 128 ≤ (Lib.decodeN n b0 b1 b2 b3).1 ∧ ((Lib.decodeN n b0 b1 b2 b3).2 = 1 ∨ ((Lib.decodeN n b0 b1 b2 b3).2 = 2 ∧ 1 < n ∧ 128 ≤ b1) ∨
      ((Lib.decodeN n b0 b1 b2 b3).2 = 3 ∧ 2 < n ∧ 128 ≤ b1 ∧ 128 ≤ b2) ∨ ((Lib.decodeN n b0 b1 b2 b3).2 = 4 ∧ 3 < n ∧ 128 ≤ b1 ∧ 128 ≤ b2 ∧ 128 ≤ b3))) := by
  unfold Lib.decodeN
  repeat' split
  all_goals first
    | exact .inl ⟨by omega, rfl⟩
    | exact .inr ⟨by omega, by simp only; omega, .inl rfl⟩
    | exact .inr ⟨by omega, by simp only; omega, .inr (.inl ⟨rfl, by omega, by omega⟩)⟩
    | exact .inr ⟨by omega, by simp only; omega, .inr (.inr (.inl ⟨rfl, by omega, by omega, by omega⟩))⟩
    | exact .inr ⟨by omega, by simp only; omega, .inr (.inr (.inr ⟨rfl, by omega, by omega, by omega, by omega⟩))⟩

theorem dec_at (s : ByteArray) (i : Nat) (h : i < s.size) :
    1 ≤ (Utf8.decode s i).2 ∧ i + (Utf8.decode s i).2 ≤ s.size ∧
      ((blankR (Utf8.decode s i).1 = true ∧ (Utf8.decode s i).2 = 1 ∧ sepB (bt s i) = true) ∨
       (blankR (Utf8.decode s i).1 = false ∧ ∀ j, i ≤ j → j < i + (Utf8.decode s i).2 → sepB (bt s j) = false)) := by
  have hd := decN (s.size - i) (s.get! i).toNat (s.get! (i + 1)).toNat (s.get! (i + 2)).toNat (s.get! (i + 3)).toNat (by omega)
  rw [← Lib.decode_at, get_bt, get_bt, get_bt, get_bt] at hd
  have big : ∀ b : UInt8, 128 ≤ b.toNat → sepB b = false := fun b hb => by
    rw [sepB, Bool.or_eq_false_iff, beq_eq_false_iff_ne, beq_eq_false_iff_ne]
    exact ⟨fun e => by rw [e] at hb; exact absurd hb (by decide), fun e => by rw [e] at hb; exact absurd hb (by decide)⟩
  rcases hd with ⟨h0, hd⟩ | ⟨h0, hr, hk⟩
  · rw [hd]
    refine ⟨Nat.le_refl _, h, ?_⟩
    cases hb : sepB (bt s i) with
    | true =>
      refine .inl ⟨?_, rfl, rfl⟩
      rw [sepB, Bool.or_eq_true, beq_iff_eq, beq_iff_eq] at hb
      rcases hb with e | e <;> rw [e] <;> decide
    | false =>
      refine .inr ⟨?_, fun j h1 h2 => ?_⟩
      · rw [sepB, Bool.or_eq_false_iff, beq_eq_false_iff_ne, beq_eq_false_iff_ne] at hb
        rw [blankR, Bool.or_eq_false_iff, beq_eq_false_iff_ne, beq_eq_false_iff_ne]
        exact ⟨fun e => hb.1 (UInt8.toNat_inj.1 e), fun e => hb.2 (UInt8.toNat_inj.1 e)⟩
      · have e : j = i := by simp only at h2; omega
        rw [e]; exact hb
  · refine ⟨by omega, by omega, .inr ⟨?_, fun j h1 h2 => ?_⟩⟩
    · rw [blankR, Bool.or_eq_false_iff, beq_eq_false_iff_ne, beq_eq_false_iff_ne]
      exact ⟨by omega, by omega⟩
    · apply big
      have : j = i ∨ j = i + 1 ∨ j = i + 2 ∨ j = i + 3 := by omega
      rcases this with rfl | rfl | rfl | rfl <;> omega

/-- How far a reading of words is: the spans, and the start of the word under way (at = the place: none). -/
def pcs (s : ByteArray) (acc : List (Nat × Nat)) : List ByteArray := acc.map fun x => s.extract x.1 x.2

theorem spans_words (s : ByteArray) : ∀ (f pos : Nat) (st : Option Nat) (acc : List (Nat × Nat)), pos ≤ s.size → s.size - pos ≤ f → (∀ a, st = some a → a < pos) →
    pcs s (Lib.closeSpans s (Lib.spansFromP blankR s f pos st acc)) = pcs s acc ++ (wsL (s.data.toList.drop pos) (match st with | some a => sliB s a pos | none => [])).map bs := by
  intro f
  induction f with
  | zero =>
    intro pos st acc hp hf ha
    have e : pos = s.size := by omega
    subst e
    rw [Lib.spansFromP, show s.data.toList.drop s.size = [] from List.drop_of_length_le (Nat.le_refl _)]
    cases st with
    | none => simp [Lib.closeSpans, wsL_end0]
    | some a =>
      have := ha a rfl
      show pcs s (acc ++ [(a, s.size)]) = pcs s acc ++ (wsL [] (sliB s a s.size)).map bs
      rw [wsL_end _ (sliB_ne s a _ this (Nat.le_refl _)), pcs, List.map_append, List.map_cons, List.map_nil, List.map_cons, List.map_nil, sliB_bs]; rfl
  | succ f ih =>
    intro pos st acc hp hf ha
    by_cases hlt : pos < s.size
    · obtain ⟨k1, k2, hc⟩ := dec_at s pos hlt
      unfold Lib.spansFromP
      rw [if_pos hlt]
      rcases hc with ⟨c1, c2, c3⟩ | ⟨c1, c2⟩
      · rw [if_pos c1, c2, drop_bt s pos hlt]
        cases st with
        | none =>
          have := ih (pos + 1) none acc (by omega) (by omega) (fun a e => by cases e)
          rw [wsL_sep0 _ _ c3]
          exact this
        | some a =>
          have hap := ha a rfl
          have := ih (pos + 1) none (acc ++ [(a, pos)]) (by omega) (by omega) (fun a e => by cases e)
          show pcs s (Lib.closeSpans s (Lib.spansFromP blankR s f (pos + 1) none (acc ++ [(a, pos)]))) = pcs s acc ++ (wsL (_ :: _) (sliB s a pos)).map bs
          rw [this, wsL_sep _ _ _ c3 (sliB_ne s a pos hap hp), List.map_cons, sliB_bs, pcs, pcs, List.map_append, List.append_assoc]; rfl
      · rw [if_neg (by rw [c1]; simp)]
        have hall : ∀ b ∈ sliB s pos (pos + (Utf8.decode s pos).2), sepB b = false := fun b hb => by
          obtain ⟨j, j1, j2, rfl⟩ := mem_sliB s _ _ b hb k2
          exact c2 j j1 j2
        rw [drop_sliB s pos (pos + (Utf8.decode s pos).2) (by omega), wsL_run _ _ _ hall]
        cases st with
        | none =>
          have := ih (pos + (Utf8.decode s pos).2) (some pos) acc k2 (by omega) (fun a e => by cases e; omega)
          exact this
        | some a =>
          have hap := ha a rfl
          have := ih (pos + (Utf8.decode s pos).2) (some a) acc k2 (by omega) (fun b e => by cases e; omega)
          show pcs s (Lib.closeSpans s (Lib.spansFromP blankR s f (pos + (Utf8.decode s pos).2) (some a) acc)) = _
          rw [this]
          show _ ++ (wsL _ (sliB s a (pos + (Utf8.decode s pos).2))).map bs = _ ++ (wsL _ (sliB s a pos ++ _)).map bs
          rw [← sliB_cut s a pos _ (by omega) (by omega)]
    · rw [Lib.spansFromP_end _ _ _ _ _ _ hlt]
      have e : pos = s.size := by omega
      subst e
      rw [show s.data.toList.drop s.size = [] from List.drop_of_length_le (Nat.le_refl _)]
      cases st with
      | none => simp [Lib.closeSpans, wsL_end0]
      | some a =>
        have := ha a rfl
        show pcs s (acc ++ [(a, s.size)]) = pcs s acc ++ (wsL [] (sliB s a s.size)).map bs
        rw [wsL_end _ (sliB_ne s a _ this (Nat.le_refl _)), pcs, List.map_append, List.map_cons, List.map_nil, List.map_cons, List.map_nil, sliB_bs]; rfl

theorem fields_words (s : ByteArray) : Lib.goFieldsP blankR s = wordsL s := by
  have := spans_words s s.size 0 none [] (Nat.zero_le _) (by omega) (fun a e => by cases e)
  exact this
end Go.Proofs.YtmhbkilpllgchaaGreatDoor
namespace Go.Proofs.YtmhbkilpllgchaaGreatDoor
open Go.RowKit BigFrame
set_option linter.unusedVariables false
set_option linter.unusedSimpArgs false

set_option maxRecDepth 100000 in
set_option maxHeartbeats 4000000 in
theorem blank_any (x : Nat) (hx : x ≤ 1114111) (w : World) : Calls Tryz.prog 17 #[.int .i32 (x : Int)] w fun e w' => e = .returned (.bool (blankR x)) ∧ ∃ q, w' = w.drewN q := by
  have h1 : (x : Int) ≤ 1114111 := by omega
  by_cases h32 : x = 32
  · have e : blankR x = true := by rw [h32]; rfl
    have he : (x : Int) = 32 := by omega
    rw [e, he]
    clear e he h32 h1 hx
    go_enter Tryz.func17, Tryz.ntmps17
    go_wp2
    go_ret
    first | exact ⟨rfl, 0, rfl⟩ | exact ⟨rfl, _, rfl⟩
  · by_cases h9 : x = 9
    · have e : blankR x = true := by rw [h9]; rfl
      have he : (x : Int) = 9 := by omega
      rw [e, he]
      clear e he h32 h1 hx h9
      go_enter Tryz.func17, Tryz.ntmps17
      go_wp2
      go_ret
      first | exact ⟨rfl, 0, rfl⟩ | exact ⟨rfl, _, rfl⟩
    · have e : blankR x = false := by rw [blankR, Bool.or_eq_false_iff, beq_eq_false_iff_ne, beq_eq_false_iff_ne]; exact ⟨h32, h9⟩
      rw [e]
      have n1 : ((x : Int) == 32) = false := by rw [beq_eq_false_iff_ne]; omega
      have n2 : ((x : Int) == 9) = false := by rw [beq_eq_false_iff_ne]; omega
      clear e h32 h9
      go_enter Tryz.func17, Tryz.ntmps17
      go_wp2
      go_ret
      first | exact ⟨rfl, 0, rfl⟩ | exact ⟨rfl, _, rfl⟩

theorem f17_enter (args : Array Value) (w : World) : (callFunc 17 args).run Tryz.prog w = .ok (.enter 17 args) w := by
  have hn' : ¬ Tryz.f17.name = "runtime.NumGoroutine" := by
    have : (Tryz.f17.name == "runtime.NumGoroutine") = false := by kernel_rfl
    simpa using this
  have hb : (Tryz.f17.body).isNone = false := by kernel_rfl
  obtain ⟨c, hc⟩ : ∃ c, Tryz.f17.body = some c := by
    cases h : Tryz.f17.body with
    | none => rw [h] at hb; cases hb
    | some c => exact ⟨c, rfl⟩
  simp [callFunc, program, Sem.run, bind, Sem.bind, pure, Tryz.func17, hn', hc]

theorem blank_pays (w : World) : PredAtRunes Tryz.prog 17 #[] blankR w := fun W x hx _ => blank_any x hx W

theorem fields_any (s : ByteArray) (w : World) (hs : s.size ≤ 4294967296) : Calls Tryz.prog 16 #[.string s, .func (.func 17) #[] #[]] w fun e w' =>
    ∃ p c, e = .returned (.slice p (wordsL s).length c) ∧ Strs w' p (wordsL s) ∧ Below w.heap.size w w' := by
  have := t_strings_FieldsFunc_runes 17 #[] (fun args w => f17_enter args w) blankR s w hs (blank_pays w)
  rw [fields_words] at this
  refine this.mono ?_
  rintro e w' ⟨A, he, -, hR, hB⟩
  exact ⟨_, _, he, strs_of_row hR, hB⟩

/-- How far the law's reading of words is. -/
def Wds (s : ByteArray) (f i : Nat) (ns : List ByteArray) : Prop :=
  (i ≤ s.size ∧ f ≤ i ∧ wordsL s = ns ++ (wsL (s.data.toList.drop i) (sliB s f i)).map bs) ∨ (i = s.size + 1 ∧ f = i ∧ wordsL s = ns)
theorem Wds.on {s : ByteArray} {f i : Nat} {ns : List ByteArray} (h : Wds s f i ns) (hi : i < s.size) (hb : sepB (bt s i) = false) : Wds s f (i + 1) ns := by
  rcases h with ⟨h1, h2, h3⟩ | ⟨h1, _⟩
  · refine .inl ⟨by omega, by omega, ?_⟩
    rw [drop_bt s i hi, wsL, if_neg (by rw [hb]; simp)] at h3
    have e : sliB s i (i + 1) = [bt s i] := by
      rw [sliB, show i + 1 - i = 1 by omega, drop_bt s i hi]; rfl
    rw [sliB_cut s f i (i + 1) h2 (by omega), e]
    exact h3
  · omega
theorem Wds.name {s : ByteArray} {f i : Nat} {ns : List ByteArray} (h : Wds s f i ns) (hi : i ≤ s.size) (hf : f < i) (hb : ∀ hlt : i < s.size, sepB (bt s i) = true) : Wds s (i + 1) (i + 1) (ns ++ [s.extract f i]) := by
  rcases h with ⟨h1, h2, h3⟩ | ⟨h1, _⟩
  · have hc := sliB_ne s f i hf hi
    by_cases hlt : i < s.size
    · rw [drop_bt s i hlt, wsL_sep _ _ _ (hb hlt) hc] at h3
      refine .inl ⟨by omega, Nat.le_refl _, ?_⟩
      rw [h3, sliB_self, List.map_cons, sliB_bs, List.append_assoc]; rfl
    · have e : i = s.size := by omega
      rw [List.drop_of_length_le (show s.data.toList.length ≤ i by have : s.data.toList.length = s.size := rfl; omega), wsL_end _ hc] at h3
      refine .inr ⟨by omega, rfl, ?_⟩
      rw [h3, List.map_cons, sliB_bs]; rfl
  · omega
theorem Wds.skip {s : ByteArray} {i : Nat} {ns : List ByteArray} (h : Wds s i i ns) (hi : i ≤ s.size) (hb : ∀ hlt : i < s.size, sepB (bt s i) = true) : Wds s (i + 1) (i + 1) ns := by
  rcases h with ⟨h1, h2, h3⟩ | ⟨h1, _⟩
  · rw [sliB_self] at h3
    by_cases hlt : i < s.size
    · rw [drop_bt s i hlt, wsL_sep0 _ _ (hb hlt)] at h3
      exact .inl ⟨by omega, Nat.le_refl _, by rw [h3, sliB_self]⟩
    · rw [List.drop_of_length_le (show s.data.toList.length ≤ i by have : s.data.toList.length = s.size := rfl; omega), wsL_end0] at h3
      exact .inr ⟨by omega, rfl, by rw [h3]; simp⟩
  · omega

set_option maxRecDepth 100000 in
set_option maxHeartbeats 8000000 in
theorem words_any (s : ByteArray) (w : World) (hs : s.size ≤ 100000) : Calls Tryz.prog 10 #[.string s] w fun e w' =>
    ∃ p c, e = .returned (.slice p (wordsL s).length c) ∧ Strs w' p (wordsL s) ∧ Below w.heap.size w w' ∧ (wordsL s).length ≤ c ∧ c ≤ 9223372036854775807 := by
  obtain ⟨i0, hi0, hz0, hz1, hz2⟩ := info_parts info9
  have h1 : (s.size : Int) ≤ 100000 := by omega
  have hF0 : Wds s 0 0 [] := .inl ⟨Nat.zero_le _, Nat.le_refl _, by rw [sliB_self]; rfl⟩
  go_enter Tryz.func10, Tryz.ntmps10
  go_wp2
  go_loopw [3, 4, 5] (fun v f i wr => ∃ (p : Option Addr) (k c f' i' : Nat) (ns : List ByteArray) (xs : List Value), v = .slice p k c ∧ f = .int .i64 (f' : Int) ∧ i = .int .i64 (i' : Int) ∧ f' ≤ i' ∧ i' ≤ s.size + 1 ∧ k ≤ i' ∧ wr.ownsRow w.heap.size 9 1 (.slice p k c) k xs ∧ Hid (k = ns.length) ∧ Hid (xs = ns.map Value.string) ∧ Hid (Wds s f' i' ns) ∧ Below w.heap.size w wr) (fun _ _ i _ => s.size + 2 - (intOf i).toNat)
  case atStart => exact ⟨none, 0, 0, 0, 0, [], [], rfl, rfl, rfl, by omega, by omega, by omega, World.ownsRow_nil _ _ _ _, Lib.hid rfl, Lib.hid rfl, Lib.hid hF0, Below.refl _ _⟩
  case round =>
    clear hF0
    obtain ⟨p, k, c, f, i, ns, xs, rfl, rfl, rfl, hfi, hin, hki, hR, HK, HXS, HF, hbw⟩ := hrel
    have hwr := hbw.size
    by_cases hi : i ≤ s.size
    · have hi' : (i : Int) ≤ (s.size : Int) := by omega
      obtain ⟨b, hb⟩ : ∃ b, b = bt s i := ⟨_, rfl⟩
      by_cases hcase : i < s.size ∧ sepB b = false
      · obtain ⟨hlt, hsep⟩ := hcase
        have hF2 := HF.out.on hlt (by rw [← hb]; exact hsep)
        have HF2 := Lib.hid hF2
        rw [sepB, Bool.or_eq_false_iff, beq_eq_false_iff_ne, beq_eq_false_iff_ne] at hsep
        have hb' := hb.symm
        have hlt' : (i : Int) < (s.size : Int) := by omega
        have m32 : ¬ (b.toNat : Int) = 32 := fun e => hsep.1 ((u8_ne b 32).1 e)
        have m9 : ¬ (b.toNat : Int) = 9 := fun e => hsep.2 ((u8_ne b 9).1 e)
        have o32 : ((b.toNat : Int) != 32) = true := by rw [bne_iff_ne]; exact m32
        have o9 : ((b.toNat : Int) != 9) = true := by rw [bne_iff_ne]; exact m9
        clear m32 m9
        clear hb hsep hF2
        go_wp2
        go_roundw
        case rel => exact ⟨p, k, c, f, i + 1, ns, xs, rfl, rfl, by go_num, by omega, by omega, by omega, hR, HK, HXS, HF2, hbw⟩
        case measure => simp [intOf]; omega
      · have htest : ((i : Int) < (s.size : Int) ∧ i < s.size ∧ bt s i = 32) ∨ ((i : Int) < (s.size : Int) ∧ i < s.size ∧ bt s i = 9) ∨ ((s.size : Int) ≤ (i : Int)) := by
          by_cases hlt : i < s.size
          · have : sepB b = true := by
              cases h : sepB b with
              | true => rfl
              | false => exact absurd ⟨hlt, h⟩ hcase
            rw [sepB, Bool.or_eq_true, beq_iff_eq, beq_iff_eq, hb] at this
            rcases this with h | h
            · exact .inl ⟨by omega, hlt, h⟩
            · exact .inr (.inl ⟨by omega, hlt, h⟩)
          · exact .inr (.inr (by omega))
        have hsep : ∀ hlt : i < s.size, sepB (bt s i) = true := fun hlt => by
          cases h : sepB (bt s i) with
          | true => rfl
          | false => exact absurd ⟨hlt, by rw [hb]; exact h⟩ hcase
        by_cases hfl : f < i
        · have hF2 := HF.out.name hi hfl hsep
          have HS := Lib.hid hF2
          have hRA : (wr.alloc (.cells #[.string (s.extract f i)] 9)).ownsRow w.heap.size 9 1 (.slice p k c) k xs := own_kept hR (World.grownBy_alloc wr _ none) (fun r e => by cases e)
          have hsrc : Src Tryz.prog 1 28 (.slice (some ⟨wr.heap.size, 0, none⟩) 1 1) 1 [.string (s.extract f i)] (wr.alloc (.cells #[.string (s.extract f i)] 9)) := by
            have := src_strs (strs_new (w := wr.alloc (.cells #[.string (s.extract f i)] 9)) [s.extract f i] (Blk.new wr 9 _)) 1
            exact this
          have b1 : k + 1 ≤ maxLen := by simp only [maxLen]; omega
          have b2 : (k + 1) * 16 ≤ 140737488355328 := by omega
          have b3 : w.heap.size ≤ (wr.alloc (.cells #[.string (s.extract f i)] 9)).heap.size := by rw [World.size_alloc]; omega
          have hBA : Below w.heap.size w (wr.alloc (.cells #[.string (s.extract f i)] 9)) := hbw.alloc hwr _
          have hfl' : (f : Int) < (i : Int) := by omega
          clear hF2 hb hcase hsep
          rcases htest with ⟨g1, g2, g3⟩ | ⟨g1, g2, g3⟩ | g1
          all_goals
            go_wp2_with (at_builtin; refine wpList_app _ w.heap.size 9 i0 (.string ⟨#[]⟩) 1 16 Tryz.underlying28 hi0 hz0 hz1 hz2 rfl (.slice p k c) k xs rfl hRA (.slice (some ⟨wr.heap.size, 0, none⟩) 1 1) 1 [.string (s.extract f i)] rfl hsrc b1 b2 b3 ?_; intro v5 w5 hR5 hg5 _ _; obtain ⟨p5, c5, rfl⟩ := row_slice hR5; simp only [List.setIfInBounds_toArray, List.set_cons_succ, List.set_cons_zero])
            go_roundw
            case rel => exact ⟨p5, k + 1, c5, i + 1, i + 1, ns ++ [s.extract f i], xs ++ [.string (s.extract f i)], rfl, by go_num, by go_num, by omega, by omega, by omega, hR5, Lib.hid (by rw [List.length_append, ← HK.out]; rfl), Lib.hid (by rw [List.map_append, ← HXS.out]; rfl), Lib.hid HS.out, hBA.grown hg5 b3 (fun g e => (hRA.lt g e).1)⟩
            case measure => simp [intOf]; omega
        · have ef : f = i := by omega
          subst ef
          have hF2 := HF.out.skip hi hsep
          have HF2 := Lib.hid hF2
          clear hF2 hb hcase hsep hfl
          rcases htest with ⟨g1, g2, g3⟩ | ⟨g1, g2, g3⟩ | g1
          all_goals
            go_wp2
            go_roundw
            case rel => exact ⟨p, k, c, f + 1, f + 1, ns, xs, rfl, by go_num, by go_num, by omega, by omega, by omega, hR, HK, HXS, HF2, hbw⟩
            case measure => simp [intOf]; omega
    · have hi' : (s.size : Int) < (i : Int) := by omega
      have hall : wordsL s = ns := by
        rcases HF.out with ⟨h1, _⟩ | ⟨_, _, h3⟩
        · omega
        · exact h3
      have hRR := hR
      rw [HXS.out, HK.out] at hRR
      have hmax : c ≤ 9223372036854775807 := by
        rcases hRR.2 with ⟨e, _⟩ | ⟨g, cap, cur, e, _, _, _, hm, _⟩
        · injection e with _ _ e; omega
        · injection e with _ _ e; simp only [maxLen] at hm; omega
      have HO := Lib.hid (And.intro hall (And.intro (strs_of_row hRR) (And.intro (rowS_cap hRR) hmax)))
      clear hall hRR hmax
      go_wp2
      go_ret
      refine ⟨p, c, ?_, by rw [HO.out.1]; exact HO.out.2.1, hbw, by rw [HO.out.1]; exact HO.out.2.2.1, HO.out.2.2.2⟩
      rw [HO.out.1, ← HK.out]
      rfl
end Go.Proofs.YtmhbkilpllgchaaGreatDoor
