/- SHA-256 on numbers: the same digests, in a form that the kernel reckons fast. -/
import Derived.Test.YtmhbkilpllgchaaSha
namespace Go.Proofs.Ytmhbkilpllgchaa
set_option linter.unusedVariables false

def addN (x y : Nat) : Nat := Nat.mod (Nat.add x y) 4294967296
def rotN (x k j : Nat) : Nat := Nat.lor (Nat.shiftRight x k) (Nat.mod (Nat.shiftLeft x j) 4294967296)
def sg0N (x : Nat) : Nat := Nat.xor (Nat.xor (rotN x 7 25) (rotN x 18 14)) (Nat.shiftRight x 3)
def sg1N (x : Nat) : Nat := Nat.xor (Nat.xor (rotN x 17 15) (rotN x 19 13)) (Nat.shiftRight x 10)
def bg0N (x : Nat) : Nat := Nat.xor (Nat.xor (rotN x 2 30) (rotN x 13 19)) (rotN x 22 10)
def bg1N (x : Nat) : Nat := Nat.xor (Nat.xor (rotN x 6 26) (rotN x 11 21)) (rotN x 25 7)
def chN (e f g : Nat) : Nat := Nat.xor (Nat.land e f) (Nat.land (Nat.sub 4294967295 e) g)
def majN (a b c : Nat) : Nat := Nat.xor (Nat.xor (Nat.land a b) (Nat.land a c)) (Nat.land b c)
theorem addN_eq (x y : U32) : (x + y).toNat = addN x.toNat y.toNat := BitVec.toNat_add x y
theorem rotN_eq (x : U32) (k j : Nat) (h : 32 - k = j) : (rotr x k).toNat = rotN x.toNat k j := by
  subst h
  rw [rotr, BitVec.toNat_or, BitVec.toNat_ushiftRight, BitVec.toNat_shiftLeft]
  rfl
theorem sg0N_eq (x : U32) : (sg0 x).toNat = sg0N x.toNat := by
  rw [sg0, BitVec.toNat_xor, BitVec.toNat_xor, BitVec.toNat_ushiftRight, rotN_eq x 7 25 rfl, rotN_eq x 18 14 rfl]; rfl
theorem sg1N_eq (x : U32) : (sg1 x).toNat = sg1N x.toNat := by
  rw [sg1, BitVec.toNat_xor, BitVec.toNat_xor, BitVec.toNat_ushiftRight, rotN_eq x 17 15 rfl, rotN_eq x 19 13 rfl]; rfl
theorem bg0N_eq (x : U32) : (bg0 x).toNat = bg0N x.toNat := by
  rw [bg0, BitVec.toNat_xor, BitVec.toNat_xor, rotN_eq x 2 30 rfl, rotN_eq x 13 19 rfl, rotN_eq x 22 10 rfl]; rfl
theorem bg1N_eq (x : U32) : (bg1 x).toNat = bg1N x.toNat := by
  rw [bg1, BitVec.toNat_xor, BitVec.toNat_xor, rotN_eq x 6 26 rfl, rotN_eq x 11 21 rfl, rotN_eq x 25 7 rfl]; rfl
theorem chN_eq (e f g : U32) : (chf e f g).toNat = chN e.toNat f.toNat g.toNat := by
  rw [chf, BitVec.toNat_xor, BitVec.toNat_and, BitVec.toNat_and, BitVec.toNat_not]; rfl
theorem majN_eq (a b c : U32) : (majf a b c).toNat = majN a.toNat b.toNat c.toNat := by
  rw [majf, BitVec.toNat_xor, BitVec.toNat_xor, BitVec.toNat_and, BitVec.toNat_and, BitVec.toNat_and]; rfl

structure N8 where
  a : Nat
  b : Nat
  c : Nat
  d : Nat
  e : Nat
  f : Nat
  g : Nat
  h : Nat
def n8 (s : S8) : N8 := ⟨s.a.toNat, s.b.toNat, s.c.toNat, s.d.toNat, s.e.toNat, s.f.toNat, s.g.toNat, s.h.toNat⟩

def rndN : List Nat → List Nat → Nat → Nat → Nat → Nat → Nat → Nat → Nat → Nat → N8
  | [], _, a, b, c, d, e, f, g, h => ⟨a, b, c, d, e, f, g, h⟩
  | _ :: _, [], a, b, c, d, e, f, g, h => ⟨a, b, c, d, e, f, g, h⟩
  | k :: ks, w :: ws, a, b, c, d, e, f, g, h =>
    (fun t => rndN ks ws (addN t (addN (bg0N a) (majN a b c))) a b c (addN d t) e f g) (addN (addN (addN (addN h (bg1N e)) (chN e f g)) k) w)
def foldS (s : S8) : List U32 → List U32 → S8
  | k :: ks, w :: ws => foldS (stepS s k w) ks ws
  | _, _ => s
theorem rndN_eq : ∀ (ks ws : List U32) (s : S8), rndN (ks.map (·.toNat)) (ws.map (·.toNat)) s.a.toNat s.b.toNat s.c.toNat s.d.toNat s.e.toNat s.f.toNat s.g.toNat s.h.toNat = n8 (foldS s ks ws)
  | [], ws, s => by rw [List.map_nil, rndN, foldS]; rfl; intro k ks w ws h; cases h
  | k :: ks, [], s => by rw [List.map_cons, List.map_nil, rndN, foldS]; rfl; intro k ks w ws _ h; cases h
  | k :: ks, w :: ws, s => by
    have ih := rndN_eq ks ws (stepS s k w)
    rw [foldS, ← ih, List.map_cons, List.map_cons, rndN]
    simp only [stepS, t1, t2, addN_eq, bg0N_eq, bg1N_eq, chN_eq, majN_eq]
theorem foldS_snoc (k w : U32) : ∀ (ks ws : List U32) (s : S8), ks.length = ws.length → foldS s (ks ++ [k]) (ws ++ [w]) = stepS (foldS s ks ws) k w
  | [], [], s, _ => rfl
  | [], w :: ws, s, h => by cases h
  | k :: ks, [], s, h => by cases h
  | a :: ks, b :: ws, s, h => by
    rw [List.cons_append, List.cons_append, foldS, foldS]
    exact foldS_snoc k w ks ws _ (by simpa using h)
theorem roundsS_fold (b : Nat → UInt8) (s : S8) : ∀ n, roundsS b s n = foldS s ((List.range n).map kAt) ((List.range n).map (sched b))
  | 0 => rfl
  | n + 1 => by
    rw [List.range_succ, List.map_append, List.map_append]
    show stepS (roundsS b s n) (kAt n) (sched b n) = _
    rw [roundsS_fold b s n, List.map_singleton, List.map_singleton, foldS_snoc _ _ _ _ _ (by simp)]

def newN (a b c d : Nat) : Nat := addN (addN (addN a (sg0N b)) c) (sg1N d)
def schN : Nat → Nat → Nat → Nat → Nat → Nat → Nat → Nat → Nat → Nat → Nat → Nat → Nat → Nat → Nat → Nat → Nat → List Nat
  | 0, _, _, _, _, _, _, _, _, _, _, _, _, _, _, _, _ => []
  | n + 1, a, b, c, d, e, f, g, h, i, j, k, l, m, o, p, q => a :: schN n b c d e f g h i j k l m o p q (newN a b j p)
theorem schN_eq {f : Nat → Nat} (hf : ∀ i, f (i + 16) = newN (f i) (f (i + 1)) (f (i + 9)) (f (i + 14))) : ∀ (n i : Nat),
    schN n (f i) (f (i + 1)) (f (i + 2)) (f (i + 3)) (f (i + 4)) (f (i + 5)) (f (i + 6)) (f (i + 7)) (f (i + 8)) (f (i + 9)) (f (i + 10)) (f (i + 11)) (f (i + 12)) (f (i + 13)) (f (i + 14)) (f (i + 15)) = (List.range n).map fun j => f (i + j)
  | 0, i => by rw [schN]; rfl
  | n + 1, i => by
    have ih := schN_eq hf n (i + 1)
    rw [schN, List.range_succ_eq_map, List.map_cons, List.map_map]
    congr 1
    rw [← hf i]
    have e : ((fun j => f (i + j)) ∘ Nat.succ) = fun j => f (i + 1 + j) := by
      funext j
      show f (i + (j + 1)) = _
      rw [show i + (j + 1) = i + 1 + j by omega]
    rw [e, ← ih]
theorem sched_new (b : Nat → UInt8) (i : Nat) : (sched b (i + 16)).toNat = newN (sched b i).toNat (sched b (i + 1)).toNat (sched b (i + 9)).toNat (sched b (i + 14)).toNat := by
  rw [sched_hi b (i + 16) (by omega), show i + 16 - 16 = i by omega, show i + 16 - 15 = i + 1 by omega, show i + 16 - 7 = i + 9 by omega, show i + 16 - 2 = i + 14 by omega]
  simp only [addN_eq, sg0N_eq, sg1N_eq, newN]

def klN : List Nat := kl
theorem klN_eq : (List.range 64).map (fun i => (kAt i).toNat) = klN := by decide +kernel
/-- One block worked in, of sixteen words. -/
def compN (s : N8) (a b c d e f g h i j k l m o p q : Nat) : N8 :=
  (fun t => N8.mk (addN s.a t.a) (addN s.b t.b) (addN s.c t.c) (addN s.d t.d) (addN s.e t.e) (addN s.f t.f) (addN s.g t.g) (addN s.h t.h))
    (rndN klN (schN 64 a b c d e f g h i j k l m o p q) s.a s.b s.c s.d s.e s.f s.g s.h)
def wordN (a b c d : UInt8) : Nat := Nat.lor (Nat.lor (Nat.lor (Nat.mod (Nat.shiftLeft a.toNat 24) 4294967296) (Nat.mod (Nat.shiftLeft b.toNat 16) 4294967296)) (Nat.mod (Nat.shiftLeft c.toNat 8) 4294967296)) d.toNat
theorem wb_toNat (b : UInt8) : (wb b).toNat = b.toNat := by
  have := b.toNat_lt
  rw [wb, BitVec.toNat_ofNat]
  omega
theorem wordN_eq (b : Nat → UInt8) (i : Nat) : (mAt b i).toNat = wordN (b (4 * i)) (b (4 * i + 1)) (b (4 * i + 2)) (b (4 * i + 3)) := by
  rw [mAt, BitVec.toNat_or, BitVec.toNat_or, BitVec.toNat_or, BitVec.toNat_shiftLeft, BitVec.toNat_shiftLeft, BitVec.toNat_shiftLeft, wb_toNat, wb_toNat, wb_toNat, wb_toNat]
  rfl
theorem compN_eq (s : S8) (b : Nat → UInt8) : n8 (comp s b) = compN (n8 s) (mAt b 0).toNat (mAt b 1).toNat (mAt b 2).toNat (mAt b 3).toNat (mAt b 4).toNat (mAt b 5).toNat (mAt b 6).toNat (mAt b 7).toNat (mAt b 8).toNat (mAt b 9).toNat (mAt b 10).toNat (mAt b 11).toNat (mAt b 12).toNat (mAt b 13).toNat (mAt b 14).toNat (mAt b 15).toNat := by
  have h1 := schN_eq (f := fun i => (sched b i).toNat) (sched_new b) 64 0
  simp only [Nat.zero_add] at h1
  rw [sched_lo b 0 (by omega), sched_lo b 1 (by omega), sched_lo b 2 (by omega), sched_lo b 3 (by omega), sched_lo b 4 (by omega), sched_lo b 5 (by omega), sched_lo b 6 (by omega), sched_lo b 7 (by omega),
    sched_lo b 8 (by omega), sched_lo b 9 (by omega), sched_lo b 10 (by omega), sched_lo b 11 (by omega), sched_lo b 12 (by omega), sched_lo b 13 (by omega), sched_lo b 14 (by omega), sched_lo b 15 (by omega)] at h1
  have h2 := rndN_eq ((List.range 64).map kAt) ((List.range 64).map (sched b)) s
  rw [List.map_map, List.map_map] at h2
  have e1 : (List.range 64).map ((fun x : U32 => x.toNat) ∘ kAt) = klN := klN_eq
  have e2 : (List.range 64).map ((fun x : U32 => x.toNat) ∘ sched b) = (List.range 64).map fun i => (sched b i).toNat := rfl
  rw [e1, e2, ← h1, ← roundsS_fold] at h2
  rw [compN]
  have h3 : ∀ (r : S8), rndN klN (schN 64 (mAt b 0).toNat (mAt b 1).toNat (mAt b 2).toNat (mAt b 3).toNat (mAt b 4).toNat (mAt b 5).toNat (mAt b 6).toNat (mAt b 7).toNat (mAt b 8).toNat (mAt b 9).toNat (mAt b 10).toNat (mAt b 11).toNat (mAt b 12).toNat (mAt b 13).toNat (mAt b 14).toNat (mAt b 15).toNat) (n8 s).a (n8 s).b (n8 s).c (n8 s).d (n8 s).e (n8 s).f (n8 s).g (n8 s).h = n8 (roundsS b s 64) := fun _ => h2
  rw [h3 s, comp, addS]
  simp only [n8, addN_eq]

/-- So many words of a list of bytes. -/
def wordsN : Nat → List UInt8 → List Nat
  | n + 1, a :: b :: c :: d :: l => wordN a b c d :: wordsN n l
  | _, _ => []
theorem bts_four (a b c d : UInt8) (l : List UInt8) (i : Nat) : bts (a :: b :: c :: d :: l) 0 (4 + i) = bts l 0 i := by
  unfold bts
  rw [show 0 + (4 + i) = (0 + i) + 1 + 1 + 1 + 1 by omega]
  rfl
theorem wordsN_eq : ∀ (n : Nat) (l : List UInt8), 4 * n ≤ l.length → wordsN n l = (List.range n).map fun i => (mAt (bts l 0) i).toNat
  | 0, l, _ => by cases l <;> rfl
  | n + 1, [], h => by simp at h
  | n + 1, [_], h => by simp at h; omega
  | n + 1, [_, _], h => by simp at h; omega
  | n + 1, [_, _, _], h => by simp at h; omega
  | n + 1, a :: b :: c :: d :: l, h => by
    simp only [List.length_cons] at h
    have ih := wordsN_eq n l (by omega)
    have e0 : (mAt (bts (a :: b :: c :: d :: l) 0) 0).toNat = wordN a b c d := wordN_eq _ 0
    have e1 : ∀ i, (mAt (bts (a :: b :: c :: d :: l) 0) (i + 1)).toNat = (mAt (bts l 0) i).toNat := fun i => by
      rw [wordN_eq, wordN_eq, show 4 * (i + 1) = 4 + 4 * i by omega, Nat.add_assoc, Nat.add_assoc, Nat.add_assoc, bts_four, bts_four, bts_four, bts_four]
    rw [wordsN, ih, List.range_succ_eq_map, List.map_cons, List.map_map, e0]
    refine congrArg (List.cons _) (List.map_congr_left fun i _ => ?_)
    exact (e1 i).symm
/-- So many blocks worked in. -/
def nthN : List Nat → Nat → Nat
  | [], _ => 0
  | a :: _, 0 => a
  | _ :: l, n + 1 => nthN l n
def dropN : Nat → List Nat → List Nat
  | 0, l => l
  | _ + 1, [] => []
  | n + 1, _ :: l => dropN n l
theorem nthN_eq : ∀ (l : List Nat) (i : Nat), nthN l i = l.getD i 0
  | [], i => by rw [nthN]; rfl
  | a :: l, 0 => by rw [nthN]; rfl
  | a :: l, n + 1 => by rw [nthN, nthN_eq l n]; rfl
theorem dropN_eq : ∀ (n : Nat) (l : List Nat), dropN n l = l.drop n
  | 0, l => by rw [dropN]; rfl
  | n + 1, [] => by rw [dropN]; rfl
  | n + 1, a :: l => by rw [dropN, dropN_eq n l]; rfl
def hsG (F : N8 → List Nat → N8) : Nat → List Nat → N8 → N8
  | 0, _, s => s
  | n + 1, ws, s => hsG F n (dropN 16 ws) (F s ws)
def compW (s : N8) (ws : List Nat) : N8 := compN s (nthN ws 0) (nthN ws 1) (nthN ws 2) (nthN ws 3) (nthN ws 4) (nthN ws 5) (nthN ws 6) (nthN ws 7) (nthN ws 8) (nthN ws 9) (nthN ws 10) (nthN ws 11) (nthN ws 12) (nthN ws 13) (nthN ws 14) (nthN ws 15)
def hsN : Nat → List Nat → N8 → N8 := hsG compW
theorem nth_range (m : Nat) (g : Nat → Nat) (i : Nat) (h : i < m) : nthN ((List.range m).map g) i = g i := by
  rw [nthN_eq, List.getD, List.getElem?_map, List.getElem?_range h]
  rfl
theorem drop_range (m : Nat) (g : Nat → Nat) : dropN 16 ((List.range (16 + m)).map g) = (List.range m).map fun i => g (16 + i) := by
  rw [dropN_eq, List.range_add, List.map_append, List.drop_append_of_le_length (by simp), List.drop_of_length_le (by simp), List.nil_append, List.map_map]
  rfl
theorem mAt_blk (l : List UInt8) (k i : Nat) : mAt (bts l 0) (16 * k + i) = mAt (bts l (64 * k)) i := by
  have e : ∀ j, bts l 0 (4 * (16 * k + i) + j) = bts l (64 * k) (4 * i + j) := fun j => by
    unfold bts
    congr 1
    omega
  have e0 := e 0
  simp only [Nat.add_zero] at e0
  unfold mAt
  rw [e0, e 1, e 2, e 3]
theorem compW_eq (s : S8) (l : List UInt8) (k m : Nat) : compW (n8 s) ((List.range (16 + m)).map fun i => (mAt (bts l 0) (16 * k + i)).toNat) = n8 (comp s (bts l (64 * k))) := by
  rw [compW, nth_range _ _ 0 (by omega), nth_range _ _ 1 (by omega), nth_range _ _ 2 (by omega), nth_range _ _ 3 (by omega), nth_range _ _ 4 (by omega), nth_range _ _ 5 (by omega), nth_range _ _ 6 (by omega), nth_range _ _ 7 (by omega),
    nth_range _ _ 8 (by omega), nth_range _ _ 9 (by omega), nth_range _ _ 10 (by omega), nth_range _ _ 11 (by omega), nth_range _ _ 12 (by omega), nth_range _ _ 13 (by omega), nth_range _ _ 14 (by omega), nth_range _ _ 15 (by omega)]
  simp only [mAt_blk]
  exact (compN_eq s (bts l (64 * k))).symm
theorem hsG_eq {F : N8 → List Nat → N8} {l : List UInt8} (hF : ∀ s k m, F (n8 s) ((List.range (16 + m)).map fun i => (mAt (bts l 0) (16 * k + i)).toNat) = n8 (comp s (bts l (64 * k)))) (s : S8) :
    ∀ n k, hsG F n ((List.range (16 * n)).map fun i => (mAt (bts l 0) (16 * k + i)).toNat) (n8 (hs s l k)) = n8 (hs s l (k + n))
  | 0, k => by rw [hsG]; rfl
  | n + 1, k => by
    have ih := hsG_eq hF s n (k + 1)
    rw [show k + 1 + n = k + (n + 1) by omega] at ih
    rw [← ih, show 16 * (n + 1) = 16 + 16 * n by omega, hsG, drop_range, hF]
    have e : (fun i => (mAt (bts l 0) (16 * k + (16 + i))).toNat) = fun i => (mAt (bts l 0) (16 * (k + 1) + i)).toNat := by
      funext i
      rw [show 16 * k + (16 + i) = 16 * (k + 1) + i by omega]
    rw [e]
    rfl
theorem hsN_eq (s : S8) (l : List UInt8) (n k : Nat) : hsN n ((List.range (16 * n)).map fun i => (mAt (bts l 0) (16 * k + i)).toNat) (n8 (hs s l k)) = n8 (hs s l (k + n)) :=
  hsG_eq (fun s k m => compW_eq s l k m) s n k
def outAtN (t : N8) (i : Nat) : Nat :=
  match i with
  | 0 => t.a | 1 => t.b | 2 => t.c | 3 => t.d | 4 => t.e | 5 => t.f | 6 => t.g | _ => t.h
theorem outAtN_eq (s : S8) (i : Nat) : (outAt s i).toNat = outAtN (n8 s) i := by
  match i with
  | 0 => rfl
  | 1 => rfl
  | 2 => rfl
  | 3 => rfl
  | 4 => rfl
  | 5 => rfl
  | 6 => rfl
  | n + 7 => rfl
def outN (t : N8) : List UInt8 := (List.range 32).map fun i => UInt8.ofNat (Nat.shiftRight (outAtN t (i / 4)) (24 - 8 * (i % 4)))
theorem outN_eq (s : S8) : outL s = outN (n8 s) := by
  rw [outL, outN]
  apply List.map_congr_left
  intro i _
  rw [byteAt, BitVec.toNat_ushiftRight, outAtN_eq]
  rfl
def s0N : N8 := ⟨1779033703, 3144134277, 1013904242, 2773480762, 1359893119, 2600822924, 528734635, 1541459225⟩
theorem s0N_eq : n8 s0 = s0N := rfl
/-- The state behind so many blocks of a list that is padded. -/
def stN (n : Nat) (m : List UInt8) : N8 := hsN n (wordsN (16 * n) m) s0N
def shaN (l : List UInt8) : List UInt8 := outN (stN ((l.length + (padL l.length).length) / 64) (l ++ padL l.length))
theorem shaN_eq (l : List UInt8) : sha l = shaN l := by
  obtain ⟨m, em⟩ : ∃ m, m = l ++ padL l.length := ⟨_, rfl⟩
  obtain ⟨n, en⟩ : ∃ n, n = (l.length + (padL l.length).length) / 64 := ⟨_, rfl⟩
  have hn : 64 * n ≤ m.length := by rw [em, List.length_append, en]; omega
  rw [sha, shaN, ← em, ← en, outN_eq, stN, wordsN_eq (16 * n) m (by omega)]
  have h := hsN_eq s0 m n 0
  simp only [Nat.mul_zero, Nat.zero_add] at h
  rw [← h]
  rfl
end Go.Proofs.Ytmhbkilpllgchaa
