/- SHA-256 as a plain function on lists of bytes: the words, the rounds, the padding; and what a text in parts comes to. No program in sight. -/
import Init
namespace Go.Proofs.YtmhbkilpllgchaaGreatDoor

abbrev U32 := BitVec 32

def rotr (x : U32) (k : Nat) : U32 := (x >>> k) ||| (x <<< (32 - k))
def sg0 (x : U32) : U32 := rotr x 7 ^^^ rotr x 18 ^^^ (x >>> 3)
def sg1 (x : U32) : U32 := rotr x 17 ^^^ rotr x 19 ^^^ (x >>> 10)
def bg0 (x : U32) : U32 := rotr x 2 ^^^ rotr x 13 ^^^ rotr x 22
def bg1 (x : U32) : U32 := rotr x 6 ^^^ rotr x 11 ^^^ rotr x 25
def chf (e f g : U32) : U32 := (e &&& f) ^^^ (~~~e &&& g)
def majf (a b c : U32) : U32 := (a &&& b) ^^^ (a &&& c) ^^^ (b &&& c)

/-- The rounds' constants. -/
def kl : List Nat := [
  0x428a2f98, 0x71374491, 0xb5c0fbcf, 0xe9b5dba5, 0x3956c25b, 0x59f111f1, 0x923f82a4, 0xab1c5ed5,
  0xd807aa98, 0x12835b01, 0x243185be, 0x550c7dc3, 0x72be5d74, 0x80deb1fe, 0x9bdc06a7, 0xc19bf174,
  0xe49b69c1, 0xefbe4786, 0x0fc19dc6, 0x240ca1cc, 0x2de92c6f, 0x4a7484aa, 0x5cb0a9dc, 0x76f988da,
  0x983e5152, 0xa831c66d, 0xb00327c8, 0xbf597fc7, 0xc6e00bf3, 0xd5a79147, 0x06ca6351, 0x14292967,
  0x27b70a85, 0x2e1b2138, 0x4d2c6dfc, 0x53380d13, 0x650a7354, 0x766a0abb, 0x81c2c92e, 0x92722c85,
  0xa2bfe8a1, 0xa81a664b, 0xc24b8b70, 0xc76c51a3, 0xd192e819, 0xd6990624, 0xf40e3585, 0x106aa070,
  0x19a4c116, 0x1e376c08, 0x2748774c, 0x34b0bcb5, 0x391c0cb3, 0x4ed8aa4a, 0x5b9cca4f, 0x682e6ff3,
  0x748f82ee, 0x78a5636f, 0x84c87814, 0x8cc70208, 0x90befffa, 0xa4506ceb, 0xbef9a3f7, 0xc67178f2]
def kAt (i : Nat) : U32 := BitVec.ofNat 32 (kl.getD i 0)

/-- A byte as a word. -/
def wb (b : UInt8) : U32 := BitVec.ofNat 32 b.toNat
/-- The i-th word of a block whose bytes are b. -/
def mAt (b : Nat → UInt8) (i : Nat) : U32 := ((wb (b (4 * i)) <<< 24 ||| wb (b (4 * i + 1)) <<< 16) ||| wb (b (4 * i + 2)) <<< 8) ||| wb (b (4 * i + 3))

/-- The first k words of the schedule, the last one ahead. -/
def schedL (b : Nat → UInt8) : Nat → List U32
  | 0 => []
  | k + 1 =>
    let l := schedL b k
    (if k < 16 then mAt b k else ((l.getD 15 0 + sg0 (l.getD 14 0)) + l.getD 6 0) + sg1 (l.getD 1 0)) :: l

def sched (b : Nat → UInt8) (i : Nat) : U32 := (schedL b (i + 1)).getD 0 0

theorem schedL_getD (b : Nat → UInt8) : ∀ (k j : Nat), j < k → (schedL b k).getD j 0 = sched b (k - 1 - j)
  | 0, _, h => absurd h (by omega)
  | k + 1, 0, _ => by simp [sched]
  | k + 1, j + 1, h => by
    have ih := schedL_getD b k j (by omega)
    have e : (schedL b (k + 1)).getD (j + 1) 0 = (schedL b k).getD j 0 := by simp [schedL]
    rw [e, ih]
    congr 1
    omega

theorem sched_lo (b : Nat → UInt8) (i : Nat) (h : i < 16) : sched b i = mAt b i := by
  simp [sched, schedL, h]

theorem sched_hi (b : Nat → UInt8) (i : Nat) (h : 16 ≤ i) : sched b i = ((sched b (i - 16) + sg0 (sched b (i - 15))) + sched b (i - 7)) + sg1 (sched b (i - 2)) := by
  have e : sched b i = (((schedL b i).getD 15 0 + sg0 ((schedL b i).getD 14 0)) + (schedL b i).getD 6 0) + sg1 ((schedL b i).getD 1 0) := by
    have : ¬ i < 16 := by omega
    simp [sched, schedL, this]
  rw [e, schedL_getD b i 15 (by omega), schedL_getD b i 14 (by omega), schedL_getD b i 6 (by omega), schedL_getD b i 1 (by omega)]
  rw [show i - 1 - 15 = i - 16 from by omega, show i - 1 - 14 = i - 15 from by omega, show i - 1 - 6 = i - 7 from by omega, show i - 1 - 1 = i - 2 from by omega]

theorem mAt_congr {b c : Nat → UInt8} {i : Nat} (hi : i < 16) (h : ∀ j, j < 64 → b j = c j) : mAt b i = mAt c i := by
  unfold mAt
  rw [h _ (by omega), h _ (by omega), h _ (by omega), h _ (by omega)]

theorem schedL_congr {b c : Nat → UInt8} (h : ∀ j, j < 64 → b j = c j) : ∀ k, schedL b k = schedL c k
  | 0 => rfl
  | k + 1 => by
    have ih := schedL_congr h k
    unfold schedL
    rw [ih]
    by_cases hk : k < 16
    · simp only [hk, if_true, mAt_congr hk h]
    · simp only [hk, if_false]

/-- The eight words that are worked on. -/
structure S8 where
  a : U32
  b : U32
  c : U32
  d : U32
  e : U32
  f : U32
  g : U32
  h : U32
  deriving DecidableEq

def s0 : S8 := ⟨0x6a09e667#32, 0xbb67ae85#32, 0x3c6ef372#32, 0xa54ff53a#32, 0x510e527f#32, 0x9b05688c#32, 0x1f83d9ab#32, 0x5be0cd19#32⟩

def t1 (s : S8) (k w : U32) : U32 := (((s.h + bg1 s.e) + chf s.e s.f s.g) + k) + w
def t2 (s : S8) : U32 := bg0 s.a + majf s.a s.b s.c
def stepS (s : S8) (k w : U32) : S8 := ⟨t1 s k w + t2 s, s.a, s.b, s.c, s.d + t1 s k w, s.e, s.f, s.g⟩

def roundsS (b : Nat → UInt8) (s : S8) : Nat → S8
  | 0 => s
  | k + 1 => stepS (roundsS b s k) (kAt k) (sched b k)

def addS (s t : S8) : S8 := ⟨s.a + t.a, s.b + t.b, s.c + t.c, s.d + t.d, s.e + t.e, s.f + t.f, s.g + t.g, s.h + t.h⟩

/-- One block worked in. -/
def comp (s : S8) (b : Nat → UInt8) : S8 := addS s (roundsS b s 64)

theorem roundsS_congr {b c : Nat → UInt8} (h : ∀ j, j < 64 → b j = c j) (s : S8) : ∀ k, roundsS b s k = roundsS c s k
  | 0 => rfl
  | k + 1 => by
    unfold roundsS sched
    rw [roundsS_congr h s k, schedL_congr h]

theorem comp_congr {b c : Nat → UInt8} (h : ∀ j, j < 64 → b j = c j) (s : S8) : comp s b = comp s c := by
  unfold comp
  rw [roundsS_congr h]

/-- The bytes of a list, from one on. -/
def bts (l : List UInt8) (at_ : Nat) : Nat → UInt8 := fun i => l.getD (at_ + i) 0

/-- So many blocks of a list worked in. -/
def hs (s : S8) (l : List UInt8) : Nat → S8
  | 0 => s
  | k + 1 => comp (hs s l k) (bts l (64 * k))

theorem hs_congr {l m : List UInt8} (s : S8) : ∀ (k : Nat), (∀ i, i < 64 * k → l.getD i 0 = m.getD i 0) → hs s l k = hs s m k
  | 0, _ => rfl
  | k + 1, h => by
    unfold hs
    rw [hs_congr s k (fun i hi => h i (by omega))]
    exact comp_congr (fun j hj => h _ (by omega)) _

theorem hs_append (s : S8) (l m : List UInt8) (k : Nat) (h : 64 * k ≤ l.length) : hs s (l ++ m) k = hs s l k :=
  hs_congr s k (fun i hi => by simp [List.getD, List.getElem?_append_left (show i < l.length by omega)])

theorem hs_add (s : S8) (l : List UInt8) (n : Nat) : ∀ k, hs s l (n + k) = hs (hs s l n) (l.drop (64 * n)) k
  | 0 => rfl
  | k + 1 => by
    rw [← Nat.add_assoc]
    show comp (hs s l (n + k)) _ = comp (hs (hs s l n) (l.drop (64 * n)) k) _
    rw [hs_add s l n k]
    refine comp_congr (fun j hj => ?_) _
    simp only [bts, List.getD, List.getElem?_drop]
    rw [show 64 * (n + k) + j = 64 * n + (64 * k + j) from by omega]

/-- A number's bytes, the highest first. -/
def beL (n : Nat) (x : Nat) : List UInt8 := (List.range n).map fun i => UInt8.ofNat (x / 256 ^ (n - 1 - i))

def zerosFor (n : Nat) : Nat := (119 - n % 64) % 64
def padL (n : Nat) : List UInt8 := 0x80 :: (List.replicate (zerosFor n) 0 ++ beL 8 (n * 8))

theorem beL_length (n x : Nat) : (beL n x).length = n := by simp [beL]
theorem padL_length (n : Nat) : (padL n).length = 1 + zerosFor n + 8 := by simp [padL, beL_length]; omega

/-- How the padding fills a block. -/
theorem pad_fills (n : Nat) : (n + (padL n).length) % 64 = 0 := by
  rw [padL_length]; unfold zerosFor; omega

def outAt (s : S8) (i : Nat) : U32 :=
  match i with
  | 0 => s.a | 1 => s.b | 2 => s.c | 3 => s.d | 4 => s.e | 5 => s.f | 6 => s.g | _ => s.h

def byteAt (s : S8) (i : Nat) : UInt8 := UInt8.ofNat ((outAt s (i / 4) >>> (24 - 8 * (i % 4))).toNat)
def outL (s : S8) : List UInt8 := (List.range 32).map (byteAt s)

theorem outL_length (s : S8) : (outL s).length = 32 := by simp [outL]

/-- THE DIGEST. -/
def sha (l : List UInt8) : List UInt8 := outL (hs s0 (l ++ padL l.length) ((l.length + (padL l.length).length) / 64))

theorem sha_length (l : List UInt8) : (sha l).length = 32 := outL_length _

/-- What is left of a text of which so many blocks are worked in. -/
def restL (l : List UInt8) : List UInt8 := l.drop (64 * (l.length / 64))
/-- What is worked in of a text. -/
def headS (l : List UInt8) : S8 := hs s0 l (l.length / 64)

theorem restL_length (l : List UInt8) : (restL l).length = l.length % 64 := by simp [restL]; omega

/-- MORE BEHIND IT. -/
theorem headS_append (l m : List UInt8) : headS (l ++ m) = hs (headS l) (restL l ++ m) ((restL l ++ m).length / 64) := by
  unfold headS
  have e : (l ++ m).length / 64 = l.length / 64 + (restL l ++ m).length / 64 := by
    simp [restL_length]; omega
  rw [e, hs_add, hs_append _ _ _ _ (by omega)]
  congr 1
  rw [List.drop_append_of_le_length (by omega)]
  rfl

theorem restL_append (l m : List UInt8) : restL (l ++ m) = (restL l ++ m).drop (64 * ((restL l ++ m).length / 64)) := by
  have e : (l ++ m).length / 64 = l.length / 64 + (restL l ++ m).length / 64 := by
    simp [restL_length]; omega
  show (l ++ m).drop (64 * ((l ++ m).length / 64)) = _
  rw [e, Nat.mul_add, ← List.drop_drop, List.drop_append_of_le_length (by omega)]
  rfl

/-- THE DIGEST, OUT OF WHAT IS WORKED IN AND WHAT IS LEFT. -/
theorem sha_of (l : List UInt8) : sha l = outL (hs (headS l) (restL l ++ padL l.length) ((restL l ++ padL l.length).length / 64)) := by
  unfold sha
  rw [← headS_append]
  unfold headS
  simp

theorem headS_nil : headS [] = s0 := rfl
theorem restL_nil : restL [] = [] := rfl

theorem rotl_rotr (x : U32) (k : Nat) : (x <<< (32 - k)) ||| (x >>> k) = rotr x k := by
  unfold rotr
  exact BitVec.or_comm _ _

end Go.Proofs.YtmhbkilpllgchaaGreatDoor
