/- object.Store's Add; the reference's Clash. -/
import Derived.Test.YtmhbkilpllgchaaObjC
namespace Go.Proofs.Ytmhbkilpllgchaa
open Go.RowKit BigFrame
set_option linter.unusedVariables false
set_option linter.unusedSimpArgs false

theorem put_any {w : World} {Bs Bm most : Nat} {kv : KV} (h : StoreAt w Bs Bm most kv) (s : ByteArray) (hs : s.size ≤ 140737488351232) :
    Calls Try.prog 56 #[.pointer (some ⟨Bs, 0, none⟩), .string s] w fun e w' => e = .returned (.tuple #[.agg (bcells (putH most kv s)), .int .i64 (putE most kv s)]) ∧ StoreAt w' Bs Bm most (putK most kv s) ∧ w.grownBy w' (some Bm) := by
  by_cases hb : 4096 < s.size
  · have := put_big h s hs hb
    unfold putH putE putK
    rw [if_pos hb, if_pos hb, if_pos hb]
    exact this
  · exact put_small h s hs (by omega)
theorem putH_length (most : Nat) (kv : KV) (s : ByteArray) : (putH most kv s).length = 32 := by
  have h1 := objH_length s
  unfold putH zeros32
  split
  · simp
  · split
    · exact h1
    · split
      · simp
      · exact h1

/-- A whole array out of its block, under a guard that holds. -/
theorem wpList_ld_g {P : Program} {ops : Array Oper} {rest : List Oper} {a : Act} {w : World} {Q : Exit → Act → World → Prop} {ty : TypeId} {x : Operand} {d : Nat} {ot : TypeId} {pos : String} {after : Array Edge} {gd : Option (Nat × Bool)} (g : Nat) (cs : Array Value)
    (hgd : Region.wanted ⟨some d, .load ty x, ot, pos, after, gd⟩ (yielded ops a.tmps) = true)
    (hx : a.eval x = .pointer (some ⟨g, 0, none⟩)) (t : TypeId) (hg : Blk w g t cs) {ds : TypeDesc} (hu : P.underlying ty = some ds) (hd : (match ds with | .struct _ | .array _ _ => true | _ => false) = true) (hi : (P.info? ty).map (·.size) = some cs.size)
    (h : wpList P ops Q rest ⟨a.tmps.setIfInBounds d (.agg cs), a.defers⟩ w) : wpList P ops Q (⟨some d, .load ty x, ot, pos, after, gd⟩ :: rest) a w :=
  wpList_step fun K hK => by
    rw [if_pos hgd]
    exact wp_load_row ty x rfl g hx t cs (0, 0) ds hg hu hd hi (hK _ _ h)

def addE (most : Nat) (kv : KV) (L : List UInt8) (s : ByteArray) : Int := if 4096 < s.size ∨ objH s ≠ L then 1100 else putE most kv s
def addK (most : Nat) (kv : KV) (L : List UInt8) (s : ByteArray) : KV := if 4096 < s.size ∨ objH s ≠ L then kv else putK most kv s

set_option maxRecDepth 100000 in
set_option maxHeartbeats 2000000 in
theorem oadd_any {w : World} {Bs Bm most : Nat} {kv : KV} (h : StoreAt w Bs Bm most kv) (L : List UInt8) (hLl : L.length = 32) (s : ByteArray) (hs : s.size ≤ 140737488351232) :
    Calls Try.prog 59 #[.pointer (some ⟨Bs, 0, none⟩), .agg (bcells L), .string s] w fun e w' => e = .returned (.int .i64 (addE most kv L s)) ∧ StoreAt w' Bs Bm most (addK most kv L s) ∧ w.grownBy w' (some Bm) := by
  obtain ⟨H, eH⟩ : ∃ H, H = objH s := ⟨_, rfl⟩
  have hHl : H.length = 32 := by rw [eH]; exact objH_length s
  have hA1 : Blk (w.alloc (.cells (bcells L) 29)) w.heap.size 29 (bcells L) := Blk.new _ _ _
  have hb1 : Below w.heap.size w (w.alloc (.cells (bcells L) 29)) := (Below.refl _ _).alloc (Nat.le_refl _) _
  have s1 : (w.alloc (.cells (bcells L) 29)).heap.size = w.heap.size + 1 := by simp
  have hc := hashof_any s (w.alloc (.cells (bcells L) 29)) hs
  rw [← eH] at hc
  obtain ⟨ok, eok⟩ : ∃ ok, ok = objOk s := ⟨_, rfl⟩
  rw [← eok] at hc
  have hok : s.size ≤ 4096 → ok = true := fun h => by rw [eok, objOk_iff]; exact decide_eq_true (by omega)
  have hput := fun (w' : World) (h' : StoreAt w' Bs Bm most kv) => put_any h' s hs
  have hph := putH_length most kv s
  have hne : ∀ w', (binOp .neq 29 (.agg (bcells H)) (.agg (bcells L))).run Try.prog w' = .ok (.bool (!decide (H = L))) w' := fun w' => neq_bytes w' H L hHl hLl
  unfold addE addK
  rw [← eH]
  obtain ⟨PH, ePH⟩ : ∃ PH, PH = putH most kv s := ⟨_, rfl⟩
  obtain ⟨PE, ePE⟩ : ∃ PE, PE = putE most kv s := ⟨_, rfl⟩
  obtain ⟨PK, ePK⟩ : ∃ PK, PK = putK most kv s := ⟨_, rfl⟩
  rw [← ePH, ← ePE, ← ePK] at hput
  rw [← ePH] at hph
  rw [← ePE, ← ePK]
  have hway : (4096 < s.size ∧ (4096 : Int) < (s.size : Int) ∧ ok = false) ∨ (4096 < s.size ∧ (4096 : Int) < (s.size : Int) ∧ ok = true) ∨ (¬ 4096 < s.size ∧ (s.size : Int) ≤ 4096 ∧ ok = true ∧ ¬ H = L) ∨ (¬ 4096 < s.size ∧ (s.size : Int) ≤ 4096 ∧ ok = true ∧ H = L) := by
    by_cases g : 4096 < s.size
    · cases ok
      · exact .inl ⟨g, by omega, rfl⟩
      · exact .inr (.inl ⟨g, by omega, rfl⟩)
    · by_cases g2 : H = L
      · exact .inr (.inr (.inr ⟨g, by omega, hok (by omega), g2⟩))
      · exact .inr (.inr (.inl ⟨g, by omega, hok (by omega), g2⟩))
  have C := Lib.hid (And.intro hc (And.intro h (And.intro hput (And.intro hHl (And.intro hA1 (And.intro hb1 (And.intro s1 (And.intro hph hLl))))))))
  clear hc h hput eH hHl hA1 hb1 s1 hph hLl hok ePH ePE ePK eok hs
  rcases hway with ⟨k1, k2, rfl⟩ | ⟨k1, k2, rfl⟩ | ⟨k1, k2, rfl, k3⟩ | ⟨k1, k2, rfl, k3⟩
  case' inl => rw [if_pos (.inl k1), if_pos (.inl k1)]
  case' inr.inl => rw [if_pos (.inl k1), if_pos (.inl k1)]
  case' inr.inr.inl => rw [if_pos (.inr k3), if_pos (.inr k3)]; rw [decide_eq_false k3, Bool.not_false] at hne; clear k3
  case' inr.inr.inr => rw [if_neg (fun h => h.elim k1 fun g => g k3), if_neg (fun h => h.elim k1 fun g => g k3)]; rw [decide_eq_true k3, Bool.not_true] at hne; clear k3
  case' inr.inr.inl => have hd : decide ((4096 : Int) < (s.size : Int)) = false := decide_eq_false (by omega)
  case' inr.inr.inr => have hd : decide ((4096 : Int) < (s.size : Int)) = false := decide_eq_false (by omega)
  all_goals
    clear k1
    go_enter Try.func59, Try.ntmps59
    go_wp2_with fail
    refine C.out.1.mono ?_
    rintro e w2 ⟨rfl, hb2⟩
    have hLl := C.out.2.2.2.2.2.2.2.2
    have hHl := C.out.2.2.2.1
    have s1 := C.out.2.2.2.2.2.2.1
    rw [s1] at hb2
    have hs2 := hb2.size
    rw [s1] at hs2
    have hA2 := C.out.2.2.2.2.1.below hb2 (by omega)
    have hbw2 := C.out.2.2.2.2.2.1.trans (hb2.mono (by omega))
    clear hb2 s1
    have hG0 : Blk (w2.alloc (.cells z32 29)) w2.heap.size 29 z32 := Blk.new _ _ _
    have hG3 : Blk ((w2.alloc (.cells z32 29)).setRow w2.heap.size (bcells H)) w2.heap.size 29 (bcells H) := hG0.row _
    have hA3 : Blk ((w2.alloc (.cells z32 29)).setRow w2.heap.size (bcells H)) w.heap.size 29 (bcells L) := (hA2.alloc _).rowFar (by omega) _
    have hb3 : Below w.heap.size w ((w2.alloc (.cells z32 29)).setRow w2.heap.size (bcells H)) := below_setRow (hbw2.alloc (by omega) _) (by omega) _
    clear hs2
    go_wp2_with (first
      | (refine wpList_alN (d := 7) z32 zero29 w2.heap.size rfl (wpList_st_row w2.heap.size (bcells H) rfl rfl 29 z32 hG0 (by rw [size29, bcells_size, hHl]) (by rw [bcells_size, hHl]; rfl) (bcells_one _) ?_); simp only [List.setIfInBounds_toArray, List.set_cons_succ, List.set_cons_zero])
      | (refine wpList_ld_g (d := 26) w2.heap.size _ rfl rfl 29 hG3 Try.underlying29 rfl (by rw [size29, bcells_size, hHl]) ?_; simp only [List.setIfInBounds_toArray, List.set_cons_succ, List.set_cons_zero])
      | (refine wpList_ld_g (d := 27) w.heap.size _ rfl rfl 29 hA3 Try.underlying29 rfl (by rw [size29, bcells_size, hLl]) ?_; simp only [List.setIfInBounds_toArray, List.set_cons_succ, List.set_cons_zero]))
  all_goals first
    | (go_ret; exact ⟨rfl, C.out.2.1.below hb3, grown_below hb3 (Nat.le_refl _) _⟩)
    | (obtain ⟨w3, e3⟩ : ∃ w3, w3 = (w2.alloc (.cells z32 29)).setRow w2.heap.size (bcells H) := ⟨_, rfl⟩
       rw [← e3] at hb3 ⊢
       clear e3 hG0 hG3 hA3 hA2 hbw2
       have hst3 := C.out.2.1.below hb3
       refine (C.out.2.2.1 w3 hst3).mono ?_
       rintro e w4 ⟨rfl, hst4, hg4⟩
       have hPl := C.out.2.2.2.2.2.2.2.1
       have hg4w : w.grownBy w4 (some Bm) := grown_trans (grown_below hb3 (Nat.le_refl _) _) hg4
       have hs4 := hg4w.size
       have hG0 : Blk (w4.alloc (.cells z32 29)) w4.heap.size 29 z32 := Blk.new _ _ _
       have hb5 : Below w4.heap.size w4 ((w4.alloc (.cells z32 29)).setRow w4.heap.size (bcells PH)) := below_setRow ((Below.refl _ _).alloc (Nat.le_refl _) _) (Nat.le_refl _) _
       go_wp2_with (refine wpList_alN (d := 9) z32 zero29 w4.heap.size rfl (wpList_st_row w4.heap.size (bcells PH) rfl rfl 29 z32 hG0 (by rw [size29, bcells_size, hPl]) (by rw [bcells_size, hPl]; rfl) (bcells_one _) ?_); simp only [List.setIfInBounds_toArray, List.set_cons_succ, List.set_cons_zero])
       go_ret
       exact ⟨rfl, hst4.below hb5, grown_then hg4w (hb5.mono hs4)⟩)
end Go.Proofs.Ytmhbkilpllgchaa
