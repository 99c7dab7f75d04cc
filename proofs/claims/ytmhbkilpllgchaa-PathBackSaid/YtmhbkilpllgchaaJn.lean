/- Names with slashes ahead: joined and split again. -/
import Derived.Test.YtmhbkilpllgchaaPth
namespace Go.Proofs.Ytmhbkilpllgchaa

def joinL (ns : List (List UInt8)) : List UInt8 := ns.flatMap fun n => 47 :: n
theorem joinL_cons (n : List UInt8) (ns : List (List UInt8)) : joinL (n :: ns) = 47 :: (n ++ joinL ns) := by simp [joinL]
theorem joinL_snoc (n : List UInt8) (ns : List (List UInt8)) : joinL (ns ++ [n]) = joinL ns ++ 47 :: n := by simp [joinL]
theorem join_split : ∀ l, joinL (splitL l) = 47 :: l
  | [] => rfl
  | b :: l => by
    have ih := join_split l
    unfold splitL
    split
    · rename_i h
      rw [joinL_cons, ih, List.nil_append, h]
    · split
      · rename_i h; exact absurd h (splitL_ne l)
      · rename_i x xs h
        rw [h, joinL_cons] at ih
        rw [joinL_cons]
        injection ih with _ ih
        rw [← ih]
        rfl
theorem split_join : ∀ (ns : List (List UInt8)), ns ≠ [] → (∀ n ∈ ns, ∀ b ∈ n, b ≠ 47) → splitL ((joinL ns).drop 1) = ns
  | [], h, _ => absurd rfl h
  | [n], _, h => by
    rw [joinL_cons]
    show splitL (n ++ joinL []) = [n]
    rw [show joinL [] = [] from rfl, List.append_nil]
    exact splitL_one n (h n (by simp))
  | n :: m :: ns, _, h => by
    have ih := split_join (m :: ns) (by simp) (fun x hx => h x (List.mem_cons_of_mem _ hx))
    rw [joinL_cons]
    show splitL (n ++ joinL (m :: ns)) = _
    rw [joinL_cons] at ih ⊢
    rw [splitL_cut n _ (h n (by simp))]
    exact congrArg (n :: ·) ih
end Go.Proofs.Ytmhbkilpllgchaa
