/- Laws of the tries, of whole numbers, of rows. -/
import Derived.Test.YtfmmgggdgpfaaaaGreatDoorDcomp
namespace Go.Proofs.YtfmmgggdgpfaaaaGreatDoor.DS
set_option linter.unusedVariables false
set_option linter.unusedSimpArgs false

namespace Tr
variable {α : Type}
theorem get_nil (k : Nat) : (Tr.nil : Tr α).get k = none := rfl
theorem get_node_zero (l r : Tr α) (v : Option α) : (Tr.node l v r).get 0 = v := rfl
theorem get_node_succ (l r : Tr α) (v : Option α) (j : Nat) : (Tr.node l v r).get (j + 1) = if j % 2 = 0 then l.get (j / 2) else r.get (j / 2) := by
  show @Bool.rec (fun _ => Option α) (r.get (j / 2)) (l.get (j / 2)) (Nat.beq (j % 2) 0) = _
  by_cases h : j % 2 = 0
  · rw [if_pos h, h]; rfl
  · rw [if_neg h, show Nat.beq (j % 2) 0 = false from by cases hb : Nat.beq (j % 2) 0 with
      | false => rfl
      | true => exact absurd (Nat.eq_of_beq_eq_true hb) h]
theorem path_zero (x : Option α) (n : Nat) : path x (n + 1) 0 = Tr.node Tr.nil x Tr.nil := rfl
theorem path_succ (x : Option α) (n j : Nat) : path x (n + 1) (j + 1) = if j % 2 = 0 then Tr.node (path x n (j / 2)) none Tr.nil else Tr.node Tr.nil none (path x n (j / 2)) := by
  show @Bool.rec (fun _ => Tr α) (Tr.node Tr.nil none (path x n (j / 2))) (Tr.node (path x n (j / 2)) none Tr.nil) (Nat.beq (j % 2) 0) = _
  by_cases h : j % 2 = 0
  · rw [if_pos h, h]; rfl
  · rw [if_neg h, show Nat.beq (j % 2) 0 = false from by cases hb : Nat.beq (j % 2) 0 with
      | false => rfl
      | true => exact absurd (Nat.eq_of_beq_eq_true hb) h]
theorem set_node_zero (l r : Tr α) (v x : Option α) : set (Tr.node l v r) x 0 = Tr.node l x r := rfl
theorem set_node_succ (l r : Tr α) (v x : Option α) (j : Nat) : set (Tr.node l v r) x (j + 1) = if j % 2 = 0 then Tr.node (set l x (j / 2)) v r else Tr.node l v (set r x (j / 2)) := by
  show @Bool.rec (fun _ => Tr α) (Tr.node l v (set r x (j / 2))) (Tr.node (set l x (j / 2)) v r) (Nat.beq (j % 2) 0) = _
  by_cases h : j % 2 = 0
  · rw [if_pos h, h]; rfl
  · rw [if_neg h, show Nat.beq (j % 2) 0 = false from by cases hb : Nat.beq (j % 2) 0 with
      | false => rfl
      | true => exact absurd (Nat.eq_of_beq_eq_true hb) h]
theorem set_nil (x : Option α) (k : Nat) : set (Tr.nil : Tr α) x k = path x (k + 1) k := rfl

theorem get_path (x : Option α) : ∀ (n k k' : Nat), k < n → (path x n k).get k' = if k' = k then x else none := by
  intro n
  induction n with
  | zero => intro k k' h; omega
  | succ n ih =>
    intro k k' h
    cases k with
    | zero =>
      rw [path_zero]
      cases k' with
      | zero => rfl
      | succ j => rw [get_node_succ, if_neg (by omega : ¬ j + 1 = 0)]; split <;> rfl
    | succ i =>
      rw [path_succ]
      have hi := ih (i / 2)
      cases k' with
      | zero => rw [if_neg (by omega : ¬ 0 = i + 1)]; split <;> rfl
      | succ j =>
        by_cases h1 : i % 2 = 0
        · rw [if_pos h1, get_node_succ]
          by_cases h2 : j % 2 = 0
          · rw [if_pos h2, hi (j / 2) (by omega)]
            by_cases h3 : j = i
            · subst h3; simp
            · rw [if_neg (by omega), if_neg (by omega)]
          · rw [if_neg h2, if_neg (by omega)]; rfl
        · rw [if_neg h1, get_node_succ]
          by_cases h2 : j % 2 = 0
          · rw [if_pos h2, if_neg (by omega)]; rfl
          · rw [if_neg h2, hi (j / 2) (by omega)]
            by_cases h3 : j = i
            · subst h3; simp
            · rw [if_neg (by omega), if_neg (by omega)]

theorem get_set (x : Option α) : ∀ (t : Tr α) (k k' : Nat), (set t x k).get k' = if k' = k then x else t.get k' := by
  intro t
  induction t with
  | nil => intro k k'; rw [set_nil, get_path _ _ _ _ (Nat.lt_succ_self k)]; rfl
  | node l v r ihl ihr =>
    intro k k'
    cases k with
    | zero =>
      rw [set_node_zero]
      cases k' with
      | zero => rfl
      | succ j => rw [get_node_succ, if_neg (by omega : ¬ j + 1 = 0), get_node_succ]
    | succ i =>
      rw [set_node_succ]
      cases k' with
      | zero => rw [if_neg (by omega : ¬ 0 = i + 1)]; split <;> rfl
      | succ j =>
        by_cases h1 : i % 2 = 0
        · rw [if_pos h1, get_node_succ, get_node_succ]
          by_cases h2 : j % 2 = 0
          · rw [if_pos h2, if_pos h2, ihl]
            by_cases h3 : j = i
            · subst h3; simp
            · rw [if_neg (by omega), if_neg (by omega)]
          · rw [if_neg h2, if_neg h2, if_neg (by omega)]
        · rw [if_neg h1, get_node_succ, get_node_succ]
          by_cases h2 : j % 2 = 0
          · rw [if_pos h2, if_pos h2, if_neg (by omega)]
          · rw [if_neg h2, if_neg h2, ihr]
            by_cases h3 : j = i
            · subst h3; simp
            · rw [if_neg (by omega), if_neg (by omega)]

theorem get_put (t : Tr α) (k k' : Nat) (x : α) : (t.put k x).get k' = if k' = k then some x else t.get k' := get_set _ _ _ _
theorem get_del (t : Tr α) (k k' : Nat) : (t.del k).get k' = if k' = k then none else t.get k' := get_set _ _ _ _
end Tr

theorem nth_eq {α : Type} : ∀ (l : List α) (n : Nat), nth l n = l[n]?
  | [], n => by show none = _; simp
  | a :: l, 0 => by show some a = _; simp
  | a :: l, n + 1 => by
    show nth l n = _
    rw [nth_eq l n]; simp

theorem ilt_eq (a b : Int) : ilt a b = decide (a < b) := by
  cases a <;> cases b <;> simp only [ilt] <;> symm
  · rename_i m n
    by_cases h : m < n
    · rw [decide_eq_true (by show (m : Int) < (n : Int); omega)]; symm; exact Eq.mpr Nat.blt_eq h
    · rw [decide_eq_false (by show ¬ (m : Int) < (n : Int); omega)]; symm
      cases hb : Nat.blt m n with
      | false => rfl
      | true => exact absurd (Eq.mp Nat.blt_eq hb) h
  · rename_i m n; exact decide_eq_false (by show ¬ (m : Int) < Int.negSucc n; omega)
  · rename_i m n; exact decide_eq_true (by show Int.negSucc m < (n : Int); omega)
  · rename_i m n
    by_cases h : n < m
    · rw [decide_eq_true (by omega)]; symm; exact Eq.mpr Nat.blt_eq h
    · rw [decide_eq_false (by omega)]; symm
      cases hb : Nat.blt n m with
      | false => rfl
      | true => exact absurd (Eq.mp Nat.blt_eq hb) h

theorem nbeq_eq (m n : Nat) : Nat.beq m n = decide (m = n) := by
  by_cases h : m = n
  · subst h; rw [decide_eq_true rfl]; exact Nat.beq_refl m
  · rw [decide_eq_false h]
    cases hb : Nat.beq m n with
    | false => rfl
    | true => exact absurd (Nat.eq_of_beq_eq_true hb) h

theorem ieq_eq (a b : Int) : ieq a b = (a == b) := by
  have e : ∀ x y : Int, (x == y) = decide (x = y) := fun x y => by
    by_cases h : x = y
    · subst h; simp
    · simp [h]
  rw [e]
  cases a <;> cases b <;> simp only [ieq]
  · rw [nbeq_eq]; rename_i m n
    by_cases h : m = n
    · subst h; simp
    · rw [decide_eq_false h, decide_eq_false]; intro hc; injection hc; contradiction
  · rename_i m n; symm; exact decide_eq_false (by intro h; cases h)
  · rename_i m n; symm; exact decide_eq_false (by intro h; cases h)
  · rw [nbeq_eq]; rename_i m n
    by_cases h : m = n
    · subst h; simp
    · rw [decide_eq_false h, decide_eq_false]; intro hc; injection hc; contradiction

theorem wrap_self (k : IntKind) (n : Int) (h : (ksigned k = true ∧ -((kmax k : Int) + 1) ≤ n ∧ n ≤ kmax k) ∨ (ksigned k = false ∧ 0 ≤ n ∧ n ≤ kmax k)) : k.wrap n = n := by
  cases k <;> simp [ksigned, kmax, IntKind.wrap, IntKind.bits, IntKind.signed] at * <;> (try split) <;> omega

theorem dwrap_eq (k : IntKind) (n : Int) : dwrap k n = k.wrap n := by
  cases n with
  | ofNat m =>
    show cond (Nat.ble m (kmax k)) (Int.ofNat m) (k.wrap (Int.ofNat m)) = _
    cases hb : Nat.ble m (kmax k) with
    | false => rfl
    | true =>
      have hm := Nat.le_of_ble_eq_true hb
      refine (wrap_self k _ ?_).symm
      cases hs : ksigned k with
      | true => exact .inl ⟨rfl, by show -((kmax k : Int) + 1) ≤ (m : Int); omega, by show (m : Int) ≤ _; omega⟩
      | false => exact .inr ⟨rfl, by show 0 ≤ (m : Int); omega, by show (m : Int) ≤ _; omega⟩
  | negSucc m =>
    show cond (ksigned k && Nat.ble m (kmax k)) (Int.negSucc m) (k.wrap (Int.negSucc m)) = _
    cases hs : ksigned k with
    | false => rfl
    | true =>
      cases hb : Nat.ble m (kmax k) with
      | false => rfl
      | true =>
        have hm := Nat.le_of_ble_eq_true hb
        refine (wrap_self k _ ?_).symm
        exact .inl ⟨hs, by show -((kmax k : Int) + 1) ≤ Int.negSucc m; omega, by show Int.negSucc m ≤ _; omega⟩

end Go.Proofs.YtfmmgggdgpfaaaaGreatDoor.DS
