/-
  A symbolic evaluator for the model's code, in plain Lean: a choice and a tree, made so that the kernel reckons them fast.
-/
import GoSem.Core.Machine
noncomputable section
namespace Go.Proofs.YtmacjmofhaghbaaDoor.Sy
open Go

def ift {α : Type} (b : Bool) (x y : α) : α := Bool.rec y x b
@[simp] theorem ift_true {α : Type} (x y : α) : ift true x y = x := rfl
@[simp] theorem ift_false {α : Type} (x y : α) : ift false x y = y := rfl

def bq (a b : Bool) : Bool := ift a b (ift b false true)
theorem bq_iff (a b : Bool) : bq a b = true ↔ a = b := by cases a <;> cases b <;> decide
theorem bq_false (a b : Bool) : bq a b = false ↔ a = !b := by cases a <;> cases b <;> decide

/-! ## tries: a full binary tree with a default at every place -/
inductive T (α : Type) where
  | nil
  | node (v : α) (l r : T α)

/-- The way to a place. -/
def pathF : Nat → Nat → List Bool
  | 0, _ => []
  | k + 1, n => ift (Nat.beq n 0) ([]) <| ift (Nat.beq (n % 2) 1) (true :: pathF k (n / 2)) <| false :: pathF k (n / 2 - 1)
def path (n : Nat) : List Bool := pathF (n + 1) n

/-- A tree at the end of a way. -/
def T.getP {α : Type} (d : α) (t : T α) (p : List Bool) : α :=
  T.rec (motive := fun _ => List Bool → α) (fun _ => d)
    (fun v _ _ ihl ihr p => List.rec (motive := fun _ => α) v (fun b q _ => Bool.rec (motive := fun _ => α) (ihr q) (ihl q) b) p) t p

def T.setP {α : Type} (x : α) (t : T α) (p : List Bool) : T α :=
  T.rec (motive := fun _ => List Bool → T α) (fun _ => .nil)
    (fun v l r ihl ihr p => List.rec (motive := fun _ => T α) (.node x l r) (fun b q _ => Bool.rec (motive := fun _ => T α)
      (T.rec (motive := fun _ => T α) (.node v l .nil) (fun a b c _ _ => .node v l (.node a b c)) (ihr q))
      (T.rec (motive := fun _ => T α) (.node v .nil r) (fun a b c _ _ => .node v (.node a b c) r) (ihl q)) b) p) t p

def T.get {α : Type} (d : α) (t : T α) (n : Nat) : α := T.getP d t (path n)
def T.set {α : Type} (t : T α) (n : Nat) (x : α) : T α := T.setP x t (path n)

def T.mk {α : Type} (d : α) : Nat → T α
  | 0 => .nil
  | k + 1 => .node d (T.mk d k) (T.mk d k)

/-- A list laid into a tree, from place i on. -/
def T.setAll {α : Type} : List α → Nat → T α → T α
  | [], _, t => t
  | x :: l, i, t => T.setAll l (i + 1) (t.set i x)

theorem pathF_eq : ∀ (k k' n : Nat), n < k → n < k' → pathF k n = pathF k' n
  | 0, _, _, h, _ => by omega
  | _ + 1, 0, _, _, h => by omega
  | k + 1, k' + 1, n, _, _ => by
    unfold pathF
    cases h0 : Nat.beq n 0
    · have : n ≠ 0 := fun e => by rw [e] at h0; cases h0
      simp only [ift_false]
      rw [pathF_eq k k' (n / 2) (by omega) (by omega), pathF_eq k k' (n / 2 - 1) (by omega) (by omega)]
    · rfl

theorem path_eq (n : Nat) : path n = if n = 0 then [] else if n % 2 = 1 then true :: path (n / 2) else false :: path (n / 2 - 1) := by
  have e0 : Nat.beq n 0 = decide (n = 0) := by cases n <;> rfl
  have e1 : Nat.beq (n % 2) 1 = decide (n % 2 = 1) := by
    rw [Bool.eq_iff_iff]; simp [Nat.beq_eq]
  have hu : path n = ift (Nat.beq n 0) [] (ift (Nat.beq (n % 2) 1) (true :: pathF n (n / 2)) (false :: pathF n (n / 2 - 1))) := rfl
  rw [hu, e0, e1]
  by_cases h0 : n = 0
  · simp [h0]
  · by_cases h1 : n % 2 = 1
    · simp only [h0, h1, decide_false, decide_true, ift_false, ift_true, if_false, if_true]
      rw [pathF_eq n (n / 2 + 1) (n / 2) (by omega) (by omega), path]
    · simp only [h0, h1, decide_false, ift_false, if_false]
      rw [pathF_eq n (n / 2 - 1 + 1) (n / 2 - 1) (by omega) (by omega), path]

theorem T.set_node {α : Type} (v : α) (l r : T α) (n : Nat) (x : α) :
    T.set (.node v l r) n x = if n = 0 then .node x l r else if n % 2 = 1 then .node v (T.set l (n / 2) x) r else .node v l (T.set r (n / 2 - 1) x) := by
  unfold T.set
  rw [path_eq n]
  by_cases h0 : n = 0
  · simp only [h0, if_true]; rfl
  · by_cases h1 : n % 2 = 1
    · simp only [h0, h1, if_false, if_true]
      show T.rec (motive := fun _ => T α) (.node v .nil r) (fun a b c _ _ => .node v (.node a b c) r) (T.setP x l (path (n / 2))) = _
      cases T.setP x l (path (n / 2)) <;> rfl
    · simp only [h0, h1, if_false]
      show T.rec (motive := fun _ => T α) (.node v l .nil) (fun a b c _ _ => .node v l (.node a b c)) (T.setP x r (path (n / 2 - 1))) = _
      cases T.setP x r (path (n / 2 - 1)) <;> rfl

theorem T.get_node {α : Type} (d v : α) (l r : T α) (n : Nat) :
    T.get d (.node v l r) n = if n = 0 then v else if n % 2 = 1 then T.get d l (n / 2) else T.get d r (n / 2 - 1) := by
  unfold T.get
  rw [path_eq n]
  by_cases h0 : n = 0
  · simp only [h0, if_true]; rfl
  · by_cases h1 : n % 2 = 1
    · simp only [h0, h1, if_false, if_true]; rfl
    · simp only [h0, h1, if_false]; rfl

end Go.Proofs.YtmacjmofhaghbaaDoor.Sy
end
