/-
  A symbolic evaluator for the model's code: operators, conversions, what is built in.
-/
import Derived.Test.YtmacjmofhaghbaaDoorSyK
import Derived.MapKept
import Derived.ChangeKeysEq
import Derived.Laws.StructEq
noncomputable section
namespace Go.Proofs.YtmacjmofhaghbaaDoor.Sy
open Go

section
variable {P : Program} {ρ : Env} {st : St} {w : World}

/-! ## the same? -/
theorem den01 (b : Bool) : (decide ((b2e b).den ρ ≠ 0)) = b := by cases b <;> simp [b2e, E.den]

theorem refK_spec {x : V} {i : Nat} {a : Bool} (h : refK x = some (i, a)) :
    (i = 0 ∧ ∃ p, x.den ρ = .pointer p ∧ a = p.isNone) ∨ (i = 1 ∧ ∃ p l c, x.den ρ = .slice p l c ∧ a = p.isNone) ∨ (i = 2 ∧ ∃ p, x.den ρ = .map p ∧ a = p.isNone) ∨
    (i = 3 ∧ ((a = true ∧ x.den ρ = .nilFunc) ∨ (a = false ∧ ∃ fn f c, x.den ρ = .func fn f c))) := by
  unfold refK at h
  split at h
  · split at h <;> simp only [Option.some.injEq, Prod.mk.injEq, reduceCtorEq] at h <;> obtain ⟨rfl, rfl⟩ := h <;> simp [V.den]
  all_goals simp only [Option.some.injEq, Prod.mk.injEq, reduceCtorEq] at h
  all_goals obtain ⟨rfl, rfl⟩ := h
  all_goals simp [V.den]

theorem eqInt_sound {pc : PC} (hp : pc.holds ρ) {D : Nat} {t : TypeId} {k : IntKind} (hu : P.underlying t = some (.int k)) {x y : V} (hx : x.ok ρ) (hy : y.ok ρ) {e : E}
    (h : eqInt pc x y = some e) : (Op.equalIn (D + 1) t (x.den ρ) (y.den ρ)).run P w = .ok (decide (e.den ρ ≠ 0)) w ∧ e.ok ρ := by
  unfold eqInt at h
  cases x <;> simp only [reduceCtorEq] at h
  rename_i k a
  cases y <;> simp only [reduceCtorEq] at h
  rename_i k' b
  cases hk : keq k k' <;> simp only [hk, ift_false, ift_true, Option.some.injEq, reduceCtorEq] at h
  have := (keq_iff _ _).1 hk
  subst this; subst h
  simp only [V.ok] at hx hy
  obtain ⟨ra1, ra2⟩ := PC.re2_spec hp hx
  obtain ⟨rb1, rb2⟩ := PC.re2_spec hp hy
  obtain ⟨h1, h2⟩ := eqL_spec hp rb2 ra2
  refine ⟨?_, h2⟩
  rw [ra1, rb1] at h1
  have e : decide ((eqL pc (pc.re2 b) (pc.re2 a)).den ρ ≠ 0) = (a.den ρ == b.den ρ) := by
    rw [Bool.eq_iff_iff]; simp only [h1, decide_eq_true_eq, beq_iff_eq]
  rw [e]
  simp only [V.den, Op.equalIn, Sem.run_bind, run_underlying hu, Result.andThen_ok, if_true, Sem.run_pure]

theorem eqBool_sound {pc : PC} (hp : pc.holds ρ) {D : Nat} {t : TypeId} (hu : P.underlying t = some .bool) {x y : V} (hx : x.ok ρ) (hy : y.ok ρ) {e : E}
    (h : eqBool pc x y = some e) : (Op.equalIn (D + 1) t (x.den ρ) (y.den ρ)).run P w = .ok (decide (e.den ρ ≠ 0)) w ∧ e.ok ρ := by
  unfold eqBool at h
  cases x <;> simp only [reduceCtorEq] at h
  rename_i a
  cases y <;> simp only [reduceCtorEq] at h
  rename_i b
  simp only [V.ok] at hx hy
  simp only [Option.some.injEq] at h
  have run : (Op.equalIn (D + 1) t ((V.bool a).den ρ) ((V.bool b).den ρ)).run P w = .ok (decide (a.den ρ ≠ 0) == decide (b.den ρ ≠ 0)) w := by
    simp only [V.den, Op.equalIn, Sem.run_bind, run_underlying hu, Result.andThen_ok, Sem.run_pure]
  rw [run]
  subst h
  cases ha : pc.tell a with
  | some r =>
    have ra := PC.tell_spec hp hx ha
    cases r
    · dsimp only
      obtain ⟨n1, n2⟩ := mkNot_spec hy
      refine ⟨?_, n2⟩
      simp only [Bool.false_eq_true, eq_iff_iff, iff_false] at ra
      have e : decide ((mkNot b).den ρ ≠ 0) = decide (b.den ρ = 0) := by rw [Bool.eq_iff_iff]; simp only [decide_eq_true_eq, n1]
      rw [e]
      by_cases hb : b.den ρ = 0 <;> simp [ra, hb]
    · dsimp only
      refine ⟨?_, hy⟩
      simp only [eq_iff_iff, iff_true] at ra
      simp [ra]
  | none =>
    dsimp only
    cases hb : pc.tell b with
    | some r =>
      have rb := PC.tell_spec hp hy hb
      cases r
      · dsimp only
        obtain ⟨n1, n2⟩ := mkNot_spec hx
        refine ⟨?_, n2⟩
        simp only [Bool.false_eq_true, eq_iff_iff, iff_false] at rb
        have e : decide ((mkNot a).den ρ ≠ 0) = decide (a.den ρ = 0) := by rw [Bool.eq_iff_iff]; simp only [decide_eq_true_eq, n1]
        rw [e]
        by_cases hb : a.den ρ = 0 <;> simp [rb, hb]
      · dsimp only
        refine ⟨?_, hx⟩
        simp only [eq_iff_iff, iff_true] at rb
        simp [rb]
    | none =>
      dsimp only
      obtain ⟨m1, m2⟩ := mkIte_spec hx (fun _ => hy) (b := .not b) (fun _ => hy)
      refine ⟨?_, m2⟩
      rw [m1]
      simp only [E.den]
      by_cases ha : a.den ρ = 0 <;> by_cases hb : b.den ρ = 0 <;> simp [ha, hb]

theorem eqRef_sound {D : Nat} {t : TypeId} {u : TypeDesc} (hu : P.underlying t = some u) {x y : V} {e : E}
    (h : eqRef u x y = some e) : (Op.equalIn (D + 1) t (x.den ρ) (y.den ρ)).run P w = .ok (decide (e.den ρ ≠ 0)) w ∧ e.ok ρ := by
  unfold eqRef at h
  cases hx : refK x with
  | none => simp [hx] at h
  | some p =>
    cases hy : refK y with
    | none => simp [hx, hy] at h
    | some q =>
      obtain ⟨i, a⟩ := p
      obtain ⟨j, b⟩ := q
      simp only [hx, hy] at h
      cases hc : Nat.beq i (refD u) && Nat.beq j (refD u) && (a || b) <;> simp only [hc, ift_false, ift_true, Option.some.injEq, reduceCtorEq] at h
      subst h
      refine ⟨?_, b2e_ok _ _⟩
      rw [den01]
      simp only [Bool.and_eq_true] at hc
      obtain ⟨⟨h1, h2⟩, h3⟩ := hc
      have h1 := Nat.eq_of_beq_eq_true h1
      have h2 := Nat.eq_of_beq_eq_true h2
      have sx := refK_spec (ρ := ρ) hx
      have sy := refK_spec (ρ := ρ) hy
      clear hx hy
      cases u <;> simp only [refD] at h1 h2 <;> subst h1 <;> subst h2 <;> simp only [reduceCtorEq, Nat.reduceEqDiff, false_and, true_and, false_or, or_false] at sx sy
      · obtain ⟨p, e1, rfl⟩ := sx
        obtain ⟨q, e2, rfl⟩ := sy
        rw [e1, e2]
        cases p <;> cases q <;> simp [Op.equalIn, run_underlying hu] at h3 ⊢
      · obtain ⟨p, l, c, e1, rfl⟩ := sx
        obtain ⟨q, l', c', e2, rfl⟩ := sy
        rw [e1, e2]
        cases p <;> cases q <;> simp [Op.equalIn, run_underlying hu] at h3 ⊢
      · obtain ⟨p, e1, rfl⟩ := sx
        obtain ⟨q, e2, rfl⟩ := sy
        rw [e1, e2]
        cases p <;> cases q <;> simp [Op.equalIn, run_underlying hu] at h3 ⊢
      · rcases sx with ⟨rfl, e1⟩ | ⟨rfl, fn, f, c, e1⟩ <;> rcases sy with ⟨rfl, e2⟩ | ⟨rfl, fn', f', c', e2⟩ <;> rw [e1, e2] <;> simp [Op.equalIn, run_underlying hu] at h3 ⊢

theorem ift_tri (n : Int) (x y : E) : ift (ieq n 0) x y = if n = 0 then x else y := by
  by_cases h : n = 0
  · rw [if_pos h, (ieq_iff n 0).2 h]; rfl
  · have : ieq n 0 = false := by
      cases hi : ieq n 0
      · rfl
      · exact absurd ((ieq_iff n 0).1 hi) h
    rw [if_neg h, this]; rfl

theorem allEq_spec {pc : PC} (hp : pc.holds ρ) : ∀ {a b : List E}, (∀ e ∈ a, e.ok ρ) → (∀ e ∈ b, e.ok ρ) → a.length = b.length →
    (((allEq pc a b).den ρ ≠ 0) = (a.map (E.den ρ) = b.map (E.den ρ))) ∧ (allEq pc a b).ok ρ
  | [], [], _, _, _ => ⟨by simp [allEq, E.den], trivial⟩
  | [], _ :: _, _, _, h => by simp at h
  | _ :: _, [], _, _, h => by simp at h
  | x :: l, y :: m, ha, hb, hlen => by
    obtain ⟨i1, i2⟩ := allEq_spec hp (a := l) (b := m) (fun e he => ha e (List.mem_cons_of_mem _ he)) (fun e he => hb e (List.mem_cons_of_mem _ he)) (by simpa using hlen)
    obtain ⟨ra1, ra2⟩ := PC.re2_spec hp (ha x (by simp))
    obtain ⟨rb1, rb2⟩ := PC.re2_spec hp (hb y (by simp))
    obtain ⟨h1, h2⟩ := eqL_spec hp rb2 ra2
    rw [ra1, rb1] at h1
    have goal : ∀ e : E, ((e.den ρ ≠ 0) = (x.den ρ = y.den ρ ∧ l.map (E.den ρ) = m.map (E.den ρ))) → ((e.den ρ ≠ 0) = ((x :: l).map (E.den ρ) = (y :: m).map (E.den ρ))) := by
      intro e he
      rw [he, List.map_cons, List.map_cons, List.cons.injEq]
    have both : ∀ q r : E, q.ok ρ → ((q.den ρ ≠ 0) = (x.den ρ = y.den ρ)) → r.ok ρ → ((r.den ρ ≠ 0) = (l.map (E.den ρ) = m.map (E.den ρ))) →
        (((mkIte q r (.lit 0)).den ρ ≠ 0) = ((x :: l).map (E.den ρ) = (y :: m).map (E.den ρ))) ∧ (mkIte q r (.lit 0)).ok ρ := by
      intro q r hq q1 hr r1
      obtain ⟨m1, m2⟩ := mkIte_spec (ρ := ρ) (b := .lit 0) hq (fun _ => hr) (fun _ => trivial)
      refine ⟨goal _ ?_, m2⟩
      rw [m1]
      by_cases h0 : q.den ρ = 0
      · rw [if_pos h0]
        have : ¬ (x.den ρ = y.den ρ) := by rw [← q1]; simp [h0]
        simp [E.den, this]
      · rw [if_neg h0]
        have : x.den ρ = y.den ρ := by rw [← q1]; exact h0
        rw [r1]; simp [this]
    -- a part that is plainly not so, or so
    have litF : ∀ n : Int, (E.lit n).ok ρ := fun _ => trivial
    have hq : ∀ q : E, q = eqL pc (pc.re2 y) (pc.re2 x) → (((allEq pc (x :: l) (y :: m)).den ρ ≠ 0) = ((x :: l).map (E.den ρ) = (y :: m).map (E.den ρ))) ∧ (allEq pc (x :: l) (y :: m)).ok ρ := by
      intro q hq
      have q1 : (q.den ρ ≠ 0) = (x.den ρ = y.den ρ) := by rw [hq]; exact h1
      have q2 : q.ok ρ := by rw [hq]; exact h2
      unfold allEq
      dsimp only
      cases hbq : x.beq y
      case true =>
        have hxy := E.beq_den ρ _ _ hbq
        simp only [ift_true]
        refine ⟨goal _ ?_, i2⟩
        rw [i1]; simp [hxy]
      simp only [ift_false]
      rw [← hq]
      have rest : ∀ r : E, r = allEq pc l m → (((match r with | .lit n => ift (ieq n 0) (.lit 0) q | r => mkIte q r (.lit 0) : E).den ρ ≠ 0) = ((x :: l).map (E.den ρ) = (y :: m).map (E.den ρ))) ∧
          (match r with | .lit n => ift (ieq n 0) (.lit 0) q | r => mkIte q r (.lit 0) : E).ok ρ := by
        intro r hr
        have r1 : (r.den ρ ≠ 0) = (l.map (E.den ρ) = m.map (E.den ρ)) := by rw [hr]; exact i1
        have r2 : r.ok ρ := by rw [hr]; exact i2
        cases r <;> try exact both q _ q2 q1 r2 r1
        rename_i n
        dsimp only
        rw [ift_tri]
        simp only [E.den] at r1
        by_cases hn : n = 0
        · rw [if_pos hn]
          refine ⟨goal _ ?_, trivial⟩
          have : ¬ (l.map (E.den ρ) = m.map (E.den ρ)) := by rw [← r1]; simp [hn]
          simp [E.den, this]
        · rw [if_neg hn]
          refine ⟨goal _ ?_, q2⟩
          have : l.map (E.den ρ) = m.map (E.den ρ) := by rw [← r1]; exact hn
          rw [q1]; simp [this]
      cases q with
      | lit n =>
        dsimp only
        rw [ift_tri]
        simp only [E.den] at q1
        by_cases hn : n = 0
        · rw [if_pos hn]
          refine ⟨goal _ ?_, trivial⟩
          have : ¬ (x.den ρ = y.den ρ) := by rw [← q1]; simp [hn]
          simp [E.den, this]
        · rw [if_neg hn]
          refine ⟨goal _ ?_, i2⟩
          have : x.den ρ = y.den ρ := by rw [← q1]; exact hn
          rw [i1]; simp [this]
      | _ => exact rest _ rfl
    exact hq _ rfl

theorem bytes_inj {a b : List E} (ha : ∀ e ∈ a, 0 ≤ e.den ρ ∧ e.den ρ ≤ 255) (hb : ∀ e ∈ b, 0 ≤ e.den ρ ∧ e.den ρ ≤ 255) :
    ((ByteArray.mk (a.map fun e => UInt8.ofNat (e.den ρ).toNat).toArray) = (ByteArray.mk (b.map fun e => UInt8.ofNat (e.den ρ).toNat).toArray)) ↔ a.map (E.den ρ) = b.map (E.den ρ) := by
  have inj : ∀ {a b : List E}, (∀ e ∈ a, 0 ≤ e.den ρ ∧ e.den ρ ≤ 255) → (∀ e ∈ b, 0 ≤ e.den ρ ∧ e.den ρ ≤ 255) →
      a.map (fun e => UInt8.ofNat (e.den ρ).toNat) = b.map (fun e => UInt8.ofNat (e.den ρ).toNat) → a.map (E.den ρ) = b.map (E.den ρ) := by
    intro a
    induction a with
    | nil => intro b _ _ h; cases b <;> simp_all
    | cons x l ih =>
      intro b ha hb h
      cases b with
      | nil => simp at h
      | cons y m =>
        simp only [List.map_cons, List.cons.injEq] at h ⊢
        obtain ⟨h1, h2⟩ := h
        have hx := ha x (by simp)
        have hy := hb y (by simp)
        refine ⟨?_, ih (fun e he => ha e (List.mem_cons_of_mem _ he)) (fun e he => hb e (List.mem_cons_of_mem _ he)) h2⟩
        have := congrArg UInt8.toNat h1
        have e1 : (x.den ρ).toNat < 256 := by omega
        have e2 : (y.den ρ).toNat < 256 := by omega
        simp [Nat.mod_eq_of_lt e1, Nat.mod_eq_of_lt e2] at this
        omega
  refine ⟨fun h => ?_, fun h => ?_⟩
  · apply inj ha hb
    simpa using h
  · have : a.map (fun e => UInt8.ofNat (e.den ρ).toNat) = b.map (fun e => UInt8.ofNat (e.den ρ).toNat) := by
      have := congrArg (List.map fun z : Int => UInt8.ofNat z.toNat) h
      simp only [List.map_map] at this
      exact this
    rw [this]

theorem eqStr_spec {pc : PC} (hp : pc.holds ρ) {x y : V} (hx : x.ok ρ) (hy : y.ok ρ) {e : E} (h : eqStr pc x y = some e) :
    ∃ s t : ByteArray, x.den ρ = .string s ∧ y.den ρ = .string t ∧ decide (e.den ρ ≠ 0) = (s == t) ∧ e.ok ρ := by
  unfold eqStr at h
  cases x <;> simp only [reduceCtorEq] at h
  rename_i a
  cases y <;> simp only [reduceCtorEq] at h
  rename_i b
  simp only [Option.some.injEq] at h
  simp only [V.ok] at hx hy
  have d : ∀ l : List E, (V.str l).den ρ = .string ⟨(l.map fun e => UInt8.ofNat (e.den ρ).toNat).toArray⟩ := fun l => by simp only [V.den]
  refine ⟨_, _, d a, d b, ?_⟩
  have hi := bytes_inj (ρ := ρ) (fun e he => (hx e he).2) (fun e he => (hy e he).2)
  have beq : ∀ s t : ByteArray, (s == t) = decide (s = t) := fun s t => by
    rw [Bool.eq_iff_iff, decide_eq_true_eq]; exact MapKept.bytes_beq s t
  cases hl : Nat.beq a.length b.length
  · rw [hl] at h
    simp only [ift_false] at h
    subst h
    refine ⟨?_, trivial⟩
    have hne : ¬ (a.length = b.length) := fun e => by rw [e, Nat.beq_refl] at hl; cases hl
    rw [beq, decide_eq_decide, hi]
    simp only [E.den, ne_eq, not_true_eq_false, false_iff]
    intro h
    have := congrArg List.length h
    simp at this
    exact hne this
  · rw [hl] at h
    simp only [ift_true] at h
    subst h
    obtain ⟨a1, a2⟩ := allEq_spec hp (fun e he => (hx e he).1) (fun e he => (hy e he).1) (Nat.eq_of_beq_eq_true hl)
    refine ⟨?_, a2⟩
    rw [beq, decide_eq_decide, hi, a1]

theorem eqStr_sound {pc : PC} (hp : pc.holds ρ) {D : Nat} {t : TypeId} (hu : P.underlying t = some .string) {x y : V} (hx : x.ok ρ) (hy : y.ok ρ) {e : E}
    (h : eqStr pc x y = some e) : (Op.equalIn (D + 1) t (x.den ρ) (y.den ρ)).run P w = .ok (decide (e.den ρ ≠ 0)) w ∧ e.ok ρ := by
  obtain ⟨s, u, h1, h2, h3, h4⟩ := eqStr_spec hp hx hy h
  refine ⟨?_, h4⟩
  rw [h1, h2, h3]
  simp only [Op.equalIn, Sem.run_bind, run_underlying hu, Result.andThen_ok, Sem.run_pure]

theorem eqCell_sound {pc : PC} (hp : pc.holds ρ) {D : Nat} {t : TypeId} {u : TypeDesc} (hu : P.underlying t = some u) {x y : V} (hx : x.ok ρ) (hy : y.ok ρ) {e : E}
    (h : eqCell u pc x y = some e) : (Op.equalIn (D + 1) t (x.den ρ) (y.den ρ)).run P w = .ok (decide (e.den ρ ≠ 0)) w ∧ e.ok ρ := by
  unfold eqCell at h
  split at h
  · exact eqInt_sound hp hu hx hy h
  · exact eqBool_sound hp hu hx hy h
  · exact eqStr_sound hp hu hx hy h
  · exact eqRef_sound hu h

/-- Is it so? -/
def E.is (ρ : Env) (e : E) : Bool := decide (e.den ρ ≠ 0)

theorem E.is_lit (n : Int) : (E.lit n).is ρ = decide (n ≠ 0) := rfl

theorem andE_spec {a b : E} (ha : a.ok ρ) (hb : b.ok ρ) : (andE a b).is ρ = (a.is ρ && b.is ρ) ∧ (andE a b).ok ρ := by
  have gen : ∀ a : E, a.ok ρ → (match b with | .lit n => ift (ieq n 0) (E.lit 0) <| a | b => mkIte a b (.lit 0)).is ρ = (a.is ρ && b.is ρ) ∧
      (match b with | .lit n => ift (ieq n 0) (E.lit 0) <| a | b => mkIte a b (.lit 0)).ok ρ := by
    intro a ha
    split
    · rename_i n
      cases h : ieq n 0
      · have h' : ¬ n = 0 := by rw [← ieq_iff, h]; decide
        exact ⟨by simp [E.is_lit, h'], ha⟩
      · have h' := (ieq_iff _ _).1 h
        subst h'
        exact ⟨by simp [E.is_lit], trivial⟩
    · obtain ⟨m1, m2⟩ := mkIte_spec ha (fun _ => hb) (b := .lit 0) (fun _ => trivial)
      refine ⟨?_, m2⟩
      unfold E.is
      rw [Bool.eq_iff_iff, Bool.and_eq_true, decide_eq_true_eq, decide_eq_true_eq, decide_eq_true_eq, m1]
      by_cases h : a.den ρ = 0 <;> simp [h, E.den]
  cases a with
  | lit n =>
    unfold andE
    dsimp only
    cases h : ieq n 0
    · have h' : ¬ n = 0 := by rw [← ieq_iff, h]; decide
      exact ⟨by simp [E.is_lit, h'], hb⟩
    · have h' := (ieq_iff _ _).1 h
      subst h'
      exact ⟨by simp [E.is_lit], trivial⟩
  | _ => exact gen _ ha

theorem lit_is0 {n : Int} (h : ieq n 0 = true) : (E.lit n).is ρ = false := by
  have := (ieq_iff _ _).1 h; subst this; simp [E.is_lit]
theorem lit_is1 {n : Int} (h : ieq n 0 = false) : (E.lit n).is ρ = true := by
  have h' : ¬ n = 0 := by rw [← ieq_iff, h]; decide
  simp [E.is_lit, h']

/-- Parts that come to the same or not, one behind the other: their first, and the rest. -/
theorem eqStep {a : E} {ro : Option E} {e : E} (hae : a.ok ρ) (h : thenE a ro = some e)
    {r1 : Result Bool} {k : World → Result Bool} (h1 : r1 = .ok (a.is ρ) w) (hk : ∀ b, ro = some b → k w = .ok (b.is ρ) w ∧ b.ok ρ) :
    (r1.andThen fun r w' => if (!r) = true then .ok false w' else k w') = .ok (e.is ρ) w ∧ e.ok ρ := by
  rw [h1]
  simp only [Result.andThen_ok]
  have gen : ∀ b, ro = some b → andE a b = e → (if (!a.is ρ) = true then .ok false w else k w) = .ok (e.is ρ) w ∧ e.ok ρ := by
    intro b hb h
    subst h
    obtain ⟨k1, k2⟩ := hk b hb
    obtain ⟨a1, a2⟩ := andE_spec hae k2
    refine ⟨?_, a2⟩
    rw [a1, k1]
    cases a.is ρ <;> simp
  unfold thenE at h
  cases a with
  | lit n =>
    dsimp only at h
    cases hn : ieq n 0
    · simp only [hn, ift_false] at h
      obtain ⟨k1, k2⟩ := hk e h
      refine ⟨?_, k2⟩
      rw [lit_is1 hn]
      simpa using k1
    · simp only [hn, ift_true, Option.some.injEq] at h
      subst h
      rw [lit_is0 hn]
      exact ⟨by simp [E.is_lit], trivial⟩
  | _ => cases hro : ro with
    | none => rw [hro] at h; cases h
    | some b => rw [hro] at h; exact gen b hro (Option.some.inj h)

theorem range'_cons (i n : Nat) : List.range' i (n + 1) = i :: List.range' (i + 1) n := by simp [List.range'_succ]

theorem eq_sound {pc : PC} (hp : pc.holds ρ) : ∀ d : Nat,
    (∀ (D : Nat) (t : TypeId) (x y : V) (e : E), d ≤ D → x.ok ρ → y.ok ρ → eqT P pc d t x y = some e → (Op.equalIn D t (x.den ρ) (y.den ρ)).run P w = .ok (e.is ρ) w ∧ e.ok ρ) ∧
    (∀ (D : Nat) (fs : List Field) (xs ys : List V) (e : E), d ≤ D → V.oks ρ xs → V.oks ρ ys → eqFields P pc d fs xs ys = some e →
      (Op.eqFields D (V.dens ρ xs).toArray (V.dens ρ ys).toArray fs).run P w = .ok (e.is ρ) w ∧ e.ok ρ) ∧
    (∀ (D : Nat) (el : TypeId) (s n i : Nat) (xs ys : List V) (e : E), d ≤ D → V.oks ρ xs → V.oks ρ ys → eqElems P pc d el s n i xs ys = some e →
      (Op.eqItems D el s (V.dens ρ xs).toArray (V.dens ρ ys).toArray (List.range' i n)).run P w = .ok (e.is ρ) w ∧ e.ok ρ)
  | 0 => by
    refine ⟨fun _ _ _ _ _ _ _ _ h => ?_, fun _ _ _ _ _ _ _ _ h => ?_, fun _ _ _ _ _ _ _ _ _ _ _ h => ?_⟩
    · simp [eqT] at h
    · unfold eqFields at h; cases h
    · unfold eqElems at h; cases h
  | d + 1 => by
    obtain ⟨ihT, ihF, ihE⟩ := eq_sound hp d
    refine ⟨fun D t x y e hD hx hy h => ?_, fun D fs xs ys e hD hx hy h => ?_, fun D el s n i xs ys e hD hx hy h => ?_⟩
    · obtain ⟨D, rfl⟩ : ∃ k, D = k + 1 := ⟨D - 1, by omega⟩
      unfold eqT at h
      cases hu : P.underlying t with
      | none => simp [hu] at h
      | some u =>
        have cell : eqCell u pc x y = some e → (Op.equalIn (D + 1) t (x.den ρ) (y.den ρ)).run P w = .ok (e.is ρ) w ∧ e.ok ρ := fun h => eqCell_sound hp hu hx hy h
        cases u
        case struct fs =>
          simp only [hu] at h
          cases hs : P.stoodInHeld t <;> simp only [hs, ift_false, ift_true, reduceCtorEq] at h
          split at h
          · rename_i xs ys
            simp only [V.ok] at hx hy
            have hfo : P.fieldsOf t = fs := by simp [Program.fieldsOf, hu]
            simp only [V.den]
            rw [run_equalIn_struct w D t _ _ (by rw [hfo]; exact hu) hs, hfo]
            exact ihF D fs.toList xs ys e (by omega) hx hy h
          · cases h
        case array n el =>
          simp only [hu] at h
          cases hs : sizeT P el with
          | none => simp [hs] at h
          | some s =>
            simp only [hs] at h
            split at h
            · rename_i s' xs ys hss
              simp only [Option.some.injEq] at hss
              subst hss
              simp only [V.ok] at hx hy
              have hs' := hs
              unfold sizeT at hs'
              cases hi : P.info? el with
              | none => simp [hi] at hs'
              | some i =>
                simp only [hi, Option.some.injEq] at hs'
                have hco : P.cellsOf el = s := by simp [Program.cellsOf, hi, hs']
                simp only [V.den]
                rw [run_equalIn_array w D _ _ hu hi, hco, List.range_eq_range']
                exact ihE D el s n 0 xs ys e (by omega) hx hy h
            · cases h
        all_goals (simp only [hu] at h; exact cell h)
    · cases fs with
      | nil =>
        unfold eqFields at h
        simp only [Option.some.injEq] at h
        subst h
        exact ⟨by simp [Op.eqFields, E.is_lit], trivial⟩
      | cons f fs =>
        unfold eqFields at h
        cases hn : f.name == "_"
        · simp only [hn, ift_false] at h
          have hne : f.name ≠ "_" := by simpa using hn
          cases hx1 : partV P f.type xs f.offset with
          | none => simp [hx1] at h
          | some x =>
            cases hy1 : partV P f.type ys f.offset with
            | none => simp [hx1, hy1] at h
            | some y =>
              simp only [hx1, hy1] at h
              cases ha : eqT P pc d f.type x y with
              | none => simp [ha] at h
              | some a =>
                simp only [ha] at h
                obtain ⟨a1, a2⟩ := ihT D f.type x y a (by omega) (partV_ok hx1 hx) (partV_ok hy1 hy) ha
                simp only [Op.eqFields, hne, ne_eq, not_false_eq_true, if_true, Sem.run_bind, run_part hx1, run_part hy1, Result.andThen_ok, Sem.run_ite, Sem.run_pure]
                exact eqStep a2 h a1 fun b hb => ihF D fs xs ys b (by omega) hx hy hb
        · simp only [hn, ift_true] at h
          have hne : f.name = "_" := by simpa using hn
          simp only [Op.eqFields, hne, ne_eq, not_true_eq_false, if_false]
          exact ihF D fs xs ys e (by omega) hx hy h
    · cases n with
      | zero =>
        unfold eqElems at h
        simp only [Option.some.injEq] at h
        subst h
        exact ⟨by simp [Op.eqItems, E.is_lit], trivial⟩
      | succ n =>
        unfold eqElems at h
        cases hx1 : partV P el xs (i * s) with
        | none => simp [hx1] at h
        | some x =>
          cases hy1 : partV P el ys (i * s) with
          | none => simp [hx1, hy1] at h
          | some y =>
            simp only [hx1, hy1] at h
            cases ha : eqT P pc d el x y with
            | none => simp [ha] at h
            | some a =>
              simp only [ha] at h
              obtain ⟨a1, a2⟩ := ihT D el x y a (by omega) (partV_ok hx1 hx) (partV_ok hy1 hy) ha
              rw [range'_cons]
              simp only [Op.eqItems, Sem.run_bind, run_part hx1, run_part hy1, Result.andThen_ok, Sem.run_ite, Sem.run_pure]
              exact eqStep a2 h a1 fun b hb => ihE D el s n (i + 1) xs ys b (by omega) hx hy hb

end
end Go.Proofs.YtmacjmofhaghbaaDoor.Sy
end
