/-
  A symbolic evaluator for the model's code: regions that draw their order; their words.
-/
import Derived.Test.YtmacjmofhaghbaaDoorSyO
noncomputable section
namespace Go.Proofs.YtmacjmofhaghbaaDoor.Sy
open Go

theorem E.same_eq : ∀ (a b : E), a.same b = true → a = b := by
  intro a
  induction a with
  | lit n => intro b h; cases b <;> simp only [E.same, Bool.false_eq_true] at h; rw [(ieq_iff _ _).1 h]
  | var i l u =>
    intro b h; cases b <;> simp only [E.same, Bool.false_eq_true, Bool.and_eq_true, ieq_iff] at h
    obtain ⟨⟨h1, rfl⟩, rfl⟩ := h
    rw [Nat.eq_of_beq_eq_true h1]
  | fn f a l u ih =>
    intro b h; cases b <;> simp only [E.same, Bool.false_eq_true, Bool.and_eq_true, ieq_iff] at h
    obtain ⟨⟨⟨h1, rfl⟩, rfl⟩, h2⟩ := h
    rw [Nat.eq_of_beq_eq_true h1, ih _ h2]
  | bin op k a b l u iha ihb =>
    intro c h; cases c <;> simp only [E.same, Bool.false_eq_true, Bool.and_eq_true, ieq_iff] at h
    obtain ⟨⟨⟨⟨⟨h1, h2⟩, rfl⟩, rfl⟩, h3⟩, h4⟩ := h
    rw [beqBin_eq h1, (keq_iff _ _).1 h2, iha _ h3, ihb _ h4]
  | conv k a l u ih =>
    intro b h; cases b <;> simp only [E.same, Bool.false_eq_true, Bool.and_eq_true, ieq_iff] at h
    obtain ⟨⟨⟨h1, rfl⟩, rfl⟩, h2⟩ := h
    rw [(keq_iff _ _).1 h1, ih _ h2]
  | eq a b iha ihb =>
    intro c h; cases c <;> simp only [E.same, Bool.false_eq_true, Bool.and_eq_true] at h
    rw [iha _ h.1, ihb _ h.2]
  | lt a b iha ihb =>
    intro c h; cases c <;> simp only [E.same, Bool.false_eq_true, Bool.and_eq_true] at h
    rw [iha _ h.1, ihb _ h.2]
  | not a ih =>
    intro c h; cases c <;> simp only [E.same, Bool.false_eq_true] at h
    rw [ih _ h]
  | ite c a b l u ihc iha ihb =>
    intro d h; cases d <;> simp only [E.same, Bool.false_eq_true, Bool.and_eq_true, ieq_iff] at h
    obtain ⟨⟨⟨⟨rfl, rfl⟩, h1⟩, h2⟩, h3⟩ := h
    rw [ihc _ h1, iha _ h2, ihb _ h3]
  | cap d n o t l u ihn iho =>
    intro c h; cases c <;> simp only [E.same, Bool.false_eq_true, Bool.and_eq_true, ieq_iff] at h
    obtain ⟨⟨⟨⟨⟨h1, h2⟩, rfl⟩, rfl⟩, h3⟩, h4⟩ := h
    rw [Nat.eq_of_beq_eq_true h1, Nat.eq_of_beq_eq_true h2, ihn _ h3, iho _ h4]

theorem beqB_eq {a b : B} (h : beqB a b = true) : a = b := by
  cases a <;> cases b <;> simp only [beqB, Bool.false_eq_true] at h <;> rw [Nat.eq_of_beq_eq_true h]
theorem beqFn_eq {a b : Fn} (h : beqFn a b = true) : a = b := by
  unfold beqFn at h
  split at h
  · rw [Nat.eq_of_beq_eq_true h]
  · cases h
theorem beqLit_eq {a b : Value} (h : beqLit a b = true) : a = b := by
  unfold beqLit at h
  split at h <;> first | rfl | cases h | skip
  rename_i x y
  simp only [Bool.and_eq_true] at h
  have h1 := Array.eq_empty_of_size_eq_zero (Nat.eq_of_beq_eq_true h.1)
  have h2 := Array.eq_empty_of_size_eq_zero (Nat.eq_of_beq_eq_true h.2)
  rw [h1, h2]

theorem sameEL_eq : ∀ {a b : List E}, sameEL a b = true → a = b
  | [], b, h => by cases b <;> simp only [sameEL, Bool.false_eq_true] at h; rfl
  | x :: l, b, h => by
    cases b <;> simp only [sameEL, Bool.false_eq_true, Bool.and_eq_true] at h
    rw [E.same_eq _ _ h.1, sameEL_eq h.2]
mutual
theorem V.same_eq : ∀ (a b : V), a.same b = true → a = b
  | .lit x, b, h => by cases b <;> simp only [V.same, Bool.false_eq_true] at h; rw [beqLit_eq h]
  | .bool e, b, h => by cases b <;> simp only [V.same, Bool.false_eq_true] at h; rw [E.same_eq _ _ h]
  | .int k e, b, h => by
    cases b <;> simp only [V.same, Bool.false_eq_true, Bool.and_eq_true] at h
    rw [(keq_iff _ _).1 h.1, E.same_eq _ _ h.2]
  | .ptr x o, b, h => by
    cases b <;> simp only [V.same, Bool.false_eq_true, Bool.and_eq_true] at h
    rw [beqB_eq h.1, Nat.eq_of_beq_eq_true h.2]
  | .dptr x o i s u, b, h => by
    cases b <;> simp only [V.same, Bool.false_eq_true, Bool.and_eq_true] at h
    obtain ⟨⟨⟨⟨h1, h2⟩, h3⟩, h4⟩, h5⟩ := h
    rw [beqB_eq h1, Nat.eq_of_beq_eq_true h2, E.same_eq _ _ h3, Nat.eq_of_beq_eq_true h4, Nat.eq_of_beq_eq_true h5]
  | .slice x o l c, b, h => by
    cases b <;> simp only [V.same, Bool.false_eq_true, Bool.and_eq_true] at h
    obtain ⟨⟨⟨h1, h2⟩, h3⟩, h4⟩ := h
    rw [beqB_eq h1, Nat.eq_of_beq_eq_true h2, E.same_eq _ _ h3, E.same_eq _ _ h4]
  | .map x, b, h => by cases b <;> simp only [V.same, Bool.false_eq_true] at h; rw [beqB_eq h]
  | .func fn f c, b, h => by
    cases b <;> simp only [V.same, Bool.false_eq_true, Bool.and_eq_true] at h
    obtain ⟨⟨h1, h2⟩, h3⟩ := h
    rw [beqFn_eq h1, V.sames_eq _ _ h2, V.sames_eq _ _ h3]
  | .agg l, b, h => by cases b <;> simp only [V.same, Bool.false_eq_true] at h; rw [V.sames_eq _ _ h]
  | .tup l, b, h => by cases b <;> simp only [V.same, Bool.false_eq_true] at h; rw [V.sames_eq _ _ h]
  | .opt g v, b, h => by
    cases b <;> simp only [V.same, Bool.false_eq_true, Bool.and_eq_true] at h
    rw [E.same_eq _ _ h.1, V.same_eq _ _ h.2]
  | .hole i, b, h => by
    cases b <;> simp only [V.same, Bool.false_eq_true] at h
    rw [Nat.eq_of_beq_eq_true h]
  | .str a, b, h => by
    cases b <;> simp only [V.same, Bool.false_eq_true] at h
    rw [sameEL_eq h]
theorem V.sames_eq : ∀ (a b : List V), V.sames a b = true → a = b
  | [], b, h => by cases b <;> simp only [V.sames, Bool.false_eq_true] at h; rfl
  | x :: l, b, h => by
    cases b <;> simp only [V.sames, Bool.false_eq_true, Bool.and_eq_true] at h
    rw [V.same_eq _ _ h.1, V.sames_eq _ _ h.2]
end

theorem allB_spec {α : Type} {p : α → Bool} : ∀ {l : List α}, allB p l = true → ∀ x ∈ l, p x = true
  | [], _, _, hx => by cases hx
  | a :: l, h, x, hx => by
    simp only [allB, Bool.and_eq_true] at h
    rcases List.mem_cons.1 hx with rfl | hx
    · exact h.1
    · exact allB_spec h.2 x hx

/-! ## the masks -/
theorem bit_eq (s i : Nat) : bit s i = s.testBit i := by
  unfold bit Nat.testBit
  have h : (Nat.land (Nat.shiftRight s i) 1) = 1 &&& (s >>> i) := by rw [Nat.and_comm]; rfl
  rw [h, Nat.one_and_eq_mod_two]
  rcases Nat.mod_two_eq_zero_or_one (s >>> i) with e | e <;> rw [e] <;> rfl

theorem bit_zero (i : Nat) : bit 0 i = false := by rw [bit_eq, Nat.zero_testBit]
theorem bit_add (s k x i : Nat) (h : bit (Nat.lor (Nat.lor s (Nat.shiftLeft 1 k)) x) i = true) : bit s i = true ∨ i = k ∨ bit x i = true := by
  rw [bit_eq] at h
  have e : Nat.lor (Nat.lor s (Nat.shiftLeft 1 k)) x = (s ||| 1 <<< k) ||| x := rfl
  rw [e, Nat.testBit_or, Nat.testBit_or, Nat.one_shiftLeft, Nat.testBit_two_pow] at h
  rw [bit_eq, bit_eq]
  simp only [Bool.or_eq_true, decide_eq_true_eq] at h
  rcases h with (h | h) | h
  · exact .inl h
  · exact .inr (.inl h.symm)
  · exact .inr (.inr h)

/-- What is done is closed under what binds. -/
def Closed (ops : List Oper) (S : Nat → Prop) : Prop := ∀ i o, ops[i]? = some o → S i → ∀ e ∈ o.after.toList, bindsB e = true → S e.on

/-- j stands ahead of i. -/
def Ahead (ops : List Oper) (j i : Nat) : Prop := j < i ∧ ∀ S : Nat → Prop, Closed ops S → S i → S j

def MasksOk (ops : List Oper) (m : T Nat) : Prop := ∀ i j, bit (m.get 0 i) j = true → Ahead ops j i

theorem edgeMask_spec {ops : List Oper} {m : T Nat} (hm : MasksOk ops m) {i : Nat} {o : Oper} (ho : ops[i]? = some o) : ∀ (es : List Edge) (s s' : Nat),
    (∀ e ∈ es, e ∈ o.after.toList) → (∀ j, bit s j = true → Ahead ops j i) → edgeMask m i es s = some s' →
    (∀ j, bit s' j = true → Ahead ops j i) ∧ ∀ e ∈ es, bindsB e = true → e.on < i
  | [], s, s', _, hs, h => by
    simp only [edgeMask, Option.some.injEq] at h
    subst h
    exact ⟨hs, by simp⟩
  | e :: es, s, s', hes, hs, h => by
    unfold edgeMask at h
    have hes' : ∀ x ∈ es, x ∈ o.after.toList := fun x hx => hes x (List.mem_cons_of_mem _ hx)
    cases hb : bindsB e
    · simp only [hb, ift_false] at h
      obtain ⟨h1, h2⟩ := edgeMask_spec hm ho es s s' hes' hs h
      refine ⟨h1, fun x hx hxb => ?_⟩
      rcases List.mem_cons.1 hx with rfl | hx
      · rw [hb] at hxb; cases hxb
      · exact h2 x hx hxb
    · simp only [hb, ift_true] at h
      cases hlt : Nat.blt e.on i
      · simp [hlt] at h
      · have hlt' : e.on < i := by simpa [Nat.blt_eq] using hlt
        simp only [hlt, ift_true] at h
        have fin : ∀ {p : Prop}, ((∀ j, bit s' j = true → Ahead ops j i) ∧ ∀ x ∈ es, bindsB x = true → x.on < i) →
            ((∀ j, bit s' j = true → Ahead ops j i) ∧ ∀ x ∈ e :: es, bindsB x = true → x.on < i) := by
          intro _ ⟨h1, h2⟩
          refine ⟨h1, fun x hx hxb => ?_⟩
          rcases List.mem_cons.1 hx with rfl | hx
          · exact hlt'
          · exact h2 x hx hxb
        cases hbit : bit s e.on
        · simp only [hbit, ift_false] at h
          refine fin (p := True) (edgeMask_spec hm ho es _ s' hes' (fun j hj => ?_) h)
          have here : Ahead ops e.on i := ⟨hlt', fun S hS hi => hS i o ho hi e (hes e (List.mem_cons_self ..)) hb⟩
          rcases bit_add _ _ _ _ hj with h1 | rfl | h1
          · exact hs j h1
          · exact here
          · obtain ⟨h2, h3⟩ := hm _ _ h1
            exact ⟨Nat.lt_trans h2 hlt', fun S hS hi => h3 S hS (here.2 S hS hi)⟩
        · simp only [hbit, ift_true] at h
          exact fin (p := True) (edgeMask_spec hm ho es s s' hes' hs h)

theorem masksFrom_spec {all : List Oper} : ∀ (ops : List Oper) (i : Nat) (m m' : T Nat), (∀ k, ops[k]? = all[i + k]?) → MasksOk all m → masksFrom i ops m = some m' →
    MasksOk all m' ∧ ∀ k o, ops[k]? = some o → ∀ e ∈ o.after.toList, bindsB e = true → e.on < i + k
  | [], i, m, m', _, hm, h => by
    simp only [masksFrom, Option.some.injEq] at h
    subst h
    exact ⟨hm, by simp⟩
  | o :: os, i, m, m', hat, hm, h => by
    unfold masksFrom at h
    have ho : all[i]? = some o := by have := hat 0; simpa using this.symm
    cases hs : edgeMask m i o.after.toList 0 with
    | none => simp [hs] at h
    | some s =>
      simp only [hs] at h
      obtain ⟨e1, e2⟩ := edgeMask_spec hm ho o.after.toList 0 s (fun _ h => h) (fun j hj => by rw [bit_zero] at hj; cases hj) hs
      have hm' : MasksOk all (m.set i s) := by
        intro k j hb
        by_cases hik : i = k
        · subst hik
          rcases T.get_set_or 0 s m i with e | e
          · rw [e] at hb; exact e1 j hb
          · rw [e, bit_zero] at hb; cases hb
        · rw [T.get_set_ne _ _ _ _ _ hik] at hb
          exact hm k j hb
      obtain ⟨r1, r2⟩ := masksFrom_spec os (i + 1) _ m' (fun k => by have := hat (k + 1); simpa [Nat.add_assoc, Nat.add_comm 1 k] using this) hm' h
      refine ⟨r1, fun k x hk => ?_⟩
      cases k with
      | zero =>
        simp only [List.getElem?_cons_zero, Option.some.injEq] at hk
        subst hk
        exact e2
      | succ k =>
        intro e he hb
        have := r2 k x (by simpa using hk) e he hb
        omega

/-! ## the temporaries -/
theorem writers_keep : ∀ (ops : List Oper) (i : Nat) (w : T (List Nat)) (d x : Nat), (∃ k, T.Full k w ∧ d < 2 ^ k - 1) → x ∈ w.get [] d → x ∈ (writers i ops w).get [] d
  | [], _, _, _, _, _, h => h
  | o :: os, i, w, d, x, hk, h => by
    unfold writers
    cases hd : o.dst with
    | none => exact writers_keep os _ _ d x hk h
    | some d' =>
      obtain ⟨k, hf, hlt⟩ := hk
      refine writers_keep os _ _ d x ⟨k, T.full_set hf _ _, hlt⟩ ?_
      by_cases hdd : d' = d
      · subst hdd
        rw [T.get_set_eq _ _ hf _ hlt]
        exact List.mem_cons_of_mem _ h
      · rw [T.get_set_ne _ _ _ _ _ hdd]; exact h

theorem writers_spec : ∀ (ops : List Oper) (i : Nat) (w : T (List Nat)) (d j : Nat) (o : Oper), (∃ k, T.Full k w ∧ d < 2 ^ k - 1) → ops[j]? = some o → o.dst = some d →
    i + j ∈ (writers i ops w).get [] d
  | [], _, _, _, _, _, _, h, _ => by simp at h
  | o :: os, i, w, d, 0, x, hk, h, hd => by
    simp only [List.getElem?_cons_zero, Option.some.injEq] at h
    subst h
    unfold writers
    rw [hd]
    obtain ⟨k, hf, hlt⟩ := hk
    refine writers_keep os _ _ d _ ⟨k, T.full_set hf _ _, hlt⟩ ?_
    rw [T.get_set_eq _ _ hf _ hlt]
    exact List.mem_cons_self ..
  | o :: os, i, w, d, j + 1, x, hk, h, hd => by
    unfold writers
    have e : i + (j + 1) = (i + 1) + j := by omega
    rw [e]
    cases hd' : o.dst with
    | none => exact writers_spec os _ _ d j x hk (by simpa using h) hd
    | some d' =>
      obtain ⟨k, hf, hlt⟩ := hk
      exact writers_spec os _ _ d j x ⟨k, T.full_set hf _ _, hlt⟩ (by simpa using h) hd

theorem ordB_spec {ops : List Oper} {m : T Nat} (hm : MasksOk ops m) {i j : Nat} (h : ordB m i j = true) : Ahead ops i j ∨ Ahead ops j i := by
  unfold ordB at h
  rw [Bool.or_eq_true] at h
  exact h.imp (hm _ _) (hm _ _)

theorem namesOk_spec {all : List Oper} {n : Nat} {m : T Nat} {w : T (List Nat)} (hm : MasksOk all m) : ∀ (ops : List Oper) (j : Nat), namesOk all n m w j ops = true →
    ∀ k o, ops[k]? = some o → ∀ d ∈ namesOf all o, d < n ∧ ∀ i ∈ w.get [] d, i = j + k ∨ Ahead all i (j + k) ∨ Ahead all (j + k) i
  | [], _, _, _, _, h => by simp at h
  | o :: os, j, h, k, x, hk => by
    simp only [namesOk, Bool.and_eq_true] at h
    cases k with
    | zero =>
      simp only [List.getElem?_cons_zero, Option.some.injEq] at hk
      subst hk
      intro d hd
      have := allB_spec h.1 d hd
      simp only [Bool.and_eq_true] at this
      refine ⟨by simpa [Nat.blt_eq] using this.1, fun i hi => ?_⟩
      have := allB_spec this.2 i hi
      rw [Bool.or_eq_true] at this
      rcases this with h1 | h1
      · exact .inl (Nat.eq_of_beq_eq_true h1)
      · exact .inr (ordB_spec hm h1)
    | succ k =>
      have := namesOk_spec hm os (j + 1) h.2 k x (by simpa using hk)
      have e : j + (k + 1) = j + 1 + k := by omega
      rw [e]
      exact this

theorem heapIdx_mem : ∀ (ops : List Oper) (i k : Nat) (o : Oper), ops[k]? = some o → heapOp o.op = true → i + k ∈ heapIdx i ops
  | [], _, _, _, h, _ => by simp at h
  | o :: os, i, 0, x, h, hh => by
    simp only [List.getElem?_cons_zero, Option.some.injEq] at h
    subst h
    simp [heapIdx, hh]
  | o :: os, i, k + 1, x, h, hh => by
    have := heapIdx_mem os (i + 1) k x (by simpa using h) hh
    have e : i + (k + 1) = i + 1 + k := by omega
    rw [e]
    unfold heapIdx
    cases heapOp o.op
    · exact this
    · exact List.mem_cons_of_mem _ this
theorem heapIdx_ge : ∀ (ops : List Oper) (i x : Nat), x ∈ heapIdx i ops → i ≤ x
  | [], _, _, h => by simp [heapIdx] at h
  | o :: os, i, x, h => by
    unfold heapIdx at h
    cases hh : heapOp o.op <;> simp only [hh, ift_false, ift_true, List.mem_cons] at h
    · have := heapIdx_ge os (i + 1) x h; omega
    · rcases h with rfl | h
      · exact Nat.le_refl _
      · have := heapIdx_ge os (i + 1) x h; omega

theorem chain_spec {all : List Oper} {m : T Nat} (hm : MasksOk all m) : ∀ (ops : List Oper) (i : Nat), chainB m (heapIdx i ops) = true →
    ∀ x ∈ heapIdx i ops, ∀ y ∈ heapIdx i ops, x < y → Ahead all x y
  | [], _, _, x, hx, _, _, _ => by simp [heapIdx] at hx
  | o :: os, i, h, x, hx, y, hy, hxy => by
    unfold heapIdx at h hx hy
    cases hh : heapOp o.op <;> simp only [hh, ift_false, ift_true, List.mem_cons] at h hx hy
    · exact chain_spec hm os (i + 1) h x hx y hy hxy
    · simp only [chainB, Bool.and_eq_true] at h
      rcases hx with rfl | hx
      · rcases hy with rfl | hy
        · omega
        · exact hm _ _ (allB_spec h.1 y hy)
      · rcases hy with rfl | hy
        · have := heapIdx_ge os (y + 1) x hx; omega
        · exact chain_spec hm os (i + 1) h.2 x hx y hy hxy

/-- What a region's text tells of its order. -/
structure Told (ops : List Oper) (n : Nat) (m : T Nat) : Prop where
  masks : MasksOk ops m
  back : ∀ k o, ops[k]? = some o → ∀ e ∈ o.after.toList, bindsB e = true → e.on < k
  names : ∀ k o, ops[k]? = some o → ∀ d ∈ namesOf ops o, d < n ∧ ∀ i x, ops[i]? = some x → x.dst = some d → i = k ∨ Ahead ops i k ∨ Ahead ops k i
  chain : ∀ i j x y, ops[i]? = some x → ops[j]? = some y → heapOp x.op = true → heapOp y.op = true → i < j → Ahead ops i j

theorem drawOk_spec {n : Nat} {ops : List Oper} {m : T Nat} (h : drawOk n ops = some m) : Told ops n m := by
  unfold drawOk at h
  cases hm : masksFrom 0 ops (T.mk 0 (depthOf 20 ops.length)) with
  | none => simp [hm] at h
  | some m' =>
    simp only [hm] at h
    cases hc : Nat.blt n (2 ^ depthOf 20 n) && namesOk ops n m' (writers 0 ops (T.mk [] (depthOf 20 n))) 0 ops && chainB m' (heapIdx 0 ops) <;>
      simp only [hc, ift_false, ift_true, Option.some.injEq, reduceCtorEq] at h
    subst h
    simp only [Bool.and_eq_true] at hc
    obtain ⟨⟨h1, h2⟩, h3⟩ := hc
    have h1 : n < 2 ^ depthOf 20 n := by simpa [Nat.blt_eq] using h1
    obtain ⟨m1, m2⟩ := masksFrom_spec (all := ops) ops 0 _ m' (by simp) (fun i j hb => by rw [T.get_mk, bit_zero] at hb; cases hb) hm
    refine ⟨m1, fun k o hk e he hb => by have := m2 k o hk e he hb; omega, fun k o hk d hd => ?_, fun i j x y hi hj hx hy hij => ?_⟩
    · obtain ⟨n1, n2⟩ := namesOk_spec m1 ops 0 h2 k o hk d hd
      rw [Nat.zero_add] at n2
      refine ⟨n1, fun i x hi hx => n2 i ?_⟩
      have := writers_spec ops 0 (T.mk [] (depthOf 20 n)) d i x ⟨_, T.full_mk _ _, by omega⟩ hi hx
      rwa [Nat.zero_add] at this
    · have a := heapIdx_mem ops 0 i x hi hx
      have b := heapIdx_mem ops 0 j y hj hy
      rw [Nat.zero_add] at a b
      exact chain_spec m1 ops 0 h3 i a j b hij

end Go.Proofs.YtmacjmofhaghbaaDoor.Sy
end
