/-
  A symbolic evaluator for the model's code: operators, conversions, what is built in.
-/
import Derived.Test.YtmacjmofhaghbaaDoorSyL
noncomputable section
namespace Go.Proofs.YtmacjmofhaghbaaDoor.Sy
open Go

section
variable {P : Program} {ρ : Env} {st : St} {w : World}

theorem run_intBits (k : IntKind) (x y : Int) :
    (Op.intBits .and k x y).run P w = .ok (.int k (binI .and k x y)) w ∧ (Op.intBits .or k x y).run P w = .ok (.int k (binI .or k x y)) w ∧
    (Op.intBits .xor k x y).run P w = .ok (.int k (binI .xor k x y)) w ∧ (Op.intBits .andNot k x y).run P w = .ok (.int k (binI .andNot k x y)) w := by
  refine ⟨?_, ?_, ?_, ?_⟩
  · simp only [Op.intBits, binI, wrapF_eq, toBits_eq, Sem.run_pure, BitVec.toNat_and]; rfl
  · simp only [Op.intBits, binI, wrapF_eq, toBits_eq, Sem.run_pure, BitVec.toNat_or]; rfl
  · simp only [Op.intBits, binI, wrapF_eq, toBits_eq, Sem.run_pure, BitVec.toNat_xor]; rfl
  · simp only [Op.intBits, binI, wrapF_eq, toBits_eq, Sem.run_pure, BitVec.toNat_and, kmod_eq]
    rw [← BitVec.xor_allOnes, BitVec.toNat_xor, BitVec.toNat_allOnes]; rfl

theorem run_shift (op : BinOp) (hop : op = .shl ∨ op = .shr) (k yk : IntKind) (x y : Int) (hy : ¬ y < 0) :
    (Op.shift op k x yk y).run P w = .ok (.int k (binI (match op with | .shl => .shl | _ => .shr) k x y)) w := by
  rcases hop with rfl | rfl
  · simp only [Op.shift, if_neg hy, Sem.run_pure, binI, wrapF_eq, kbits_eq, Int.natCast_pow, Int.cast_ofNat_Int]
  · simp only [Op.shift, if_neg hy, Sem.run_pure, binI, kbits_eq, Int.natCast_pow, Int.cast_ofNat_Int]

theorem run_eqGuard_one (op : BinOp) (t : TypeId) (ox oy : Operand) {a b : Value} (h1 : ¬ (a = .nilIface ∧ b = .nilIface)) (h2 : ∀ xs ys, ¬ (a = .agg xs ∧ b = .agg ys)) :
    (eqGuard op t ox oy a b).run P w = .ok () w := by
  have key : ∀ op, (op = .eql ∨ op = .neq) → (eqGuard op t ox oy a b).run P w = .ok () w := by
    intro op hop
    have : (eqGuard op t ox oy a b) = pure () := by
      rcases hop with rfl | rfl
      · unfold eqGuard
        simp only [Bool.not_true, Bool.false_eq_true, if_false]
        split
        · exact absurd ⟨rfl, rfl⟩ h1
        · exact absurd ⟨rfl, rfl⟩ (h2 _ _)
        · rfl
      · unfold eqGuard
        simp only [Bool.not_true, Bool.false_eq_true, if_false]
        split
        · exact absurd ⟨rfl, rfl⟩ h1
        · exact absurd ⟨rfl, rfl⟩ (h2 _ _)
        · rfl
    rw [this]; simp
  cases op
  case eql => exact key _ (.inl rfl)
  case neq => exact key _ (.inr rfl)
  all_goals rfl

theorem binInt_sound (hp : st.pc.holds ρ) (op : BinOp) (t : TypeId) {k k' : IntKind} {a b : E} (ha : a.ok ρ) (hb : b.ok ρ) :
    VS ρ st w ((binOp op t (.int k (a.den ρ)) (.int k' (b.den ρ))).run P w) (binR P st op t (.int k a) (.int k' b)) := by
  obtain ⟨a1, a2⟩ := PC.re2_spec hp ha
  obtain ⟨b1, b2⟩ := PC.re2_spec hp hb
  rw [← a1, ← b1]
  unfold binR
  dsimp only
  generalize st.pc.re2 a = a at a2
  generalize st.pc.re2 b = b at b2
  clear a1 b1 ha hb
  have bin : ∀ o : Bin, ∀ r : Result Value, r = .ok (.int k (binI o k (a.den ρ) (b.den ρ))) w → VS ρ st w r (.val (.int k (mkBin o k a b))) := by
    intro o r hr
    obtain ⟨m1, m2⟩ := mkBin_spec o k a2 b2
    exact ⟨by rw [hr]; simp only [V.den, m1], by simpa only [V.ok] using m2⟩
  have tst : ∀ (q : E) (x : Bool) (r : Result Value), q.ok ρ → (q.den ρ ≠ 0) = (x = true) → r = .ok (.bool x) w → VS ρ st w r (.val (.bool (st.pc.test q))) := by
    intro q x r hq hx hr
    obtain ⟨t1, t2⟩ := PC.test_spec hp hq
    refine ⟨?_, by simpa only [V.ok] using t2⟩
    rw [hr]
    simp only [V.den, Result.ok.injEq, Value.bool.injEq, and_true]
    rw [Bool.eq_iff_iff, decide_eq_true_eq, t1, hx]
  have tstN : ∀ (q : E) (x : Bool) (r : Result Value), q.ok ρ → (q.den ρ = 0) = (x = true) → r = .ok (.bool x) w → VS ρ st w r (.val (.bool (mkNot (st.pc.test q)))) := by
    intro q x r hq hx hr
    obtain ⟨t1, t2⟩ := PC.test_spec hp hq
    obtain ⟨n1, n2⟩ := mkNot_spec t2
    refine ⟨?_, by simpa only [V.ok] using n2⟩
    rw [hr]
    simp only [V.den, Result.ok.injEq, Value.bool.injEq, and_true]
    rw [Bool.eq_iff_iff, decide_eq_true_eq, n1, ← hx]
    have : ∀ p q : Prop, (¬ p) = (¬ q) → (q ↔ p) := fun p q h => by
      have := congrArg Not h; simpa using this.symm
    exact this _ _ t1
  cases op
  case shl =>
    dsimp only
    cases ht : st.pc.tell (.lt b (.lit 0)) with
    | none => exact ⟨b2, trivial⟩
    | some r =>
      cases r
      · have := tell_lt hp b2 (b := .lit 0) trivial ht
        simp only [E.den, Bool.false_eq_true, eq_iff_iff, iff_false] at this
        exact bin _ _ (by simp only [binOp]; exact run_shift .shl (.inl rfl) k k' _ _ this)
      · trivial
  case shr =>
    dsimp only
    cases ht : st.pc.tell (.lt b (.lit 0)) with
    | none => exact ⟨b2, trivial⟩
    | some r =>
      cases r
      · have := tell_lt hp b2 (b := .lit 0) trivial ht
        simp only [E.den, Bool.false_eq_true, eq_iff_iff, iff_false] at this
        exact bin _ _ (by simp only [binOp]; exact run_shift .shr (.inr rfl) k k' _ _ this)
      · trivial
  all_goals dsimp only
  all_goals (cases hk : keq k k' <;> simp only [Bool.not_false, Bool.not_true, ift_true, ift_false])
  all_goals first
    | trivial
    | (have hk' := (keq_iff _ _).1 hk
       subst hk')
  case add => exact bin _ _ (by simp [binOp, Op.intArith, binI, wrapF_eq])
  case sub => exact bin _ _ (by simp [binOp, Op.intArith, binI, wrapF_eq])
  case mul => exact bin _ _ (by simp [binOp, Op.intArith, binI, wrapF_eq])
  case and => exact bin _ _ (by simp only [binOp, ne_eq, not_true_eq_false, if_false]; exact (run_intBits k _ _).1)
  case or => exact bin _ _ (by simp only [binOp, ne_eq, not_true_eq_false, if_false]; exact (run_intBits k _ _).2.1)
  case xor => exact bin _ _ (by simp only [binOp, ne_eq, not_true_eq_false, if_false]; exact (run_intBits k _ _).2.2.1)
  case andNot => exact bin _ _ (by simp only [binOp, ne_eq, not_true_eq_false, if_false]; exact (run_intBits k _ _).2.2.2)
  case quo =>
    cases ht : st.pc.tell (.eq b (.lit 0)) with
    | none => exact ⟨b2, trivial⟩
    | some r =>
      cases r
      · have := tell_eq hp b2 (b := .lit 0) trivial ht
        simp only [E.den, Bool.false_eq_true, eq_iff_iff, iff_false] at this
        exact bin _ _ (by simp [binOp, Op.intDiv, binI, wrapF_eq, this])
      · trivial
  case rem =>
    cases ht : st.pc.tell (.eq b (.lit 0)) with
    | none => exact ⟨b2, trivial⟩
    | some r =>
      cases r
      · have := tell_eq hp b2 (b := .lit 0) trivial ht
        simp only [E.den, Bool.false_eq_true, eq_iff_iff, iff_false] at this
        exact bin _ _ (by simp [binOp, Op.intDiv, binI, this])
      · trivial
  case eql =>
    obtain ⟨t1, t2⟩ := eqL_spec hp b2 a2
    refine ⟨?_, by simpa only [V.ok] using t2⟩
    simp only [binOp, Op.intCmp, V.den]
    have e : decide ((eqL st.pc b a).den ρ ≠ 0) = (a.den ρ == b.den ρ) := by rw [Bool.eq_iff_iff, decide_eq_true_eq, t1]; simp
    rw [e]; simp
  case neq =>
    obtain ⟨t1, t2⟩ := eqL_spec hp b2 a2
    obtain ⟨n1, n2⟩ := mkNot_spec t2
    refine ⟨?_, by simpa only [V.ok] using n2⟩
    simp only [binOp, Op.intCmp, V.den]
    have e : decide ((mkNot (eqL st.pc b a)).den ρ ≠ 0) = (a.den ρ != b.den ρ) := by
      rw [Bool.eq_iff_iff, decide_eq_true_eq, n1]
      have : ∀ p q : Prop, (¬ p) = q → (p ↔ ¬ q) := fun p q h => by subst h; simp
      rw [this _ _ t1]; simp
    rw [e]; simp
  case lss => exact tst _ (decide (a.den ρ < b.den ρ)) _ (mkLt_spec a2 b2).2 (by rw [(mkLt_spec a2 b2).1]; simp) (by simp [binOp, Op.intCmp])
  case gtr => exact tst _ (decide (b.den ρ < a.den ρ)) _ (mkLt_spec b2 a2).2 (by rw [(mkLt_spec b2 a2).1]; simp) (by simp [binOp, Op.intCmp])
  case geq => exact tstN _ (decide (b.den ρ ≤ a.den ρ)) _ (mkLt_spec a2 b2).2 (by
      have := (mkLt_spec a2 b2).1
      by_cases h : a.den ρ < b.den ρ
      · have h' : ¬ b.den ρ ≤ a.den ρ := by omega
        simp only [h, eq_iff_iff, iff_true] at this
        simp [this, h']
      · have h' : b.den ρ ≤ a.den ρ := by omega
        simp only [h, eq_iff_iff, iff_false, ne_eq, Decidable.not_not] at this
        simp [this, h']) (by simp [binOp, Op.intCmp])
  case leq => exact tstN _ (decide (a.den ρ ≤ b.den ρ)) _ (mkLt_spec b2 a2).2 (by
      have := (mkLt_spec b2 a2).1
      by_cases h : b.den ρ < a.den ρ
      · have h' : ¬ a.den ρ ≤ b.den ρ := by omega
        simp only [h, eq_iff_iff, iff_true] at this
        simp [this, h']
      · have h' : a.den ρ ≤ b.den ρ := by omega
        simp only [h, eq_iff_iff, iff_false, ne_eq, Decidable.not_not] at this
        simp [this, h']) (by simp [binOp, Op.intCmp])

/-- What stands where two values of one cell are compared. -/
theorem eqCell_shape {u : TypeDesc} {pc : PC} {x y : V} {e : E} (h : eqCell u pc x y = some e) :
    (∃ k a k' b, x = .int k a ∧ y = .int k' b) ∨ (∃ a b, x = .bool a ∧ y = .bool b) ∨ (∃ p q, refK x = some p ∧ refK y = some q) ∨ (∃ a b, x = .str a ∧ y = .str b) := by
  unfold eqCell at h
  split at h
  · unfold eqInt at h
    cases x <;> simp only [reduceCtorEq] at h
    cases y <;> simp only [reduceCtorEq] at h
    exact .inl ⟨_, _, _, _, rfl, rfl⟩
  · unfold eqBool at h
    cases x <;> simp only [reduceCtorEq] at h
    cases y <;> simp only [reduceCtorEq] at h
    exact .inr (.inl ⟨_, _, rfl, rfl⟩)
  · unfold eqStr at h
    cases x <;> simp only [reduceCtorEq] at h
    cases y <;> simp only [reduceCtorEq] at h
    exact .inr (.inr (.inr ⟨_, _, rfl, rfl⟩))
  · unfold eqRef at h
    cases hx : refK x with
    | none => simp [hx] at h
    | some p =>
      cases hy : refK y with
      | none => simp [hx, hy] at h
      | some q => exact .inr (.inr (.inl ⟨p, q, rfl, rfl⟩))

theorem refK_not {x : V} {p : Nat × Bool} (h : refK x = some p) : x.den ρ ≠ .nilIface ∧ (∀ xs, x.den ρ ≠ .agg xs) := by
  obtain ⟨i, a⟩ := p
  rcases refK_spec (ρ := ρ) h with ⟨_, p, e, _⟩ | ⟨_, p, l, c, e, _⟩ | ⟨_, p, e, _⟩ | ⟨_, ⟨_, e⟩ | ⟨_, fn, f, c, e⟩⟩ <;> rw [e] <;> simp

theorem binRef {x y : V} {p q : Nat × Bool} (hx : refK x = some p) (hy : refK y = some q) (t : TypeId) :
    binOp .eql t (x.den ρ) (y.den ρ) = (do pure (.bool (← Op.equal t (x.den ρ) (y.den ρ)))) ∧ binOp .neq t (x.den ρ) (y.den ρ) = (do pure (.bool (!(← Op.equal t (x.den ρ) (y.den ρ))))) := by
  obtain ⟨i, a⟩ := p
  obtain ⟨j, b⟩ := q
  rcases refK_spec (ρ := ρ) hx with ⟨_, p, e, _⟩ | ⟨_, p, l, c, e, _⟩ | ⟨_, p, e, _⟩ | ⟨_, ⟨_, e⟩ | ⟨_, fn, f, c, e⟩⟩ <;>
    rcases refK_spec (ρ := ρ) hy with ⟨_, p', e', _⟩ | ⟨_, p', l', c', e', _⟩ | ⟨_, p', e', _⟩ | ⟨_, ⟨_, e'⟩ | ⟨_, fn', f', c', e'⟩⟩ <;> rw [e, e'] <;> exact ⟨rfl, rfl⟩

theorem eqNeq {e : E} (he : e.ok ρ) {r : Result Bool} (hr : r = .ok (e.is ρ) w) :
    VS ρ st w (r.andThen fun b w' => .ok (.bool b) w') (.val (.bool e)) ∧ VS ρ st w (r.andThen fun b w' => .ok (.bool (!b)) w') (.val (.bool (mkNot e))) := by
  rw [hr]
  obtain ⟨n1, n2⟩ := mkNot_spec he
  refine ⟨⟨rfl, by simpa only [V.ok] using he⟩, ⟨?_, by simpa only [V.ok] using n2⟩⟩
  simp only [Result.andThen_ok, V.den, Result.ok.injEq, Value.bool.injEq, and_true, E.is]
  rw [Bool.eq_iff_iff, decide_eq_true_eq, n1]
  simp

theorem bytes_data (s : ByteArray) : s.toList = s.data.toList := by
  have h : ∀ (n i : Nat) (acc : List UInt8), s.size - i = n → ByteArray.toList.loop s i acc = acc.reverse ++ s.data.toList.drop i := by
    intro n
    induction n with
    | zero =>
      intro i acc hn
      unfold ByteArray.toList.loop
      rw [if_neg (by omega), List.drop_eq_nil_of_le (by rw [Array.length_toList]; show s.size ≤ i; omega), List.append_nil]
    | succ n ih =>
      intro i acc hn
      have hlt : i < s.size := by omega
      unfold ByteArray.toList.loop
      rw [if_pos hlt, ih (i + 1) _ (by omega)]
      have hl : i < s.data.toList.length := by rw [Array.length_toList]; exact hlt
      rw [List.drop_eq_getElem_cons hl]
      have : s.get! i = s.data.toList[i] := by
        show s.data[i]! = _
        have hd : i < s.data.size := hlt
        rw [getElem!_pos s.data i hd]; simp
      rw [this]; simp
  have := h s.size 0 [] (by omega)
  simpa [ByteArray.toList] using this

theorem binStr_sound (hp : st.pc.holds ρ) (op : BinOp) (t : TypeId) (ox oy : Operand) {a b : List E} (hx : (V.str a).ok ρ) (hy : (V.str b).ok ρ) :
    VS ρ st w ((do eqGuard op t ox oy ((V.str a).den ρ) ((V.str b).den ρ); binOp op t ((V.str a).den ρ) ((V.str b).den ρ) : Sem Value).run P w) (match op with
    | .add => (match P.underlying t with
      | some .string => ift (Nat.ble (a.length + b.length) 1000000) (.val (.str (a ++ b))) <| .fail 60
      | _ => .fail 60)
    | .eql | .neq => (match P.underlying t with
      | some .string => (match eqStr st.pc (.str a) (.str b) with
        | some e => .val (.bool (match op with | .eql => e | _ => mkNot e))
        | none => .fail 57)
      | _ => .fail 58)
    | _ => .fail 59) := by
  have eqs : ∀ {e : E}, eqStr st.pc (.str a) (.str b) = some e →
      VS ρ st w ((do eqGuard .eql t ox oy ((V.str a).den ρ) ((V.str b).den ρ); binOp .eql t ((V.str a).den ρ) ((V.str b).den ρ) : Sem Value).run P w) (.val (.bool e)) ∧
      VS ρ st w ((do eqGuard .neq t ox oy ((V.str a).den ρ) ((V.str b).den ρ); binOp .neq t ((V.str a).den ρ) ((V.str b).den ρ) : Sem Value).run P w) (.val (.bool (mkNot e))) := by
    intro e he
    obtain ⟨s, u, h1, h2, h3, h4⟩ := eqStr_spec hp hx hy he
    have hn := eqNeq (st := st) (w := w) h4 (r := .ok (e.is ρ) w) rfl
    have hb : (s.toList == u.toList) = e.is ρ := by
      unfold E.is
      rw [h3, bytes_data, bytes_data, Bool.eq_iff_iff, beq_iff_eq, MapKept.bytes_beq]
      constructor
      · intro h; apply ByteArray.ext; exact Array.toList_inj.1 h
      · intro h; rw [h]
    rw [h1, h2]
    simp only [Sem.run_bind]
    rw [run_eqGuard_one .eql t ox oy (by simp) (by simp), run_eqGuard_one .neq t ox oy (by simp) (by simp)]
    simp only [Result.andThen_ok]
    have b1 : binOp .eql t (.string s) (.string u) = Op.stringOp .eql s u := rfl
    have b2 : binOp .neq t (.string s) (.string u) = Op.stringOp .neq s u := rfl
    rw [b1, b2]
    simp only [Op.stringOp, Sem.run_pure, hb]
    exact hn
  cases op <;> try exact trivial
  case add =>
    dsimp only
    split
    · apply ift_VS
      · intro hc
        rw [Nat.ble_eq] at hc
        refine ⟨?_, ?_⟩
        · simp only [V.den, Sem.run_bind]
          rw [run_eqGuard_one .add t ox oy (by simp) (by simp)]
          simp only [Result.andThen_ok]
          have b1 : ∀ s u : ByteArray, binOp .add t (.string s) (.string u) = Op.stringOp .add s u := fun _ _ => rfl
          rw [b1]
          have hsz : ¬ (((ByteArray.mk (a.map fun e => UInt8.ofNat (e.den ρ).toNat).toArray).size + (ByteArray.mk (b.map fun e => UInt8.ofNat (e.den ρ).toNat).toArray).size : Nat) : Int) > IntKind.i64.max := by
            rw [str_size, str_size]
            have : (IntKind.i64.max : Int) = 9223372036854775807 := by decide
            rw [this]; omega
          simp only [Op.stringOp, if_neg hsz, Sem.run_pure]
          congr 2
          apply ByteArray.ext
          simp
        · simp only [V.ok] at hx hy ⊢
          intro e he
          rcases List.mem_append.1 he with he | he
          · exact hx e he
          · exact hy e he
      · intro _; trivial
    · trivial
  case eql =>
    dsimp only
    split
    · cases he : eqStr st.pc (.str a) (.str b) with
      | none => trivial
      | some e => exact (eqs he).1
    · trivial
  case neq =>
    dsimp only
    split
    · cases he : eqStr st.pc (.str a) (.str b) with
      | none => trivial
      | some e => exact (eqs he).2
    · trivial

theorem binR_sound (hp : st.pc.holds ρ) (op : BinOp) (t : TypeId) (ox oy : Operand) {x y : V} (hx : x.ok ρ) (hy : y.ok ρ) :
    VS ρ st w ((do eqGuard op t ox oy (x.den ρ) (y.den ρ); binOp op t (x.den ρ) (y.den ρ) : Sem Value).run P w) (binR P st op t x y) := by
  by_cases hi : ∃ k a k' b, x = .int k a ∧ y = .int k' b
  · obtain ⟨k, a, k', b, rfl, rfl⟩ := hi
    simp only [V.ok] at hx hy
    simp only [V.den, Sem.run_bind]
    rw [run_eqGuard_one op t ox oy (by simp) (by simp)]
    exact binInt_sound hp op t hx hy
  · unfold binR
    split
    · exact binStr_sound hp op t ox oy hx hy
    · exact absurd ⟨_, _, _, _, rfl, rfl⟩ hi
    · rename_i hst _
      have main : ∀ x y : V, x.ok ρ → y.ok ρ → (¬ ∃ k a k' b, x = .int k a ∧ y = .int k' b) → (∀ a b, x = .str a → y = .str b → False) →
          VS ρ st w ((do eqGuard .eql t ox oy (x.den ρ) (y.den ρ); binOp .eql t (x.den ρ) (y.den ρ) : Sem Value).run P w) (match P.underlying t with
            | some u => match eqCell u st.pc x y with
              | some e => .val (.bool e)
              | none => .fail 57
            | none => .fail 58) ∧
          VS ρ st w ((do eqGuard .neq t ox oy (x.den ρ) (y.den ρ); binOp .neq t (x.den ρ) (y.den ρ) : Sem Value).run P w) (match P.underlying t with
            | some u => match eqCell u st.pc x y with
              | some e => .val (.bool (mkNot e))
              | none => .fail 57
            | none => .fail 58) := by
        intro x y hx hy hi hst
        cases hu : P.underlying t with
        | none => exact ⟨trivial, trivial⟩
        | some u =>
          dsimp only
          cases he : eqCell u st.pc x y with
          | none => exact ⟨trivial, trivial⟩
          | some e =>
            dsimp only
            obtain ⟨h1, h2⟩ := eqCell_sound (w := w) (D := 9999) hp hu hx hy he
            have hn := eqNeq (st := st) h2 h1
            rcases eqCell_shape he with h | ⟨a, b, rfl, rfl⟩ | ⟨p, q, hp1, hq1⟩ | ⟨a, b, h1, h2⟩
            · exact absurd h hi
            · simp only [V.den, Sem.run_bind]
              rw [run_eqGuard_one .eql t ox oy (by simp) (by simp), run_eqGuard_one .neq t ox oy (by simp) (by simp)]
              simp only [Result.andThen_ok, binOp, Sem.run_bind, Sem.run_pure, Op.equal, Op.maxDepth]
              exact hn
            · obtain ⟨x1, x2⟩ := refK_not (ρ := ρ) hp1
              obtain ⟨y1, y2⟩ := refK_not (ρ := ρ) hq1
              obtain ⟨b1, b2⟩ := binRef (ρ := ρ) hp1 hq1 t
              simp only [Sem.run_bind]
              rw [run_eqGuard_one .eql t ox oy (fun h => x1 h.1) (fun xs ys h => x2 _ h.1), run_eqGuard_one .neq t ox oy (fun h => x1 h.1) (fun xs ys h => x2 _ h.1), b1, b2]
              simp only [Result.andThen_ok, Sem.run_bind, Sem.run_pure, Op.equal, Op.maxDepth]
              exact hn
            · exact absurd h2 (fun h => hst a b h1 h)
      have agg : ∀ xs ys : List V, V.oks ρ xs → V.oks ρ ys →
          VS ρ st w ((do eqGuard .eql t ox oy ((V.agg xs).den ρ) ((V.agg ys).den ρ); binOp .eql t ((V.agg xs).den ρ) ((V.agg ys).den ρ) : Sem Value).run P w)
            (ift (P.eqGuardType P.depth t) (.fail 55) <| match eqT P st.pc 1000 t (.agg xs) (.agg ys) with
              | some e => .val (.bool e)
              | none => .fail 56) ∧
          VS ρ st w ((do eqGuard .neq t ox oy ((V.agg xs).den ρ) ((V.agg ys).den ρ); binOp .neq t ((V.agg xs).den ρ) ((V.agg ys).den ρ) : Sem Value).run P w)
            (ift (P.eqGuardType P.depth t) (.fail 55) <| match eqT P st.pc 1000 t (.agg xs) (.agg ys) with
              | some e => .val (.bool (mkNot e))
              | none => .fail 56) := by
        intro xs ys hxs hys
        cases hg : P.eqGuardType P.depth t
        · simp only [ift_false]
          cases he : eqT P st.pc 1000 t (.agg xs) (.agg ys) with
          | none => exact ⟨trivial, trivial⟩
          | some e =>
            obtain ⟨h1, h2⟩ := (eq_sound (P := P) (w := w) hp 1000).1 10000 t (.agg xs) (.agg ys) e (by omega) (by simpa only [V.ok] using hxs) (by simpa only [V.ok] using hys) he
            simp only [V.den] at h1
            have hn := eqNeq (st := st) h2 h1
            simp only [V.den, Sem.run_bind]
            rw [run_eqGuard_agg w .eql t ox oy _ _ hg, run_eqGuard_agg w .neq t ox oy _ _ hg]
            simp only [Result.andThen_ok, run_eql_struct, run_neq_struct]
            exact hn
        · exact ⟨trivial, trivial⟩
      cases op
      case eql =>
        dsimp only
        split
        · simp only [V.ok] at hx hy
          exact (agg _ _ hx hy).1
        · exact (main _ _ hx hy hi hst).1
      case neq =>
        dsimp only
        split
        · simp only [V.ok] at hx hy
          exact (agg _ _ hx hy).2
        · exact (main _ _ hx hy hi hst).2
      all_goals trivial

end
end Go.Proofs.YtmacjmofhaghbaaDoor.Sy
end
