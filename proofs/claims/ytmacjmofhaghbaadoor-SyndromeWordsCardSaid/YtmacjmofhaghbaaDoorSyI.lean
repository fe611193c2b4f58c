/-
  A symbolic evaluator for the model's code: what one operation does is what the model does: addresses, parts, slices, makes, builds.
-/
import Derived.Test.YtmacjmofhaghbaaDoorSyH
noncomputable section
namespace Go.Proofs.YtmacjmofhaghbaaDoor.Sy
open Go

section
variable {P : Program} {ρ : Env} {st : St} {w : World}

theorem ne_lt (a b : E) (ρ : Env) : ((E.lt a b).den ρ ≠ 0) = (a.den ρ < b.den ρ) := by
  simp only [E.den]; by_cases h : a.den ρ < b.den ρ <;> simp [h]
theorem ne_eq' (a b : E) (ρ : Env) : ((E.eq a b).den ρ ≠ 0) = (a.den ρ = b.den ρ) := by
  simp only [E.den]; by_cases h : a.den ρ = b.den ρ <;> simp [h]

theorem tell_lt {pc : PC} (hp : pc.holds ρ) {a b : E} (ha : a.ok ρ) (hb : b.ok ρ) {r : Bool} (h : pc.tell (.lt a b) = some r) : (a.den ρ < b.den ρ) = (r = true) := by
  have := PC.tell_spec hp (e := .lt a b) ⟨ha, hb⟩ h
  rwa [ne_lt] at this
theorem tell_eq {pc : PC} (hp : pc.holds ρ) {a b : E} (ha : a.ok ρ) (hb : b.ok ρ) {r : Bool} (h : pc.tell (.eq a b) = some r) : (a.den ρ = b.den ρ) = (r = true) := by
  have := PC.tell_spec hp (e := .eq a b) ⟨ha, hb⟩ h
  rwa [ne_eq'] at this

theorem inside_spec {pc : PC} (hp : pc.holds ρ) {i n : E} (hi : i.ok ρ) (hn : n.ok ρ) (h : inside pc i n = some true) : 0 ≤ i.den ρ ∧ i.den ρ < n.den ρ := by
  unfold inside at h
  cases h1 : pc.tell (.lt i (.lit 0)) with
  | none => simp [h1] at h
  | some r =>
    cases r
    · simp only [h1] at h
      have e1 := tell_lt hp hi (b := .lit 0) trivial h1
      have e2 := tell_lt hp hi hn h
      simp only [E.den, Bool.false_eq_true, eq_iff_iff, iff_false, iff_true] at e1 e2
      omega
    · simp [h1] at h
theorem insideAsk_ok {pc : PC} {i n : E} (hi : i.ok ρ) (hn : n.ok ρ) : (insideAsk pc i n).ok ρ := by
  unfold insideAsk
  split
  · exact ⟨hi, trivial⟩
  · exact ⟨hi, hn⟩

theorem addrR_spec {pc : PC} (hp : pc.holds ρ) {b : B} {o s : Nat} {i : E} (hi : i.ok ρ) (h0 : 0 ≤ i.den ρ) :
    (addrR pc b o i s).den ρ = .pointer (some ⟨b.no ρ, o + (i.den ρ).toNat * s, none⟩) ∧ (addrR pc b o i s).ok ρ := by
  obtain ⟨e1, e2⟩ := PC.re_spec hp hi
  unfold addrR
  cases hr : pc.re i with
  | lit n => rw [hr] at e1; simp only [V.den, V.ok, ← e1, E.den, and_self]
  | _ => simp only [V.den, V.ok, Nat.add_zero]; exact ⟨trivial, hi, h0⟩

theorem indexAddrR_sound (hp : st.pc.holds ρ) (t : TypeId) {x i : V} (hx : x.ok ρ) (hi : i.ok ρ) :
    VS ρ st w ((Instr.indexAt t (x.den ρ) (i.den ρ)).run P w) (indexAddrR P st t x i) := by
  unfold indexAddrR
  cases i with
  | int k i =>
    simp only [V.ok] at hi
    dsimp only
    obtain ⟨hn, ho⟩ := normP_spec hp hx
    rw [← hn]
    cases hu : P.underlying t with
    | none => trivial
    | some d =>
      cases hv : normP st.pc x with
      | ptr b o =>
        cases d <;> try trivial
        case array n e =>
          dsimp only
          cases hs : sizeT P e with
          | none => trivial
          | some s =>
            dsimp only
            cases hin : inside st.pc i (.lit n) with
            | none => exact insideAsk_ok hi trivial
            | some r =>
              cases r
              · trivial
              · obtain ⟨h0, h1⟩ := inside_spec hp hi (n := .lit n) trivial hin
                simp only [E.den] at h1
                obtain ⟨a1, a2⟩ := addrR_spec hp (b := b) (o := o) (s := s) hi h0
                refine ⟨?_, a2⟩
                simp [Instr.indexAt, asIntOf, V.den, run_underlying hu, Instr.sureAddr, h0, h1, run_sizeT hs, a1, Addr.add_none]
      | slice b o len cap =>
        rw [hv] at ho
        simp only [V.ok] at ho
        cases d <;> try trivial
        case slice e =>
          dsimp only
          cases hs : sizeT P e with
          | none => trivial
          | some s =>
            dsimp only
            cases hin : inside st.pc i len with
            | none => exact insideAsk_ok hi ho.1
            | some r =>
              cases r
              · trivial
              · obtain ⟨h0, h1⟩ := inside_spec hp hi ho.1 hin
                obtain ⟨a1, a2⟩ := addrR_spec hp (b := b) (o := o) (s := s) hi h0
                refine ⟨?_, a2⟩
                have h2 : ((len.den ρ).toNat : Int) = len.den ρ := by omega
                simp only [Instr.indexAt, asIntOf, V.den, run_underlying hu, Sem.run_bind, Sem.run_pure, Result.andThen_ok, Sem.run_ite, h2, h0, h1, and_self, if_true, run_sizeT hs, a1, Addr.add_none]
      | dptr b base j s u =>
        rw [hv] at ho
        simp only [V.ok] at ho
        cases d <;> try trivial
        exact idxAsk_ok ho.1 80 _
      | _ => cases d <;> trivial
  | _ => trivial

theorem ift_VS {r : Result Value} {c : Bool} {x y : R} (h1 : c = true → VS ρ st w r x) (h2 : c = false → VS ρ st w r y) : VS ρ st w r (ift c x y) := by
  cases c
  · exact h2 rfl
  · exact h1 rfl
theorem bytes_get {es : List E} {j : Nat} {e : E} (h : es[j]? = some e) (ho : 0 ≤ e.den ρ ∧ e.den ρ ≤ 255) :
    (ByteArray.mk (es.map fun e => UInt8.ofNat (e.den ρ).toNat).toArray)[j]? = some (UInt8.ofNat (e.den ρ).toNat) ∧ ((UInt8.ofNat (e.den ρ).toNat).toNat : Int) = e.den ρ := by
  refine ⟨?_, ?_⟩
  · have hlt : j < es.length := (List.getElem?_eq_some_iff.1 h).1
    have he := (List.getElem?_eq_some_iff.1 h).2
    have hsz : j < (ByteArray.mk (es.map fun e => UInt8.ofNat (e.den ρ).toNat).toArray).size := by simpa [ByteArray.size] using hlt
    rw [getElem?_pos _ j hsz]
    simp [ByteArray.getElem_eq_getElem_data, he]
  · have : (e.den ρ).toNat < 256 := by omega
    simp [Nat.mod_eq_of_lt this]; omega

theorem indexS_sound (hp : st.pc.holds ρ) {t : TypeId} (hu : P.underlying t = some .string) {es : List E} (hx : (V.str es).ok ρ) {k : IntKind} {i : E} (hi : i.ok ρ) :
    VS ρ st w ((Instr.index t ((V.str es).den ρ) (.int k (i.den ρ))).run P w) (indexS st.pc es i) := by
  unfold indexS
  simp only [V.ok] at hx
  cases hin : inside st.pc i (.lit es.length) with
  | none => exact insideAsk_ok hi trivial
  | some r =>
    cases r
    · trivial
    · dsimp only
      obtain ⟨h0, h1⟩ := inside_spec hp hi (n := .lit es.length) trivial hin
      simp only [E.den] at h1
      obtain ⟨e1, e2⟩ := PC.re_spec hp hi
      have main : ∀ (e x : E), es[(i.den ρ).toNat]? = some e → x.den ρ = e.den ρ → x.ok ρ →
          VS ρ st w ((Instr.index t ((V.str es).den ρ) (.int k (i.den ρ))).run P w) (.val (.int .u8 x)) := by
        intro e x he hd hok
        obtain ⟨o1, o2⟩ := hx e (List.mem_of_getElem? he)
        obtain ⟨b1, b2⟩ := bytes_get (ρ := ρ) he o2
        refine ⟨?_, by simpa only [V.ok] using hok⟩
        simp [Instr.index, asIntOf, V.den, run_underlying hu, h0, b1, hd]
        omega
      have hrg := E.rng e2
      rw [e1] at hrg
      generalize st.pc.re i = j at e1 e2 hrg ⊢
      have sym : VS ρ st w ((Instr.index t ((V.str es).den ρ) (.int k (i.den ρ))).run P w)
          (ift (ile 0 j.lo && Nat.ble (j.lo.toNat + (j.hi - j.lo + 1).toNat) es.length) (.val (.int .u8 (pickE st.pc i j.lo.toNat ((es.drop j.lo.toNat).take (j.hi - j.lo + 1).toNat)))) (.fail 38)) := by
        apply ift_VS
        · intro hc
          simp only [Bool.and_eq_true, ile_iff, Nat.ble_eq] at hc
          obtain ⟨c1, c2⟩ := hc
          obtain ⟨x, p1, p2, p3⟩ := pickE_spec hp hi (es := (es.drop j.lo.toNat).take (j.hi - j.lo + 1).toNat) (j := j.lo.toNat) (fun e he => (hx e (List.mem_of_mem_drop (List.mem_of_mem_take he))).1) (by omega)
            (by rw [List.length_take, List.length_drop]; omega)
          rw [List.getElem?_take] at p1
          split at p1
          · rw [List.getElem?_drop] at p1
            refine main x _ ?_ p2 p3
            rw [← p1]; congr 1; omega
          · cases p1
        · intro _; trivial
      cases j with
      | lit j =>
        simp only [E.den] at e1
        dsimp only
        cases he : es[j.toNat]? with
        | none => trivial
        | some e =>
          rw [e1] at he
          exact main e e he rfl (hx e (List.mem_of_getElem? he)).1
      | _ => exact sym

theorem indexR_sound (hp : st.pc.holds ρ) (t : TypeId) {x i : V} (hx : x.ok ρ) (hi : i.ok ρ) :
    VS ρ st w ((Instr.index t (x.den ρ) (i.den ρ)).run P w) (indexR P st t x i) := by
  unfold indexR
  cases i with
  | int k i =>
    simp only [V.ok] at hi
    dsimp only
    obtain ⟨e1, e2⟩ := PC.re_spec hp hi
    cases hu : P.underlying t with
    | none => trivial
    | some d =>
      cases x with
      | agg cs =>
        simp only [V.ok] at hx
        cases d <;> try trivial
        case array n e =>
          dsimp only
          cases hs : sizeT P e with
          | none => trivial
          | some s =>
            dsimp only
            cases hin : inside st.pc i (.lit n) with
            | none => exact insideAsk_ok hi trivial
            | some r =>
              cases r
              · trivial
              · dsimp only
                obtain ⟨h0, h1⟩ := inside_spec hp hi (n := .lit n) trivial hin
                simp only [E.den] at h1
                have need : ∀ n, (idxAsk st.pc i 80 n).ok ρ := fun n => idxAsk_ok hi 80 n
                cases hr : st.pc.re i with
                | lit j =>
                  rw [hr] at e1
                  simp only [E.den] at e1
                  dsimp only
                  cases hpv : partV P e cs (j.toNat * s) with
                  | none => trivial
                  | some v =>
                    refine ⟨?_, partV_ok hpv hx⟩
                    have hrun := run_part (P := P) (w := w) (ρ := ρ) hpv
                    rw [e1] at hrun
                    simp [Instr.index, asIntOf, V.den, run_underlying hu, h0, h1, run_sizeT hs, hrun]
                | _ => exact need _
      | str es =>
        cases d <;> try trivial
        dsimp only
        exact indexS_sound hp hu hx hi
      | _ => cases d <;> trivial
  | _ => trivial

theorem fieldAddrR_sound (t : TypeId) {x : V} (hx : x.ok ρ) (f : Nat) :
    VS ρ st w ((Instr.fieldAt t (x.den ρ) f).run P w) (fieldAddrR P t x f) := by
  unfold fieldAddrR
  cases hf : fieldOf P t f with
  | none => trivial
  | some fd =>
    obtain ⟨fs, hu, hfs⟩ := fieldOf_spec hf
    dsimp only
    cases hs : sizeT P fd.type with
    | none => trivial
    | some s =>
      cases s with
      | zero => trivial
      | succ s =>
        cases x with
        | ptr b o =>
          refine ⟨?_, by simp only [V.ok]⟩
          simp [Instr.fieldAt, run_underlying hu, hfs, Instr.sureAddr, V.den, fieldPlace, run_sizeT hs, Addr.add_none]
        | dptr b base i st' u =>
          refine ⟨?_, by simpa only [V.ok] using hx⟩
          simp [Instr.fieldAt, run_underlying hu, hfs, Instr.sureAddr, V.den, fieldPlace, run_sizeT hs, Addr.add_none, Nat.add_assoc]
        | _ => trivial

theorem fieldR_sound (t : TypeId) {x : V} (hx : x.ok ρ) (f : Nat) :
    VS ρ st w ((Instr.field t (x.den ρ) f).run P w) (fieldR P t x f) := by
  unfold fieldR
  cases hf : fieldOf P t f with
  | none => trivial
  | some fd =>
    obtain ⟨fs, hu, hfs⟩ := fieldOf_spec hf
    cases x with
    | agg cs =>
      simp only [V.ok] at hx
      dsimp only
      cases hpv : partV P fd.type cs fd.offset with
      | none => trivial
      | some v =>
        refine ⟨?_, partV_ok hpv hx⟩
        simp [Instr.field, run_underlying hu, hfs, asAgg, V.den, run_part (P := P) (w := w) (ρ := ρ) hpv]
    | _ => trivial

/-! ## slice expressions -/
theorem boundR_spec {pc : PC} (hp : pc.holds ρ) {m d : E} (hm : m.ok ρ) (hd : d.ok ρ) {v : Option V} (hv : ∀ x, v = some x → x.ok ρ) :
    match boundR pc m v d with
    | .inl e => e.ok ρ ∧ (match v with | none => e = d | some x => ∃ k, x = .int k e ∧ 0 ≤ e.den ρ ∧ e.den ρ ≤ m.den ρ)
    | .inr (.need q) => q.ok ρ
    | .inr (.fail _) => True
    | .inr _ => False := by
  unfold boundR
  cases v with
  | none => exact ⟨hd, rfl⟩
  | some x =>
    have hx := hv x rfl
    cases x with
    | int k e =>
      simp only [V.ok] at hx
      dsimp only
      cases h1 : pc.tell (.lt e (.lit 0)) with
      | none => exact ⟨hx, trivial⟩
      | some r =>
        cases r
        · dsimp only
          cases h2 : pc.tell (.lt m e) with
          | none => exact ⟨hm, hx⟩
          | some q =>
            cases q
            · have e1 := tell_lt hp hx (b := .lit 0) trivial h1
              have e2 := tell_lt hp hm hx h2
              simp only [E.den, Bool.false_eq_true, eq_iff_iff, iff_false] at e1 e2
              exact ⟨hx, k, rfl, by omega, by omega⟩
            · trivial
        · trivial
    | _ => trivial

theorem less_spec {pc : PC} (hp : pc.holds ρ) {n : Int} {x : E} (hx : x.ok ρ) (h0 : 0 ≤ n) (h1 : n ≤ x.den ρ) (hm : (pc.re x).hi ≤ kmax .i64) :
    (less pc n x).den ρ = x.den ρ - n ∧ (less pc n x).ok ρ := by
  unfold less
  cases h : ieq n 0
  · simp only [ift_false]
    obtain ⟨e1, e2⟩ := PC.re_spec hp hx
    obtain ⟨m1, m2⟩ := mkBin_spec .sub .i64 e2 (b := .lit n) (ρ := ρ) trivial
    refine ⟨?_, m2⟩
    have hr := E.rng e2
    have hk : kmax .i64 = 9223372036854775807 := rfl
    have hk' : kmin .i64 = -9223372036854775808 := rfl
    rw [m1, e1]
    simp only [E.den, binI]
    rw [wrapF_id (by omega) (by omega)]
  · have := (ieq_iff _ _).1 h
    subst this
    simp only [ift_true, Int.sub_zero]; exact ⟨trivial, hx⟩

theorem run_sliceBound {k : IntKind} {i : Int} {y : Nat} {code : BoundsCode} (h0 : 0 ≤ i) (h1 : i ≤ y) :
    (Instr.sliceBound (.int k i) y code).run P w = .ok i.toNat w := by
  simp [Instr.sliceBound, asIntOf, h0, h1]

theorem run_sliceBounds (isSlice : Bool) (L C m h l : Nat) (mx hi lo : Option Value)
    (hm : match mx with | none => m = C | some v => ∃ k i, v = .int k i ∧ 0 ≤ i ∧ i ≤ (C : Int) ∧ m = i.toNat)
    (hh : match hi with | none => h = L ∧ mx = none | some v => ∃ k i, v = .int k i ∧ 0 ≤ i ∧ i ≤ (m : Int) ∧ h = i.toNat)
    (hl : match lo with | none => l = 0 | some v => ∃ k i, v = .int k i ∧ 0 ≤ i ∧ i ≤ (h : Int) ∧ l = i.toNat) :
    (Instr.sliceBounds isSlice L C lo hi mx).run P w = .ok (l, h, m) w := by
  cases mx with
  | none =>
    simp only at hm
    subst hm
    cases hi with
    | none =>
      obtain ⟨rfl, _⟩ := hh
      cases lo with
      | none => simp only at hl; subst hl; simp [Instr.sliceBounds]
      | some v =>
        obtain ⟨k, i, rfl, h0, h1, rfl⟩ := hl
        simp [Instr.sliceBounds, run_sliceBound h0 h1]
    | some y =>
      obtain ⟨k', i', rfl, h0', h1', rfl⟩ := hh
      cases lo with
      | none => simp only at hl; subst hl; simp [Instr.sliceBounds, run_sliceBound h0' h1']
      | some v =>
        obtain ⟨k, i, rfl, h0, h1, rfl⟩ := hl
        simp [Instr.sliceBounds, run_sliceBound h0 h1, run_sliceBound h0' h1']
  | some x =>
    obtain ⟨k2, i2, rfl, h02, h12, rfl⟩ := hm
    cases hi with
    | none => exact absurd hh.2 (by simp)
    | some y =>
      obtain ⟨k', i', rfl, h0', h1', rfl⟩ := hh
      cases lo with
      | none => simp only at hl; subst hl; simp [Instr.sliceBounds, run_sliceBound h02 h12, run_sliceBound h0' h1']
      | some v =>
        obtain ⟨k, i, rfl, h0, h1, rfl⟩ := hl
        simp [Instr.sliceBounds, run_sliceBound h0 h1, run_sliceBound h0' h1', run_sliceBound h02 h12]

theorem sliceRow_sound {pc : PC} (hp : pc.holds ρ) {b : B} {o s : Nat} {len cap : E} (hl : len.ok ρ) (hc : cap.ok ρ) (hl0 : 0 ≤ len.den ρ) (hlc : len.den ρ ≤ cap.den ρ)
    {lo hi mx : Option V} (h1 : ∀ x, lo = some x → x.ok ρ) (h2 : ∀ x, hi = some x → x.ok ρ) (h3 : ∀ x, mx = some x → x.ok ρ) (isSlice : Bool) {r : Result Value}
    (hrun : ∀ l h m : Nat, (Instr.sliceBounds isSlice (len.den ρ).toNat (cap.den ρ).toNat (lo.map (V.den ρ)) (hi.map (V.den ρ)) (mx.map (V.den ρ))).run P w = .ok (l, h, m) w →
      r = .ok (.slice (if m = l then some ⟨b.no ρ, o, none⟩ else some ((⟨b.no ρ, o, none⟩ : Addr).add (l * s))) (h - l) (m - l)) w) :
    VS ρ st w r (sliceRow pc b o s len cap lo hi mx) := by
  unfold sliceRow
  cases hmh : mx.isSome && hi.isNone
  · simp only [ift_false]
    have s1 := boundR_spec hp hc hc h3
    cases hb1 : boundR pc cap mx cap with
    | inr q => rw [hb1] at s1; cases q <;> first | exact s1 | trivial
    | inl m =>
      rw [hb1] at s1
      obtain ⟨hm, s1⟩ := s1
      dsimp only
      have s2 := boundR_spec hp hm hl h2
      cases hb2 : boundR pc m hi len with
      | inr q => rw [hb2] at s2; cases q <;> first | exact s2 | trivial
      | inl h =>
        rw [hb2] at s2
        obtain ⟨hh, s2⟩ := s2
        dsimp only
        have s3 := boundR_spec hp hh (d := .lit 0) trivial h1
        cases hb3 : boundR pc h lo (.lit 0) with
        | inr q => rw [hb3] at s3; cases q <;> first | exact s3 | trivial
        | inl l =>
          rw [hb3] at s3
          obtain ⟨hlo, s3⟩ := s3
          dsimp only
          obtain ⟨e1, e2⟩ := PC.re_spec hp hlo
          have need : ∀ n, (E.eq l (.lit n)).ok ρ := fun n => ⟨hlo, trivial⟩
          -- the numbers
          have hmle : 0 ≤ m.den ρ ∧ (hi = none → len.den ρ ≤ m.den ρ) := by
            cases mx with
            | none => simp only at s1; subst s1; exact ⟨by omega, fun _ => hlc⟩
            | some x =>
              obtain ⟨k, _, q1, q2⟩ := s1
              refine ⟨q1, fun e => ?_⟩
              subst e; simp at hmh
          have hhle : 0 ≤ h.den ρ ∧ h.den ρ ≤ m.den ρ := by
            cases hi with
            | none => simp only at s2; subst s2; exact ⟨hl0, hmle.2 rfl⟩
            | some x => obtain ⟨k, _, q1, q2⟩ := s2; exact ⟨q1, q2⟩
          have hlle : 0 ≤ l.den ρ ∧ l.den ρ ≤ h.den ρ := by
            cases lo with
            | none => simp only at s3; subst s3; exact ⟨Int.le_refl _, hhle.1⟩
            | some x => obtain ⟨k, _, q1, q2⟩ := s3; exact ⟨q1, q2⟩
          have hb := hrun (l.den ρ).toNat (h.den ρ).toNat (m.den ρ).toNat (by
            refine run_sliceBounds isSlice _ _ _ _ _ _ _ _ ?_ ?_ ?_
            · cases mx with
              | none => simp only at s1; subst s1; rfl
              | some x =>
                obtain ⟨k, rfl, q1, q2⟩ := s1
                exact ⟨k, m.den ρ, by simp only [V.den], q1, by omega, rfl⟩
            · cases hi with
              | none =>
                simp only at s2; subst s2
                cases mx with
                | none => exact ⟨rfl, rfl⟩
                | some y => simp at hmh
              | some x =>
                obtain ⟨k, rfl, q1, q2⟩ := s2
                exact ⟨k, h.den ρ, by simp only [V.den], q1, by omega, rfl⟩
            · cases lo with
              | none => simp only at s3; subst s3; rfl
              | some x =>
                obtain ⟨k, rfl, q1, q2⟩ := s3
                exact ⟨k, l.den ρ, by simp only [V.den], q1, by omega, rfl⟩)
          cases hre : pc.re l with
          | lit n =>
            dsimp only
            rw [hre] at e1
            simp only [E.den] at e1
            cases hbig : !ile (pc.re m).hi (kmax .i64) || !ile (pc.re h).hi (kmax .i64)
            · rw [Bool.or_eq_false_iff] at hbig
              simp only [Bool.not_eq_false', ile_iff] at hbig
              simp only [ift_false]
              obtain ⟨a1, a2⟩ := less_spec hp hh (n := n) (by omega) (by omega) hbig.2
              obtain ⟨c1, c2⟩ := less_spec hp hm (n := n) (by omega) (by omega) hbig.1
              have hokS : ∀ o', (V.slice b o' (less pc n h) (less pc n m)).ok ρ := fun o' => by
                simp only [V.ok]; exact ⟨a2, c2, by omega, by omega⟩
              have t1 : ((less pc n h).den ρ).toNat = (h.den ρ).toNat - (l.den ρ).toNat := by omega
              have t2 : ((less pc n m).den ρ).toNat = (m.den ρ).toNat - (l.den ρ).toNat := by omega
              cases ht : pc.tell (.eq m (.lit n)) with
              | none => exact ⟨hm, trivial⟩
              | some q =>
                have et := tell_eq hp hm (b := .lit n) trivial ht
                cases q
                · dsimp only
                  simp only [E.den, Bool.false_eq_true, eq_iff_iff, iff_false] at et
                  refine ⟨?_, hokS _⟩
                  rw [hb, if_neg (by omega), Addr.add_none]
                  simp only [V.den, t1, t2, ← e1]
                · dsimp only
                  simp only [E.den, eq_iff_iff, iff_true] at et
                  refine ⟨?_, hokS _⟩
                  rw [hb, if_pos (by omega)]
                  simp only [V.den, t1, t2]
            · trivial
          | _ => exact need _
  · trivial

theorem oneOf_spec {l h : E} (ho : oneOf l h = true) (hh : h.ok ρ) : h.den ρ = l.den ρ + 1 := by
  unfold oneOf at ho
  cases h <;> try (cases ho; done)
  rename_i op k a c _ _
  cases op <;> try (cases ho; done)
  cases c <;> try (cases ho; done)
  rename_i z
  simp only [Bool.and_eq_true, ieq_iff, ile_iff] at ho
  obtain ⟨⟨⟨rfl, h2⟩, h3⟩, h4⟩ := ho
  have he := E.beq_den ρ _ _ h2
  simp only [E.ok] at hh
  have r := E.rng hh.1
  simp only [E.den, binI]
  rw [wrapF_id (by omega) (by omega), he]

theorem extract_bytes (es : List E) (n m : Nat) :
    (ByteArray.mk (es.map fun e => UInt8.ofNat (e.den ρ).toNat).toArray).extract n m = ⟨(((es.drop n).take (m - n)).map fun e => UInt8.ofNat (e.den ρ).toNat).toArray⟩ := by
  apply ByteArray.ext
  rw [ByteArray.data_extract]
  simp [List.map_take, List.map_drop]

/-- A text's part, its bounds known. -/
theorem run_sliceText {t : TypeId} (hu : P.underlying t = some .string) {s : ByteArray} {lo hi : Option V} {l h : Nat}
    (hh : match hi with | none => h = s.size | some x => ∃ k i, x.den ρ = .int k i ∧ 0 ≤ i ∧ i ≤ (s.size : Int) ∧ h = i.toNat)
    (hl : match lo with | none => l = 0 | some x => ∃ k i, x.den ρ = .int k i ∧ 0 ≤ i ∧ i ≤ (h : Int) ∧ l = i.toNat) :
    (Instr.sliceAt t (.string s) (lo.map (V.den ρ)) (hi.map (V.den ρ)) none).run P w = .ok (.string (s.extract l h)) w := by
  have hb := run_sliceBounds (P := P) (w := w) false s.size s.size s.size h l none (hi.map (V.den ρ)) (lo.map (V.den ρ)) rfl
    (by cases hi with
      | none => exact ⟨hh, rfl⟩
      | some x => exact hh)
    (by cases lo with
      | none => exact hl
      | some x => exact hl)
  simp [Instr.sliceAt, Instr.slice, run_underlying hu, hb]

theorem str_size (es : List E) : (ByteArray.mk (es.map fun e => UInt8.ofNat (e.den ρ).toNat).toArray).size = es.length := by simp [ByteArray.size]

theorem sliceS2_sound (hp : st.pc.holds ρ) {t : TypeId} (hu : P.underlying t = some .string) {es : List E} (hx : (V.str es).ok ρ) {lo hi : Option V} (h1 : ∀ x, lo = some x → x.ok ρ) (h2 : ∀ x, hi = some x → x.ok ρ) :
    VS ρ st w ((Instr.sliceAt t ((V.str es).den ρ) (lo.map (V.den ρ)) (hi.map (V.den ρ)) none).run P w) (sliceS2 st.pc es lo hi) := by
  unfold sliceS2
  have hm : (E.lit (es.length : Nat)).ok ρ := trivial
  have bh := boundR_spec hp hm hm h2
  cases hb : boundR st.pc (.lit es.length) hi (.lit es.length) with
  | inr r =>
    rw [hb] at bh
    cases r <;> first | exact bh | exact bh.elim | trivial
  | inl h =>
    rw [hb] at bh
    obtain ⟨ho, hd⟩ := bh
    dsimp only
    have bl := boundR_spec hp ho (d := .lit 0) trivial h1
    cases hb2 : boundR st.pc h lo (.lit 0) with
    | inr r =>
      rw [hb2] at bl
      cases r <;> first | exact bl | exact bl.elim | trivial
    | inl l =>
      rw [hb2] at bl
      obtain ⟨lo1, ld⟩ := bl
      dsimp only
      obtain ⟨el, okl⟩ := PC.re_spec hp lo1
      obtain ⟨eh, okh⟩ := PC.re_spec hp ho
      have hle : h.den ρ ≤ es.length ∧ 0 ≤ h.den ρ := by
        cases hi with
        | none => dsimp only at hd; subst hd; simp only [E.den]; omega
        | some x => obtain ⟨k, _, q1, q2⟩ := hd; simp only [E.den] at q2; omega
      have hll : 0 ≤ l.den ρ ∧ l.den ρ ≤ h.den ρ := by
        cases lo with
        | none => dsimp only at ld; subst ld; simp only [E.den]; omega
        | some x => obtain ⟨k, _, q1, q2⟩ := ld; omega
      have run := run_sliceText (P := P) (w := w) (ρ := ρ) hu (s := ⟨(es.map fun e => UInt8.ofNat (e.den ρ).toNat).toArray⟩) (lo := lo) (hi := hi) (l := (l.den ρ).toNat) (h := (h.den ρ).toNat)
        (by
          cases hi with
          | none => dsimp only at hd ⊢; subst hd; rw [str_size]; simp [E.den]
          | some x =>
            obtain ⟨k, rfl, q1, q2⟩ := hd
            simp only [E.den] at q2
            exact ⟨k, h.den ρ, rfl, q1, by rw [str_size]; exact q2, rfl⟩)
        (by
          cases lo with
          | none => dsimp only at ld ⊢; subst ld; simp [E.den]
          | some x =>
            obtain ⟨k, rfl, q1, q2⟩ := ld
            exact ⟨k, l.den ρ, rfl, q1, by omega, rfl⟩)
      have out : VS ρ st w ((Instr.sliceAt t ((V.str es).den ρ) (lo.map (V.den ρ)) (hi.map (V.den ρ)) none).run P w) (.val (.str ((es.drop (l.den ρ).toNat).take ((h.den ρ).toNat - (l.den ρ).toNat)))) := by
        refine ⟨?_, ?_⟩
        · simp only [V.den]
          rw [run, extract_bytes es _ _]
        · simp only [V.ok] at hx ⊢
          exact fun e he => hx e (List.mem_of_mem_drop (List.mem_of_mem_take he))
      generalize st.pc.re l = l' at el okl ⊢
      generalize st.pc.re h = h' at eh okh ⊢
      cases l' with
      | lit n =>
        simp only [E.den] at el
        dsimp only
        cases h' with
        | lit m =>
          simp only [E.den] at eh
          have e1 : (m - n).toNat = (h.den ρ).toNat - (l.den ρ).toNat := by omega
          have e2 : n.toNat = (l.den ρ).toNat := by omega
          dsimp only
          rw [e1, e2]
          exact out
        | _ => exact ⟨ho, trivial⟩
      | _ => exact ⟨lo1, trivial⟩

theorem sliceS_sound (hp : st.pc.holds ρ) {t : TypeId} (hu : P.underlying t = some .string) {es : List E} (hx : (V.str es).ok ρ) {lo hi : Option V} (h1 : ∀ x, lo = some x → x.ok ρ) (h2 : ∀ x, hi = some x → x.ok ρ) :
    VS ρ st w ((Instr.sliceAt t ((V.str es).den ρ) (lo.map (V.den ρ)) (hi.map (V.den ρ)) none).run P w) (sliceS st.pc es lo hi) := by
  have gen := sliceS2_sound (P := P) (w := w) hp hu hx h1 h2
  unfold sliceS
  split
  · rename_i k l
    split
    · rename_i k' h
      have hl := h1 _ rfl
      have hh := h2 _ rfl
      simp only [V.ok] at hl hh
      obtain ⟨e1, e2⟩ := PC.re_spec hp hl
      have hrg := E.rng e2
      rw [e1] at hrg
      dsimp only
      apply ift_VS
      · intro hc
        simp only [Bool.and_eq_true, ile_iff, Nat.ble_eq] at hc
        obtain ⟨⟨⟨c0, _⟩, c1⟩, c2⟩ := hc
        have hone := oneOf_spec (ρ := ρ) c0 hh
        have hx' := hx
        simp only [V.ok] at hx'
        obtain ⟨x, p1, p2, p3⟩ := pickE_spec hp hl (es := (es.drop (st.pc.re l).lo.toNat).take ((st.pc.re l).hi - (st.pc.re l).lo + 1).toNat) (j := (st.pc.re l).lo.toNat)
          (fun e he => (hx' e (List.mem_of_mem_drop (List.mem_of_mem_take he))).1) (by omega) (by rw [List.length_take, List.length_drop]; omega)
        rw [List.getElem?_take] at p1
        split at p1
        · rw [List.getElem?_drop] at p1
          have p1' : es[(l.den ρ).toNat]? = some x := by rw [← p1]; congr 1; omega
          obtain ⟨q1, q2⟩ := hx' x (List.mem_of_getElem? p1')
          have run := run_sliceText (P := P) (w := w) (ρ := ρ) hu (s := ⟨(es.map fun e => UInt8.ofNat (e.den ρ).toNat).toArray⟩) (lo := some (.int k l)) (hi := some (.int k' h)) (l := (l.den ρ).toNat) (h := (h.den ρ).toNat)
            ⟨k', h.den ρ, rfl, by omega, by rw [str_size]; omega, rfl⟩ ⟨k, l.den ρ, rfl, by omega, by omega, rfl⟩
          refine ⟨?_, ?_⟩
          · simp only [V.den] at run ⊢
            rw [run, extract_bytes es _ _]
            have e3 : (h.den ρ).toNat - (l.den ρ).toNat = 1 := by omega
            have e4 : (es.drop (l.den ρ).toNat).take 1 = [x] := by
              obtain ⟨hlt, he⟩ := List.getElem?_eq_some_iff.1 p1'
              rw [List.drop_eq_getElem_cons hlt, he]; simp
            rw [e3, e4]
            simp only [List.map_cons, List.map_nil, p2]
          · simp only [V.ok, List.mem_singleton]
            rintro e rfl
            exact ⟨p3, by rw [p2]; exact q2⟩
        · cases p1
      · intro _; exact gen
    · exact gen
  · exact gen

theorem sliceR_sound (hp : st.pc.holds ρ) (t : TypeId) {x : V} (hx : x.ok ρ) {lo hi mx : Option V} (h1 : ∀ x, lo = some x → x.ok ρ) (h2 : ∀ x, hi = some x → x.ok ρ) (h3 : ∀ x, mx = some x → x.ok ρ) :
    VS ρ st w ((Instr.sliceAt t (x.den ρ) (lo.map (V.den ρ)) (hi.map (V.den ρ)) (mx.map (V.den ρ))).run P w) (sliceR P st t x lo hi mx) := by
  unfold sliceR
  cases hu : P.underlying t with
  | none => trivial
  | some d =>
    cases x with
    | ptr b o =>
      cases d <;> try trivial
      case array n e =>
        dsimp only
        cases hs : sizeT P e with
        | none => trivial
        | some s =>
          dsimp only
          refine sliceRow_sound (P := P) hp (len := .lit n) (cap := .lit n) trivial trivial (by simp only [E.den]; omega) (Int.le_refl _) h1 h2 h3 false fun l h m hb => ?_
          simp only [E.den, Int.toNat_natCast] at hb
          simp [Instr.sliceAt, run_underlying hu, Instr.sureAddr, V.den, hb, run_sizeT hs]
          split <;> rfl
    | slice b o len cap =>
      simp only [V.ok] at hx
      cases d <;> try trivial
      case slice e =>
        dsimp only
        cases hs : sizeT P e with
        | none => trivial
        | some s =>
          dsimp only
          refine sliceRow_sound (P := P) hp hx.1 hx.2.1 hx.2.2.1 hx.2.2.2 h1 h2 h3 true fun l h m hb => ?_
          simp [Instr.sliceAt, Instr.slice, run_underlying hu, V.den, hb, run_sizeT hs]
    | str es =>
      cases d <;> try trivial
      dsimp only
      cases mx with
      | some x => trivial
      | none => exact sliceS_sound hp hu hx h1 h2
    | _ => cases d <;> trivial

end
end Go.Proofs.YtmacjmofhaghbaaDoor.Sy
end
