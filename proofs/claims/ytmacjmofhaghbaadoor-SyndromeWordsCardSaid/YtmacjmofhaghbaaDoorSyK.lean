/-
  A symbolic evaluator for the model's code: append does what the model's append does.
-/
import Derived.Test.YtmacjmofhaghbaaDoorSyJ
noncomputable section
namespace Go.Proofs.YtmacjmofhaghbaaDoor.Sy
open Go

section
variable {P : Program} {ρ : Env} {st : St} {w : World}

theorem rowCells_spec (hr : Rep ρ st w) (hp : st.pc.holds ρ) {s : Nat} {x : V} (hx : x.ok ρ) :
    match rowCells st s x with
    | .inr q => q.ok ρ
    | .inl none => True
    | .inl (some new) => V.oks ρ new ∧ ((∃ c, x = .lit (.slice none 0 c) ∧ new = []) ∨
        (∃ b o len cap, ∃ n : Nat, x = .slice b o len cap ∧ (n : Int) = len.den ρ ∧ new.length = n * s ∧ ∀ j v, (V.dens ρ new)[j]? = some v → w.cell? ((⟨b.no ρ, o, none⟩ : Addr).add j) = some v)) := by
  have main : ∀ q, rowCells st s x = q → (match q with
    | .inr q => q.ok ρ
    | .inl none => True
    | .inl (some new) => V.oks ρ new ∧ ((∃ c, x = .lit (.slice none 0 c) ∧ new = []) ∨
        (∃ b o len cap, ∃ n : Nat, x = .slice b o len cap ∧ (n : Int) = len.den ρ ∧ new.length = n * s ∧ ∀ j v, (V.dens ρ new)[j]? = some v → w.cell? ((⟨b.no ρ, o, none⟩ : Addr).add j) = some v))) := by
    intro q hq
    unfold rowCells at hq
    split at hq
    · rename_i c
      subst hq
      exact ⟨by simp only [V.oks], .inl ⟨c, rfl, rfl⟩⟩
    · rename_i b o len cap
      simp only [V.ok] at hx
      obtain ⟨e1, e2⟩ := PC.re_spec hp hx.1
      have need : ∀ n, (E.eq len (.lit n)).ok ρ := fun n => ⟨hx.1, trivial⟩
      cases hre : st.pc.re len with
      | lit n =>
        rw [hre] at e1 hq
        simp only [E.den] at e1
        dsimp only at hq
        cases hc : st.look b with
        | cells cs e tot =>
          rw [hc] at hq
          obtain ⟨rest, _, _, h1, h2⟩ := hr.look b hc
          dsimp only at hq
          subst hq
          cases hs : sub cs o (n.toNat * s) with
          | none => trivial
          | some new =>
            obtain ⟨s1, s2⟩ := sub_spec hs
            refine ⟨oks_sub h2 hs, .inr ⟨b, o, len, cap, n.toNat, rfl, by omega, ?_, fun j v hv => ?_⟩⟩
            · rw [s1]; simp only [List.length_take, List.length_drop]; omega
            · rw [Addr.add_none, cell_at h1]
              rw [s1, dens_map, List.map_take, List.map_drop, List.getElem?_take] at hv
              split at hv
              · rw [List.getElem?_drop] at hv
                rw [List.getElem?_append_left (by rw [dens_length]; omega), dens_map]; exact hv
              · cases hv
        | none => rw [hc] at hq; subst hq; trivial
        | map es clock => rw [hc] at hq; subst hq; trivial
      | _ => rw [hre] at hq; subst hq; exact need _
    · subst hq; trivial
  exact main _ rfl

theorem zeroOk_spec {e : TypeId} {s : Nat} (h : zeroOk P e s = true) : ∃ i zv, P.info? e = some i ∧ i.zero = some zv ∧ zv.cells.size = s := by
  unfold zeroOk at h
  cases hz : zeroT P e with
  | none => simp [hz] at h
  | some z =>
    simp only [hz, Bool.and_eq_true] at h
    have h3 := Nat.eq_of_beq_eq_true h.1
    unfold zeroT at hz
    cases hi : P.info? e with
    | none => simp [hi] at hz
    | some i =>
      cases hiz : i.zero with
      | none => simp [hi, hiz] at hz
      | some zv =>
        simp only [hi, hiz, Option.some.injEq] at hz
        subst hz
        refine ⟨i, zv, rfl, hiz, ?_⟩
        cases zv with
        | agg cs => simpa [ofValue, V.cells, Value.cells] using h3
        | func fn f c =>
          have : (ofValue (.func fn f c)).cells = [ofValue (.func fn f c)] := by
            simp only [ofValue]; split <;> rfl
          rw [this] at h3; simpa [Value.cells] using h3
        | _ => simpa [ofValue, ofCell, V.cells, Value.cells] using h3

theorem sizeT_info {t : TypeId} {n : Nat} {i : TypeInfo} (h : sizeT P t = some n) (hi : P.info? t = some i) : i.size = n := by
  unfold sizeT at h; simpa [hi] using h
theorem bytesT_info {t : TypeId} {n : Nat} {i : TypeInfo} (h : bytesT P t = some n) (hi : P.info? t = some i) : i.bytes = n := by
  unfold bytesT at h; simpa [hi] using h

/-- The capacity that is drawn. -/
theorem cap_spec (hr : Rep ρ st w) (len n : Nat) {cap : E} (hcap : cap.ok ρ) (e : TypeId) (hn : len + n ≤ 1000000000000) :
    (E.cap st.dr (.lit (len + n : Nat)) cap e (len + n : Nat) 9223372036854775807).den ρ = ((grownCap w (len + n) (cap.den ρ).toNat e : Nat) : Int) ∧
    (E.cap st.dr (.lit (len + n : Nat)) cap e (len + n : Nat) 9223372036854775807).ok ρ ∧ len + n ≤ grownCap w (len + n) (cap.den ρ).toNat e := by
  have h1 : (E.cap st.dr (.lit (len + n : Nat)) cap e (len + n : Nat) 9223372036854775807).den ρ = ((grownCap w (len + n) (cap.den ρ).toNat e : Nat) : Int) := by
    simp only [E.den, Int.toNat_natCast, grownCap, hr.tape, hr.drawn]
  have h2 := grownCap_ge w (len + n) (cap.den ρ).toNat e
  have h3 := grownCap_le_maxLen w (len + n) (cap.den ρ).toNat e (by unfold maxLen; omega)
  unfold maxLen at h3
  refine ⟨h1, ⟨trivial, hcap, ?_, ?_⟩, h2⟩
  · rw [h1]; omega
  · rw [h1]; omega

theorem appendGrow_sound (hr : Rep ρ st w) {e : TypeId} {s bytes len n : Nat} {old new : List V} {cap : E} {zs : Bool} {r : Result Value}
    (hcap : cap.ok ρ) (hoo : V.oks ρ old) (hno : V.oks ρ new)
    (hrun : zs = true → old.length = len * s → new.length = n * s → len + n ≤ 100000000000 → (len + n) * bytes ≤ 140737488355328 →
      ∃ z : Value, z.cells.size = s ∧ r = .ok (.slice (some ⟨w.heap.size, 0, none⟩) (len + n) (grownCap w (len + n) (cap.den ρ).toNat e))
        (w.drew.alloc (.cells ((V.dens ρ old).toArray ++ (V.dens ρ new).toArray ++ Builtin.zeroCells z.cells (grownCap w (len + n) (cap.den ρ).toNat e - (len + n))) e))) :
    VS ρ st w r (appendGrow st e s bytes zs old new len n cap) := by
  unfold appendGrow
  dsimp only
  cases hb : Nat.beq old.length (len * s) && Nat.beq new.length (n * s) && Nat.ble ((len + n + 1000) * (bytes + 1)) 100000000000 && ile 0 cap.lo && zs
  · trivial
  · simp only [Bool.and_eq_true, ile_iff] at hb
    obtain ⟨⟨⟨⟨b1, b2⟩, b3⟩, b4⟩, b5⟩ := hb
    simp only [ift_true]
    have l1 := Nat.eq_of_beq_eq_true b1
    have l2 := Nat.eq_of_beq_eq_true b2
    have l3 := Nat.le_of_ble_eq_true b3
    clear b1 b2 b3
    have hm : (len + n + 1000) * 1 ≤ (len + n + 1000) * (bytes + 1) := Nat.mul_le_mul_left _ (Nat.le_add_left 1 bytes)
    rw [Nat.mul_one] at hm
    have hnn : len + n ≤ 100000000000 := Nat.le_trans (Nat.le_add_right _ 1000) (Nat.le_trans hm l3)
    have hbb : (len + n) * bytes ≤ (len + n + 1000) * (bytes + 1) := Nat.mul_le_mul (Nat.le_add_right _ _) (Nat.le_add_right _ _)
    have hbb2 : (len + n) * bytes ≤ 140737488355328 := Nat.le_trans hbb (Nat.le_trans l3 (by decide))
    obtain ⟨z, hz, hrz⟩ := hrun b5 l1 l2 hnn hbb2
    obtain ⟨c1, c2, c3⟩ := cap_spec hr len n hcap e (Nat.le_trans hnn (by decide))
    generalize hG : grownCap w (len + n) (cap.den ρ).toNat e = G at *
    let rest : List Value := (Builtin.zeroCells z.cells (G - (len + n))).toList
    have hrestl : rest.length = (G - (len + n)) * s := by simp [rest, Builtin.zeroCells, hz]
    refine ⟨_, ?_, ?_, hr.allocD (o := .cells ((V.dens ρ old).toArray ++ (V.dens ρ new).toArray ++ Builtin.zeroCells z.cells (G - (len + n))) e) ⟨rest, ?_, oks_append.2 ⟨hoo, hno⟩, c2, ?_⟩ (by simp)⟩
    · rw [hrz]
      simp only [V.den, B.no, c1, Int.toNat_natCast, hr.size]
      simp only [E.den, Int.toNat_natCast]
      rfl
    · simp only [V.ok]
      refine ⟨trivial, c2, ?_, ?_⟩
      · simp only [E.den]; exact Int.natCast_nonneg _
      · rw [c1]; simp only [E.den]; exact Int.ofNat_le.2 c3
    · congr 2
      apply Array.toList_inj.1
      simp [rest, dens_append]
    · simp only [List.length_append, l1, l2, hrestl]
      rw [c1, Int.toNat_natCast, ← Nat.add_mul, ← Nat.add_mul]
      congr 1
      omega

theorem isEq_spec {pc : PC} (hp : pc.holds ρ) {a b : E} (ha : a.ok ρ) (hb : b.ok ρ) (h : isEq pc a b = true) : a.den ρ = b.den ρ := by
  unfold isEq at h
  cases ht : pc.tell (.eq a b) with
  | none => simp [ht] at h
  | some r =>
    cases r
    · simp [ht] at h
    · have := tell_eq hp ha hb ht
      simpa using this

theorem appendR_sound (hr : Rep ρ st w) (hp : st.pc.holds ρ) (t t2 ty : TypeId) {x y : V} (hx : x.ok ρ) (hy : y.ok ρ) :
    VS ρ st w ((Builtin.append_ #[t, t2] ty #[x.den ρ, y.den ρ]).run P w) (appendR P st t t2 x y) := by
  unfold appendR
  cases htt : Nat.beq t t2
  · trivial
  · have htt' := Nat.eq_of_beq_eq_true htt
    subst htt'
    simp only [Bool.not_true, ift_false]
    cases hu : P.underlying t with
    | none => trivial
    | some d =>
      cases d <;> try trivial
      case slice e =>
        dsimp only
        cases hs : sizeT P e with
        | none => trivial
        | some s =>
          cases hby : bytesT P e with
          | none => trivial
          | some bytes =>
            dsimp only
            cases hs0 : Nat.beq s 0
            · simp only [ift_false]
              have hspos : 0 < s := by
                rcases Nat.eq_zero_or_pos s with h | h
                · subst h; simp at hs0
                · exact h
              have hsy := rowCells_spec hr hp (s := s) hy
              cases hry : rowCells st s y with
              | inr q => rw [hry] at hsy; exact hsy
              | inl on =>
                cases on with
                | none => trivial
                | some new =>
                  rw [hry] at hsy
                  obtain ⟨hno, hsy⟩ := hsy
                  dsimp only
                  cases hdiv : Nat.beq (new.length / s * s) new.length
                  · trivial
                  · simp only [Bool.not_true, ift_false]
                    have hnl := (Nat.eq_of_beq_eq_true hdiv).symm
                    generalize hN : new.length / s = n at *
                    obtain ⟨ie, hie, hib⟩ := bytesT_spec hby
                    have hisz := sizeT_info hs hie
                    -- what is appended, where there is something
                    have hyn : n ≠ 0 → ∃ b o len cap, y = .slice b o len cap ∧ (n : Int) = len.den ρ ∧ ∀ j v, (V.dens ρ new)[j]? = some v → w.cell? ((⟨b.no ρ, o, none⟩ : Addr).add j) = some v := by
                      intro hn0
                      rcases hsy with ⟨c, rfl, rfl⟩ | ⟨b, o, len, cap, m, rfl, hm, hml, hcell⟩
                      · simp only [List.length_nil] at hnl
                        rcases Nat.mul_eq_zero.1 hnl.symm with h | h
                        · exact absurd h hn0
                        · omega
                      · refine ⟨b, o, len, cap, rfl, ?_, hcell⟩
                        have : m = n := Nat.eq_of_mul_eq_mul_right hspos (by rw [← hml, hnl])
                        rw [← this]; exact hm
                    split
                    · -- onto a nil slice
                      cases hn0 : Nat.beq n 0
                      · simp only [ift_false]
                        have hnz : n ≠ 0 := fun h => by rw [h] at hn0; simp at hn0
                        obtain ⟨b, o, len, cap, rfl, hlen, hcell⟩ := hyn hnz
                        refine appendGrow_sound hr (old := []) (cap := .lit 0) trivial (by simp only [V.oks]) hno fun hz _ h2 h3 h4 => ?_
                        obtain ⟨i, zv, z1, z2, z3⟩ := zeroOk_spec hz
                        rw [hie] at z1; cases z1
                        refine ⟨zv, z3, ?_⟩
                        have := run_append_nil (P := P) w t ty e ie zv hu hie z2 ⟨b.no ρ, o, none⟩ n (cap.den ρ).toNat (V.dens ρ new) (by rw [dens_length, h2, hisz]) hcell (by omega) (by omega) (by rw [hib]; simp only [Nat.zero_add] at h4; omega)
                        simp only [V.den, ← hlen, Int.toNat_natCast]
                        rw [this]
                        simp [V.dens, E.den]
                      · have hnz := Nat.eq_of_beq_eq_true hn0
                        simp only [ift_true]
                        refine ⟨?_, by simp only [V.ok]⟩
                        rcases hsy with ⟨c, rfl, rfl⟩ | ⟨b, o, len, cap, m, rfl, hm, hml, hcell⟩
                        · simp [V.den, Builtin.append_, run_underlying hu, run_sizeT hs, Builtin.lenOf, Builtin.firstCells]
                        · have hm0 : len.den ρ = 0 := by
                            have : m = n := Nat.eq_of_mul_eq_mul_right hspos (by rw [← hml, hnl])
                            omega
                          simp [V.den, Builtin.append_, run_underlying hu, run_sizeT hs, Builtin.lenOf, Builtin.firstCells, hm0, loadCells, loadCellsFrom]
                    · rename_i b o len cap
                      simp only [V.ok] at hx
                      obtain ⟨e1, e2⟩ := PC.re_spec hp hx.1
                      have need : ∀ n, (E.eq len (.lit n)).ok ρ := fun n => ⟨hx.1, trivial⟩
                      cases hre : st.pc.re len with
                      | lit l =>
                        rw [hre] at e1
                        simp only [E.den] at e1
                        dsimp only
                        cases ht : st.pc.tell (.lt cap (.lit (l.toNat + n : Nat))) with
                        | none => exact ⟨hx.2.1, trivial⟩
                        | some q =>
                          have et := tell_lt hp hx.2.1 (b := .lit (l.toNat + n : Nat)) trivial ht
                          simp only [E.den] at et
                          have hl : ((l.toNat : Nat) : Int) = len.den ρ := by omega
                          cases q
                          · simp only [Bool.false_eq_true, eq_iff_iff, iff_false] at et
                            have hroom : l.toNat + n ≤ (cap.den ρ).toNat := by omega
                            dsimp only
                            have hb := hr.blk b
                            cases hc : st.blk b with
                            | none => trivial
                            | map es clock => trivial
                            | cells cs el tot =>
                              rw [hc] at hb
                              obtain ⟨rest, h1, h2, h3⟩ := hb
                              dsimp only
                              cases hn0 : Nat.beq n 0
                              · simp only [ift_false]
                                have hnz : n ≠ 0 := fun h => by rw [h] at hn0; simp at hn0
                                obtain ⟨b', o', len', cap', rfl, hlen', hcell⟩ := hyn hnz
                                cases hone : new.all V.one
                                · trivial
                                · simp only [Bool.not_true, ift_false]
                                  have hones : ∀ x ∈ V.dens ρ new, x.oneCell' = true := by
                                    intro x hx
                                    rw [dens_map] at hx
                                    obtain ⟨y, hy, rfl⟩ := List.mem_map.1 hx
                                    exact one_cell (List.all_eq_true.1 hone y hy)
                                  have hfc := run_firstCells_some (P := P) w s n ⟨b'.no ρ, o', none⟩ n (cap'.den ρ).toNat (V.dens ρ new) (by rw [dens_length, hnl]) hcell
                                  -- what is written, in whatever row has room
                                  have write : o + l.toNat * s + new.length ≤ (V.dens ρ cs ++ rest).length →
                                      (Builtin.append_ #[t, t] ty #[(V.slice b o len cap).den ρ, (V.slice b' o' len' cap').den ρ]).run P w =
                                        .ok (.slice (some ⟨b.no ρ, o, none⟩) (l.toNat + n) (cap.den ρ).toNat)
                                          (w.setRow (b.no ρ) ((V.dens ρ cs ++ rest).take (o + l.toNat * s) ++ V.dens ρ new ++ (V.dens ρ cs ++ rest).drop (o + l.toNat * s + (V.dens ρ new).length)).toArray) := by
                                    intro hfit
                                    have hst := run_storeCells_at (P := P) (b.no ρ) el (V.dens ρ new) (o + l.toNat * s) 0 (V.dens ρ cs ++ rest) w h1 (by rw [dens_length]; omega) hones
                                    simp only [Nat.add_zero] at hst
                                    have el1 : (len.den ρ).toNat = l.toNat := by omega
                                    have el2 : (len'.den ρ).toNat = n := by omega
                                    simp only [V.den, el1, el2]
                                    simp [Builtin.append_, run_underlying hu, run_sizeT hs, Builtin.lenOf, hroom, hfc, Addr.add_none, hst]
                                  have hokv : (V.slice b o (.lit (l.toNat + n : Nat)) cap).ok ρ := by
                                    simp only [V.ok]
                                    refine ⟨trivial, hx.2.1, ?_, ?_⟩
                                    · simp only [E.den]; exact Int.natCast_nonneg _
                                    · simp only [E.den]; omega
                                  cases tot with
                                  | none =>
                                    dsimp only
                                    cases hsp : splice cs (o + l.toNat * s) new with
                                    | none => trivial
                                    | some cs' =>
                                      obtain ⟨q1, q2⟩ := splice_spec hsp
                                      have hd := dens_splice (ρ := ρ) hsp
                                      simp only at h3
                                      subst h3
                                      refine ⟨_, ?_, hokv, hr.cells hc h1 (l := cs') (oks_splice h2 hno hsp) (tot' := none) (rest' := []) rfl⟩
                                      rw [write (by rw [List.length_append, dens_length]; omega)]
                                      simp only [V.den, E.den, Int.toNat_natCast, List.append_nil, hd]
                                  | some c =>
                                    dsimp only
                                    simp only at h3
                                    cases hcond : Nat.beq o 0 && Nat.beq c.2 s && Nat.beq cs.length (l.toNat * s) && isEq st.pc c.1 cap
                                    · trivial
                                    · simp only [Bool.and_eq_true] at hcond
                                      obtain ⟨⟨⟨w1, w2⟩, w3⟩, w4⟩ := hcond
                                      have w1 := Nat.eq_of_beq_eq_true w1
                                      have w2 := Nat.eq_of_beq_eq_true w2
                                      have w3 := Nat.eq_of_beq_eq_true w3
                                      have w4 := isEq_spec hp h3.1 hx.2.1 w4
                                      subst w1
                                      simp only [ift_true]
                                      have htot : cs.length + rest.length = (cap.den ρ).toNat * s := by rw [h3.2, w4, w2]
                                      have hle : (l.toNat + n) * s ≤ (cap.den ρ).toNat * s := Nat.mul_le_mul_right _ hroom
                                      rw [Nat.add_mul] at hle
                                      refine ⟨_, ?_, hokv, hr.cells hc h1 (l := cs ++ new) (oks_append.2 ⟨h2, hno⟩) (tot' := some c) (rest' := rest.drop new.length) ?_⟩
                                      · rw [write (by rw [List.length_append, dens_length]; omega)]
                                        have e1 : (V.dens ρ cs ++ rest).take (0 + l.toNat * s) = V.dens ρ cs := by
                                          rw [List.take_append_of_le_length (by rw [dens_length]; omega), List.take_of_length_le (by rw [dens_length]; omega)]
                                        have e2 : (V.dens ρ cs ++ rest).drop (0 + l.toNat * s + (V.dens ρ new).length) = rest.drop new.length := by
                                          rw [List.drop_append, List.drop_of_length_le (by rw [dens_length]; omega), List.nil_append]
                                          congr 1
                                          rw [dens_length, dens_length]; omega
                                        rw [e1, e2]
                                        simp only [V.den, E.den, Int.toNat_natCast, dens_append]
                                      · refine ⟨h3.1, ?_⟩
                                        rw [w4, w2, ← htot]
                                        simp only [List.length_append, List.length_drop]; omega
                              · have hnz := Nat.eq_of_beq_eq_true hn0
                                simp only [ift_true]
                                refine ⟨?_, ?_⟩
                                · have el1 : (len.den ρ).toNat = l.toNat := by omega
                                  subst hnz
                                  simp only [Nat.add_zero] at hroom
                                  rcases hsy with ⟨c, rfl, rfl⟩ | ⟨b', o', len', cap', m, rfl, hm, hml, hcell⟩
                                  · simp only [V.den, el1, E.den]
                                    simp [Builtin.append_, run_underlying hu, run_sizeT hs, Builtin.lenOf, Builtin.firstCells, hroom, storeCells, -Int.ofNat_toNat]
                                  · have hm0 : len'.den ρ = 0 := by
                                      have : m = 0 := Nat.eq_of_mul_eq_mul_right hspos (by rw [← hml, hnl])
                                      omega
                                    simp only [V.den, el1, E.den, hm0]
                                    simp [Builtin.append_, run_underlying hu, run_sizeT hs, Builtin.lenOf, Builtin.firstCells, hroom, storeCells, loadCells, loadCellsFrom, -Int.ofNat_toNat]
                                · simp only [V.ok]
                                  refine ⟨trivial, hx.2.1, ?_, ?_⟩
                                  · simp only [E.den]; omega
                                  · simp only [E.den]; omega
                          · simp only [eq_iff_iff, iff_true] at et
                            dsimp only
                            have hxo : (V.slice b o len cap).ok ρ := by simp only [V.ok]; exact hx
                            have hsx := rowCells_spec hr hp (s := s) hxo
                            cases hrx : rowCells st s (.slice b o len cap) with
                            | inr q => trivial
                            | inl oo =>
                              cases oo with
                              | none => trivial
                              | some old =>
                                rw [hrx] at hsx
                                obtain ⟨hoo, hsx⟩ := hsx
                                dsimp only
                                obtain ⟨c1, c2⟩ := PC.re_spec hp hx.2.1
                                rcases hsx with ⟨c, h, _⟩ | ⟨b1, o1, len1, cap1, m1, hh, hm1, hml1, hcell1⟩
                                · cases h
                                · injection hh with g1 g2 g3 g4
                                  subst g1; subst g2; subst g3; subst g4
                                  refine appendGrow_sound hr c2 hoo hno fun hz h1 h2 h3 h4 => ?_
                                  obtain ⟨i, zv, z1, z2, z3⟩ := zeroOk_spec hz
                                  rw [hie] at z1; cases z1
                                  refine ⟨zv, z3, ?_⟩
                                  have hnz : n ≠ 0 := by
                                    intro h0; subst h0; omega
                                  obtain ⟨b', o', len', cap', rfl, hlen', hcell⟩ := hyn hnz
                                  have hml : m1 = l.toNat := by omega
                                  subst hml
                                  have := run_append_grow (P := P) w t ty e ie zv hu hie z2 ⟨b.no ρ, o, none⟩ l.toNat (cap.den ρ).toNat (V.dens ρ old) (by rw [dens_length, h1, hisz]) hcell1 ⟨b'.no ρ, o', none⟩ n (cap'.den ρ).toNat (V.dens ρ new)
                                    (by rw [dens_length, h2, hisz]) hcell (by omega) (by omega) (growslice_fits (by omega) (by rw [hib]; exact h4))
                                  have el1 : (len.den ρ).toNat = l.toNat := by omega
                                  have el2 : (len'.den ρ).toNat = n := by omega
                                  simp only [V.den, el1, el2, c1]
                                  exact this
                      | _ => exact need _
                    · trivial
            · trivial

end
end Go.Proofs.YtmacjmofhaghbaaDoor.Sy
end
