/-
  A symbolic evaluator for the model's code: cuts say what they should.
-/
import Derived.Test.YtmacjmofhaghbaaDoorSyW
noncomputable section
namespace Go.Proofs.YtmacjmofhaghbaaDoor.Sy
open Go Go.ChangeShapes Go.WideShapes Go.RowKit

/-- The assignment that a pattern has at a way's end. -/
def Env.join (ρ : Env) (nv : Nat) (vm : List E) (km : List Nat) (w : World) (tm : Array Value) : Env :=
  { ρ with
    i := fun i => if i < nv then ρ.i i else (nth (.lit 0) vm (i - nv)).den ρ
    addr := fun j => if j < km.length then ρ.addr (nth 0 km j) else w.heap.size + (j - km.length)
    dr := fun i => w.drawn + i
    v := fun j => tm.getD j undef }

section
variable {ρ : Env} {nv : Nat} {vm : List E} {km : List Nat} {w : World} {tm : Array Value}

theorem below_spec : ∀ {e : E}, below nv e = true → e.den (ρ.join nv vm km w tm) = e.den ρ ∧ (e.ok ρ → e.ok (ρ.join nv vm km w tm)) := by
  intro e
  induction e with
  | lit n => intro _; exact ⟨rfl, fun h => h⟩
  | var i l h =>
    intro hb
    have hi : i < nv := by simpa [below, Nat.blt_eq] using hb
    have e1 : (ρ.join nv vm km w tm).i i = ρ.i i := by simp only [Env.join, hi, if_true]
    exact ⟨e1, fun ho => by simp only [E.ok, e1] at ho ⊢; exact ho⟩
  | fn f a l h ih => intro hb; simp [below] at hb
  | bin op k a b l h iha ihb =>
    intro hb
    simp only [below, Bool.and_eq_true] at hb
    obtain ⟨a1, a2⟩ := iha hb.1
    obtain ⟨b1, b2⟩ := ihb hb.2
    exact ⟨by simp only [E.den, a1, b1], fun ho => by simp only [E.ok, a1, b1] at ho ⊢; exact ⟨a2 ho.1, b2 ho.2.1, ho.2.2⟩⟩
  | conv k a l h ih =>
    intro hb
    obtain ⟨a1, a2⟩ := ih hb
    exact ⟨by simp only [E.den, a1], fun ho => by simp only [E.ok, a1] at ho ⊢; exact ⟨a2 ho.1, ho.2⟩⟩
  | eq a b iha ihb =>
    intro hb
    simp only [below, Bool.and_eq_true] at hb
    obtain ⟨a1, a2⟩ := iha hb.1
    obtain ⟨b1, b2⟩ := ihb hb.2
    exact ⟨by simp only [E.den, a1, b1], fun ho => ⟨a2 ho.1, b2 ho.2⟩⟩
  | lt a b iha ihb =>
    intro hb
    simp only [below, Bool.and_eq_true] at hb
    obtain ⟨a1, a2⟩ := iha hb.1
    obtain ⟨b1, b2⟩ := ihb hb.2
    exact ⟨by simp only [E.den, a1, b1], fun ho => ⟨a2 ho.1, b2 ho.2⟩⟩
  | not a ih =>
    intro hb
    obtain ⟨a1, a2⟩ := ih hb
    exact ⟨by simp only [E.den, a1], fun ho => a2 ho⟩
  | ite c a b l h ihc iha ihb =>
    intro hb
    simp only [below, Bool.and_eq_true] at hb
    obtain ⟨c1, c2⟩ := ihc hb.1.1
    obtain ⟨a1, a2⟩ := iha hb.1.2
    obtain ⟨b1, b2⟩ := ihb hb.2
    exact ⟨by simp only [E.den, a1, b1, c1], fun ho => by
      simp only [E.ok, a1, b1, c1] at ho ⊢; exact ⟨c2 ho.1, fun h => a2 (ho.2.1 h), fun h => b2 (ho.2.2.1 h), ho.2.2.2⟩⟩
  | cap d n o t l h ihn iho => intro hb; simp [below] at hb

theorem instE_spec {pc : PC} (hp : pc.holds ρ) {p : E} (h : okE nv vm pc p = true) (ho : (instE nv vm p).ok ρ) : p.den (ρ.join nv vm km w tm) = (instE nv vm p).den ρ ∧ p.ok (ρ.join nv vm km w tm) := by
  have plain : below nv p = true → p.ok ρ → p.den (ρ.join nv vm km w tm) = p.den ρ ∧ p.ok (ρ.join nv vm km w tm) := fun hb hok => ⟨(below_spec hb).1, (below_spec hb).2 hok⟩
  cases p with
  | var i l u =>
    unfold okE at h
    unfold instE at ho ⊢
    dsimp only at h ho ⊢
    cases hi : Nat.blt i nv
    · simp only [hi, ift_false] at h ho ⊢
      simp only [Bool.and_eq_true, ile_iff] at h
      have hlt : ¬ i < nv := by rw [← Nat.blt_eq, hi]; decide
      obtain ⟨r1, r2⟩ := PC.re_spec hp ho
      have r := E.rng r2
      have e1 : (E.var i l u).den (ρ.join nv vm km w tm) = (nth (.lit 0) vm (i - nv)).den ρ := by simp only [E.den, Env.join, hlt, if_false]
      refine ⟨e1, ?_⟩
      have e2 : (ρ.join nv vm km w tm).i i = (nth (.lit 0) vm (i - nv)).den ρ := e1
      simp only [E.ok, e2]
      omega
    · simp only [hi, ift_true] at ho ⊢
      exact plain hi ho
  | _ => exact plain h ho

theorem instB_spec {b : B} (h : okB km b = true) : b.no (ρ.join nv vm km w tm) = (instB km b).no ρ := by
  cases b with
  | new j =>
    have hj : j < km.length := by simpa [okB, Nat.blt_eq] using h
    simp only [instB, B.no, Env.join, hj, if_true]
  | old i => cases h
  | glob g => rfl

theorem fitE_spec {pc : PC} (hp : pc.holds ρ) {p e : E} (h : fitE nv vm pc p e = true) (he : e.ok ρ) : p.den (ρ.join nv vm km w tm) = e.den ρ ∧ p.ok (ρ.join nv vm km w tm) := by
  simp only [fitE, Bool.and_eq_true, Bool.or_eq_true] at h
  obtain ⟨n1, n2⟩ := norm_spec hp he
  rcases h.2 with h2 | h2
  · have e1 := E.same_eq _ _ h2
    obtain ⟨i1, i2⟩ := instE_spec (km := km) (w := w) (tm := tm) hp h.1 (by rw [e1]; exact he)
    exact ⟨by rw [i1, e1], i2⟩
  · have e1 := E.same_eq _ _ h2
    obtain ⟨i1, i2⟩ := instE_spec (km := km) (w := w) (tm := tm) hp h.1 (by rw [e1]; exact n2)
    exact ⟨by rw [i1, e1, n1], i2⟩

mutual
theorem fitV_spec {pc : PC} (hp : pc.holds ρ) : ∀ (p v : V), fitV nv vm km pc p v = true → v.ok ρ → p.den (ρ.join nv vm km w tm) = v.den ρ ∧ p.ok (ρ.join nv vm km w tm)
  | .lit x, v, h, _ => by
    cases v <;> simp only [fitV, Bool.false_eq_true] at h
    rw [beqLit_eq h]
    exact ⟨by simp only [V.den], by simp only [V.ok]⟩
  | .bool p, v, h, ho => by
    cases v <;> simp only [fitV, Bool.false_eq_true] at h
    simp only [V.ok] at ho
    obtain ⟨h1, h2⟩ := fitE_spec (km := km) (w := w) (tm := tm) hp h ho
    exact ⟨by simp only [V.den, h1], by simp only [V.ok]; exact h2⟩
  | .int k p, v, h, ho => by
    cases v <;> simp only [fitV, Bool.false_eq_true, Bool.and_eq_true] at h
    have := (keq_iff _ _).1 h.1
    subst this
    simp only [V.ok] at ho
    obtain ⟨h1, h2⟩ := fitE_spec (km := km) (w := w) (tm := tm) hp h.2 ho
    exact ⟨by simp only [V.den, h1], by simp only [V.ok]; exact h2⟩
  | .ptr b o, v, h, _ => by
    cases v <;> simp only [fitV, Bool.false_eq_true, Bool.and_eq_true] at h
    have h2 := Nat.eq_of_beq_eq_true h.2
    subst h2
    exact ⟨by simp only [V.den, instB_spec h.1.1, beqB_eq h.1.2], by simp only [V.ok]⟩
  | .slice b o l c, v, h, ho => by
    cases v <;> simp only [fitV, Bool.false_eq_true, Bool.and_eq_true] at h
    obtain ⟨⟨⟨⟨h1, h2⟩, h3⟩, h4⟩, h5⟩ := h
    have h3 := Nat.eq_of_beq_eq_true h3
    subst h3
    simp only [V.ok] at ho
    obtain ⟨l1, l2⟩ := fitE_spec (km := km) (w := w) (tm := tm) hp h4 ho.1
    obtain ⟨c1, c2⟩ := fitE_spec (km := km) (w := w) (tm := tm) hp h5 ho.2.1
    exact ⟨by simp only [V.den, instB_spec h1, beqB_eq h2, l1, c1], by simp only [V.ok, l1, c1]; exact ⟨l2, c2, ho.2.2⟩⟩
  | .func fn f c, v, h, ho => by
    cases v <;> simp only [fitV, Bool.false_eq_true, Bool.and_eq_true] at h
    simp only [V.ok] at ho
    obtain ⟨f1, f2⟩ := fitVs_spec hp f _ h.1.2 ho.1
    obtain ⟨c1, c2⟩ := fitVs_spec hp c _ h.2 ho.2
    exact ⟨by simp only [V.den, f1, c1, beqFn_eq h.1.1], by simp only [V.ok]; exact ⟨f2, c2⟩⟩
  | .agg l, v, h, ho => by
    cases v <;> simp only [fitV, Bool.false_eq_true] at h
    simp only [V.ok] at ho
    obtain ⟨f1, f2⟩ := fitVs_spec hp l _ h ho
    exact ⟨by simp only [V.den, f1], by simp only [V.ok]; exact f2⟩
  | .tup l, v, h, ho => by
    cases v <;> simp only [fitV, Bool.false_eq_true] at h
    simp only [V.ok] at ho
    obtain ⟨f1, f2⟩ := fitVs_spec hp l _ h ho
    exact ⟨by simp only [V.den, f1], by simp only [V.ok]; exact f2⟩
  | .dptr _ _ _ _ _, v, h, _ | .map _, v, h, _ | .opt _ _, v, h, _ | .hole _, v, h, _ => by cases v <;> simp [fitV] at h
theorem fitVs_spec {pc : PC} (hp : pc.holds ρ) : ∀ (p v : List V), fitVs nv vm km pc p v = true → V.oks ρ v → V.dens (ρ.join nv vm km w tm) p = V.dens ρ v ∧ V.oks (ρ.join nv vm km w tm) p
  | [], v, h, _ => by
    cases v <;> simp only [fitVs, Bool.false_eq_true] at h
    exact ⟨by simp only [V.dens], by simp only [V.oks]⟩
  | p :: ps, v, h, ho => by
    cases v <;> simp only [fitVs, Bool.false_eq_true, Bool.and_eq_true] at h
    simp only [V.oks] at ho
    obtain ⟨h1, h2⟩ := fitV_spec hp p _ h.1 ho.1
    obtain ⟨h3, h4⟩ := fitVs_spec hp ps _ h.2 ho.2
    exact ⟨by simp only [V.dens, h1, h3], by simp only [V.oks]; exact ⟨h2, h4⟩⟩
end

theorem fitBlk_spec {pc : PC} (hp : pc.holds ρ) {p b : Blk} {o : Option Obj} (h : fitBlk nv vm km pc p b = true) (hb : b.fits ρ o) : p.fits (ρ.join nv vm km w tm) o := by
  cases p with
  | none => trivial
  | map es c => simp [fitBlk] at h
  | cells ps e tot =>
    cases tot with
    | some q =>
      cases b with
      | none => simp [fitBlk] at h
      | map es c => simp [fitBlk] at h
      | cells cs e' tot' =>
        cases tot' with
        | none => simp [fitBlk] at h
        | some c =>
          simp only [fitBlk, Bool.and_eq_true] at h
          obtain ⟨⟨⟨g1, g2⟩, g3⟩, g4⟩ := h
          have he := Nat.eq_of_beq_eq_true g1
          have hs := Nat.eq_of_beq_eq_true g2
          subst he
          obtain ⟨rest, h1, h2, h3, h4⟩ := hb
          obtain ⟨f1, f2⟩ := fitVs_spec (w := w) (tm := tm) hp _ _ g4 h2
          obtain ⟨c1, c2⟩ := fitE_spec (km := km) (w := w) (tm := tm) hp g3 h3
          have hl : ps.length = cs.length := by rw [← dens_length (ρ.join nv vm km w tm) ps, f1, dens_length]
          exact ⟨rest, by rw [f1]; exact h1, f2, c2, by rw [c1, hs, hl]; exact h4⟩
    | none =>
      cases b with
      | none => simp [fitBlk] at h
      | map es c => simp [fitBlk] at h
      | cells cs e' tot' =>
        cases tot' with
        | some c => simp [fitBlk] at h
        | none =>
          simp only [fitBlk, Bool.and_eq_true] at h
          have he := Nat.eq_of_beq_eq_true h.1
          subst he
          obtain ⟨rest, h1, h2, h3⟩ := hb
          dsimp only at h3
          subst h3
          obtain ⟨f1, f2⟩ := fitVs_spec (w := w) (tm := tm) hp _ _ h.2 h2
          exact ⟨[], by rw [f1]; exact h1, f2, rfl⟩

theorem allT_spec {α : Type} {p : α → Bool} {d : α} (hd : p d = true) : ∀ {t : T α}, allT p t = true → ∀ i, p (t.get d i) = true := by
  intro t
  induction t with
  | nil => intro _ i; exact hd
  | node v l r ihl ihr =>
    intro h i
    simp only [allT, Bool.and_eq_true] at h
    rw [T.get_node]
    split
    · exact h.1.1
    · split
      · exact ihl h.1.2 _
      · exact ihr h.2 _

theorem belowPC_spec {pc : PC} (hp : pc.holds ρ) (h : belowPC nv pc = true) : pc.holds (ρ.join nv vm km w tm) := by
  simp only [belowPC, Bool.and_eq_true] at h
  obtain ⟨⟨h1, h2⟩, h3⟩ := h
  refine ⟨⟨fun i p hm => ?_, fun i p hm => ?_, fun p hm => ?_⟩, fun i p hm => ?_, fun p hm => ?_⟩
  · have := allB_spec (allT_spec (d := []) rfl h1 i) p hm
    rw [(below_spec this).1]; exact hp.1.1 i p hm
  · have := allB_spec (allT_spec (d := []) rfl h2 i) p hm
    rw [(below_spec this).1]; exact hp.1.2.1 i p hm
  · have := allB_spec h3 p hm
    rw [(below_spec this).1]; exact hp.1.2.2 p hm
  · have := allB_spec (allT_spec (d := []) rfl h1 i) p hm
    exact (below_spec this).2 (hp.2.1 i p hm)
  · have := allB_spec h3 p hm
    exact (below_spec this).2 (hp.2.2 p hm)

theorem only_mem {α : Type} {p : α → Bool} {a : α} : ∀ {l : List α}, a ∈ only p l → a ∈ l
  | [], h => by cases h
  | b :: l, h => by
    unfold only at h
    cases hp : p b <;> simp only [hp, ift_true, ift_false] at h
    · exact List.mem_cons_of_mem _ (only_mem h)
    · rcases List.mem_cons.1 h with rfl | h
      · exact List.mem_cons_self
      · exact List.mem_cons_of_mem _ (only_mem h)
theorem onlyT_get {α : Type} {p : α → Bool} {a : α} : ∀ (t : T (List α)) (i : Nat), a ∈ (onlyT p t).get [] i → a ∈ t.get [] i
  | .nil, i, h => h
  | .node v l r, i, h => by
    simp only [onlyT] at h
    rw [T.get_node] at h ⊢
    split at h
    · rename_i h0; rw [if_pos h0]; exact only_mem h
    · rename_i h0
      rw [if_neg h0]
      split at h
      · rename_i h1; rw [if_pos h1]; exact onlyT_get l _ h
      · rename_i h1; rw [if_neg h1]; exact onlyT_get r _ h
theorem only_holds {pc : PC} (hp : pc.holds ρ) (nv : Nat) : (pc.only nv).holds ρ :=
  ⟨⟨fun i p hm => hp.1.1 i p (onlyT_get _ _ hm), fun i p hm => hp.1.2.1 i p (onlyT_get _ _ hm), fun p hm => hp.1.2.2 p (only_mem hm)⟩, fun i p hm => hp.2.1 i p (onlyT_get _ _ hm), fun p hm => hp.2.2 p (only_mem hm)⟩

theorem nth_succ {α : Type} (d a : α) (l : List α) (n : Nat) : nth d (a :: l) (n + 1) = nth d l n := rfl

theorem fresh_spec : ∀ {l : List Nat}, fresh l = true → ∀ i j, i < l.length → j < l.length → i ≠ j → nth 0 l i ≠ nth 0 l j
  | [], _, i, _, hi, _, _ => by simp at hi
  | k :: ks, h, i, j, hi, hj, hij => by
    simp only [fresh, Bool.and_eq_true] at h
    have mem : ∀ (l : List Nat) (n : Nat), n < l.length → nth 0 l n ∈ l := by
      intro l
      induction l with
      | nil => intro n hn; simp at hn
      | cons a l ih =>
        intro n hn
        cases n with
        | zero => simp [nth]
        | succ n =>
          simp only [List.length_cons] at hn
          have : nth 0 (a :: l) (n + 1) = nth 0 l n := rfl
          rw [this]; exact List.mem_cons_of_mem _ (ih n (by omega))
    have sc : ∀ n, nth 0 (k :: ks) (n + 1) = nth 0 ks n := fun n => rfl
    have z : nth 0 (k :: ks) 0 = k := by simp [nth]
    simp only [List.length_cons] at hi hj
    have ne : ∀ n, n < ks.length → nth 0 ks n ≠ k := fun n hn e => by
      have := allB_spec h.1 _ (mem ks n hn)
      rw [e, Nat.beq_refl] at this; cases this
    cases i with
    | zero =>
      cases j with
      | zero => omega
      | succ j => rw [z, sc]; exact fun e => ne j (by omega) e.symm
    | succ i =>
      cases j with
      | zero => rw [z, sc]; exact ne i (by omega)
      | succ j => rw [sc, sc]; exact fresh_spec h.2 i j (by omega) (by omega) (by omega)

theorem fitBs_spec {st : St} : ∀ {ks : List Nat} {bs : List Blk}, fitBs nv vm km st ks bs = true → ks.length = bs.length ∧ ∀ j, j < ks.length → nth 0 ks j < st.nn ∧ fitBlk nv vm km st.pc (bs.getD j .none) (st.news.get .none (nth 0 ks j)) = true
  | [], [], _ => ⟨rfl, fun j hj => by simp at hj⟩
  | [], _ :: _, h => by simp [fitBs] at h
  | _ :: _, [], h => by simp [fitBs] at h
  | k :: ks, b :: bs, h => by
    simp only [fitBs, Bool.and_eq_true, Nat.blt_eq] at h
    obtain ⟨h1, h2⟩ := fitBs_spec h.2
    refine ⟨by simp [h1], fun j hj => ?_⟩
    cases j with
    | zero => simp only [nth, Nat.beq_refl, ift_true, List.getD_cons_zero]; exact h.1
    | succ j =>
      simp only [List.length_cons] at hj
      have : nth 0 (k :: ks) (j + 1) = nth 0 ks j := rfl
      rw [this, List.getD_cons_succ]
      exact h2 j (by omega)

theorem fitT_spec {pc : PC} {t : T V} : ∀ {l : List (Option V)} {i : Nat}, fitT nv vm km pc t i l = true → ∀ j p, l[j]? = some (some p) → fitV nv vm km pc p (t.get .un (i + j)) = true
  | [], _, _, j, p, h => by simp at h
  | x :: l, i, h, j, p, hj => by
    simp only [fitT, Bool.and_eq_true] at h
    cases j with
    | zero =>
      simp only [List.getElem?_cons_zero, Option.some.injEq] at hj
      subst hj
      exact h.1
    | succ j =>
      have := fitT_spec h.2 j p (by simpa using hj)
      have e : i + 1 + j = i + (j + 1) := by omega
      rwa [e] at this

theorem holes_length : ∀ (l : List (Option V)) (i : Nat), (holes i l).length = l.length
  | [], _ => rfl
  | none :: l, i => by simp [holes, holes_length l]
  | some v :: l, i => by simp [holes, holes_length l]
theorem holes_get : ∀ (l : List (Option V)) (i j : Nat) (x : Option V), l[j]? = some x → (holes i l)[j]? = some (match x with | none => .hole (i + j) | some v => v)
  | [], _, j, _, h => by simp at h
  | y :: l, i, j, x, h => by
    cases j with
    | zero =>
      simp only [List.getElem?_cons_zero, Option.some.injEq] at h
      subst h
      cases y <;> simp [holes]
    | succ j =>
      have := holes_get l (i + 1) j x (by simpa using h)
      have e : i + 1 + j = i + (j + 1) := by omega
      rw [e] at this
      cases y <;> simp [holes, this]

mutual
/-- The number in the machine. -/
def tmD (n : Nat) (a : Act) (w : World) : Tm → Option Int
  | .num k => some k
  | .tmp d => if d < n then (match a.tmps[d]? with | some (.int _ k) => some k | _ => none) else none
  | .cell d c => if d < n then (match a.tmps[d]? with
    | some (.pointer (some ⟨b, o, none⟩)) => (match w.heap[b]? with
      | some (.cells cs _ _) => (match cs[o + c]? with | some (.int _ k) => some k | _ => none)
      | _ => none)
    | _ => none) else none
  | .ite f x y => match fmD n a w f, tmD n a w x, tmD n a w y with
    | some b, some i, some j => some (if b then i else j)
    | _, _, _ => none
def fmD (n : Nat) (a : Act) (w : World) : Fm → Option Bool
  | .eq x y => match tmD n a w x, tmD n a w y with | some i, some j => some (decide (i = j)) | _, _ => none
  | .lt x y => match tmD n a w x, tmD n a w y with | some i, some j => some (decide (i < j)) | _, _ => none
  | .not x => match fmD n a w x with | some b => some (!b) | none => none
  | .or x y => match fmD n a w x, fmD n a w y with | some b, some c => some (b || c) | _, _ => none
end

mutual
theorem tm_spec {ρ : Env} {n : Nat} {t : T V} {st : St} {a : Act} {w : World} (hf : Fr ρ n t a) (hr : Rep ρ st w) : ∀ (x : Tm) {e : E}, tmE n t st x = some e → tmD n a w x = some (e.den ρ) ∧ e.ok ρ
  | .num k, e, h => by
    simp only [tmE, Option.some.injEq] at h
    subst h
    exact ⟨by simp only [tmD, den_lit], trivial⟩
  | .tmp d, e, h => by
    simp only [tmE] at h
    cases hd : Nat.blt d n
    · simp [hd] at h
    · have hlt : d < n := by simpa [Nat.blt_eq] using hd
      simp only [hd, ift_true] at h
      have h1 := hf.val d hlt
      have h2 := hf.ok d
      cases hv : t.get .un d with
      | int k x =>
        simp only [hv, Option.some.injEq] at h
        subst h
        rw [hv] at h1 h2
        simp only [V.den] at h1
        simp only [V.ok] at h2
        exact ⟨by simp [tmD, hlt, h1], h2⟩
      | _ => simp [hv] at h
  | .cell d c, e, h => by
    simp only [tmE] at h
    cases hd : Nat.blt d n
    · simp [hd] at h
    · have hlt : d < n := by simpa [Nat.blt_eq] using hd
      simp only [hd, ift_true] at h
      have h1 := hf.val d hlt
      cases hv : t.get .un d with
      | ptr b o =>
        simp only [hv] at h
        rw [hv] at h1
        simp only [V.den] at h1
        have hb := hr.blk b
        cases hc : st.blk b with
        | cells cs el tot =>
          simp only [hc] at h
          rw [hc] at hb
          obtain ⟨rest, g1, g2, _⟩ := hb
          cases hg : cs[o + c]? with
          | none => simp [hg] at h
          | some v =>
            cases v with
            | int k x =>
              simp only [hg, Option.some.injEq] at h
              subst h
              have hok := oks_get g2 hg
              simp only [V.ok] at hok
              have hl : o + c < cs.length := (List.getElem?_eq_some_iff.1 hg).1
              have hx : ((V.dens ρ cs ++ rest).toArray)[o + c]? = some (.int k (x.den ρ)) := by
                simp only [List.getElem?_toArray]
                rw [List.getElem?_append_left (by rw [dens_length]; exact hl), dens_map, List.getElem?_map, hg]
                simp only [Option.map_some, V.den]
              exact ⟨by simp only [tmD, hlt, if_true, h1, g1, hx], hok⟩
            | _ => simp [hg] at h
        | none => simp [hc] at h
        | map es cl => simp [hc] at h
      | _ => simp [hv] at h
  | .ite f x y, e, h => by
    simp only [tmE] at h
    cases hf' : fmE n t st f with
    | none => simp [hf'] at h
    | some p =>
      cases hx : tmE n t st x with
      | none => simp [hf', hx] at h
      | some q =>
        cases hy : tmE n t st y with
        | none => simp [hf', hx, hy] at h
        | some r =>
          simp only [hf', hx, hy, Option.some.injEq] at h
          subst h
          obtain ⟨p1, p2⟩ := fm_spec hf hr f hf'
          obtain ⟨q1, q2⟩ := tm_spec hf hr x hx
          obtain ⟨r1, r2⟩ := tm_spec hf hr y hy
          obtain ⟨m1, m2⟩ := mkIte_spec (ρ := ρ) (c := p) (a := q) (b := r) p2 (fun _ => q2) (fun _ => r2)
          refine ⟨?_, m2⟩
          simp only [tmD, p1, q1, r1, m1, Option.some.injEq]
          by_cases h : p.den ρ = 0 <;> simp [h]
theorem fm_spec {ρ : Env} {n : Nat} {t : T V} {st : St} {a : Act} {w : World} (hf : Fr ρ n t a) (hr : Rep ρ st w) : ∀ (f : Fm) {e : E}, fmE n t st f = some e → fmD n a w f = some (decide (e.den ρ ≠ 0)) ∧ e.ok ρ
  | .eq x y, e, h => by
    simp only [fmE] at h
    cases hx : tmE n t st x with
    | none => simp [hx] at h
    | some p =>
      cases hy : tmE n t st y with
      | none => simp [hx, hy] at h
      | some q =>
        simp only [hx, hy, Option.some.injEq] at h
        subst h
        obtain ⟨p1, p2⟩ := tm_spec hf hr x hx
        obtain ⟨q1, q2⟩ := tm_spec hf hr y hy
        refine ⟨?_, p2, q2⟩
        simp only [fmD, p1, q1, den_eq, Option.some.injEq]
        by_cases h : p.den ρ = q.den ρ <;> simp [h]
  | .lt x y, e, h => by
    simp only [fmE] at h
    cases hx : tmE n t st x with
    | none => simp [hx] at h
    | some p =>
      cases hy : tmE n t st y with
      | none => simp [hx, hy] at h
      | some q =>
        simp only [hx, hy, Option.some.injEq] at h
        subst h
        obtain ⟨p1, p2⟩ := tm_spec hf hr x hx
        obtain ⟨q1, q2⟩ := tm_spec hf hr y hy
        refine ⟨?_, p2, q2⟩
        simp only [fmD, p1, q1, den_lt, Option.some.injEq]
        by_cases h : p.den ρ < q.den ρ <;> simp [h]
  | .not x, e, h => by
    simp only [fmE] at h
    cases hx : fmE n t st x with
    | none => simp [hx] at h
    | some p =>
      simp only [hx, Option.some.injEq] at h
      subst h
      obtain ⟨p1, p2⟩ := fm_spec hf hr x hx
      refine ⟨?_, p2⟩
      simp only [fmD, p1, E.den, Option.some.injEq]
      by_cases h : p.den ρ = 0 <;> simp [h]
  | .or x y, e, h => by
    simp only [fmE] at h
    cases hx : fmE n t st x with
    | none => simp [hx] at h
    | some p =>
      cases hy : fmE n t st y with
      | none => simp [hx, hy] at h
      | some q =>
        simp only [hx, hy, Option.some.injEq] at h
        subst h
        obtain ⟨p1, p2⟩ := fm_spec hf hr x hx
        obtain ⟨q1, q2⟩ := fm_spec hf hr y hy
        obtain ⟨m1, m2⟩ := mkIte_spec (ρ := ρ) (c := p) (a := .lit 1) (b := q) p2 (fun _ => trivial) (fun _ => q2)
        refine ⟨?_, m2⟩
        simp only [fmD, p1, q1, m1, den_lit, Option.some.injEq]
        by_cases h : p.den ρ = 0 <;> simp [h]
end

/-- A state told otherwise. -/
theorem T.get_set_both {α : Type} (d : α) (t : T α) : ∀ i, (∀ x, (t.set i x).get d i = x) ∨ (∀ x, (t.set i x).get d i = d) := by
  induction t with
  | nil => intro i; exact .inr fun _ => rfl
  | node v l r ihl ihr =>
    intro i
    by_cases h0 : i = 0
    · exact .inl fun x => by rw [T.set_node, if_pos h0, T.get_node, if_pos h0]
    · by_cases h1 : i % 2 = 1
      · rcases ihl (i / 2) with h | h
        · exact .inl fun x => by rw [T.set_node, if_neg h0, if_pos h1, T.get_node, if_neg h0, if_pos h1, h]
        · exact .inr fun x => by rw [T.set_node, if_neg h0, if_pos h1, T.get_node, if_neg h0, if_pos h1, h]
      · rcases ihr (i / 2 - 1) with h | h
        · exact .inl fun x => by rw [T.set_node, if_neg h0, if_neg h1, T.get_node, if_neg h0, if_neg h1, h]
        · exact .inr fun x => by rw [T.set_node, if_neg h0, if_neg h1, T.get_node, if_neg h0, if_neg h1, h]

theorem Rep.retell {ρ : Env} {st : St} {w : World} (h : Rep ρ st w) {i : Nat} {x : Blk} (hi : i < st.nn) (hx : x.fits ρ w.heap[ρ.addr i]?) : Rep ρ (st.upd (.new i) x) w := by
  refine ⟨h.size, h.line, h.low, h.base, h.once, fun j hj => ?_, h.olds, h.apart, h.below, h.kept, h.tape, h.os, h.output, h.drawn, h.dline, h.froz, fun j hj => ?_, ?_⟩
  · simp only [St.upd]
    by_cases hij : i = j
    · subst hij
      rcases T.get_set_or Blk.none x st.news i with e | e
      · rw [e]; exact hx
      · rw [e]; trivial
    · rw [T.get_set_ne _ _ _ _ _ hij]; exact h.news j hj
  · simp only [St.upd] at hj ⊢
    rw [T.get_set_ne _ _ _ _ _ (by omega)]; exact h.fresh j hj
  · exact h.globs

theorem putCell_spec {ρ : Env} {n : Nat} {t : T V} {st : St} {a : Act} {w : World} (hf : Fr ρ n t a) (hr : Rep ρ st w) (ho : st.olds = []) {d c : Nat} {e : E} (he : e.ok ρ)
    (hd : tmD n a w (.cell d c) = some (e.den ρ)) : Rep ρ (putCell n t st d c e) w ∧ (putCell n t st d c e).olds = [] ∧ (putCell n t st d c e).pc = st.pc := by
  unfold putCell
  cases hdn : Nat.blt d n
  · exact ⟨hr, ho, rfl⟩
  · simp only [ift_true]
    cases hv : t.get .un d with
    | ptr b o =>
      dsimp only
      cases hc : st.blk b with
      | cells cs el tot =>
        dsimp only
        cases hg : cs[o + c]? with
        | none => exact ⟨hr, ho, rfl⟩
        | some v =>
          dsimp only
          cases v with
          | int k x =>
            dsimp only
            have hx : tmE n t st (.cell d c) = some x := by
              simp only [tmE, hdn, ift_true, hv, hc, hg]
            obtain ⟨t1, t2⟩ := tm_spec hf hr _ hx
            rw [hd] at t1
            have hden : e.den ρ = x.den ρ := Option.some.inj t1
            cases b with
            | new i =>
              have hi : i < st.nn := by
                simp only [St.blk] at hc
                cases hi : Nat.blt i st.nn
                · simp [hi] at hc
                · simpa [Nat.blt_eq] using hi
              have hb := hr.blk (.new i)
              rw [hc] at hb
              obtain ⟨rest, g1, g2, g3⟩ := hb
              refine ⟨hr.retell hi ⟨rest, ?_, oks_set g2 (by simpa only [V.ok] using he), ?_⟩, ho, rfl⟩
              · have hl : o + c < cs.length := (List.getElem?_eq_some_iff.1 hg).1
                have : V.dens ρ (cs.set (o + c) (.int k e)) = V.dens ρ cs := by
                  rw [dens_set]
                  have hgd : (V.dens ρ cs)[o + c]? = some (.int k (x.den ρ)) := by rw [dens_map, List.getElem?_map, hg]; simp only [Option.map_some, V.den]
                  obtain ⟨hp1, hp2⟩ := List.getElem?_eq_some_iff.1 hgd
                  simp only [V.den, hden]
                  rw [← hp2]; exact List.set_getElem_self hp1
                rw [this]; exact g1
              · cases tot with
                | none => exact g3
                | some q => exact ⟨g3.1, by rw [List.length_set]; exact g3.2⟩
            | old i => rw [St.blk, ho] at hc; cases hc
            | glob g => cases hc
          | _ => exact ⟨hr, ho, rfl⟩
      | none => exact ⟨hr, ho, rfl⟩
      | map es cl => exact ⟨hr, ho, rfl⟩
    | _ => exact ⟨hr, ho, rfl⟩

theorem putCells_spec {ρ : Env} {n : Nat} {t : T V} {a : Act} {w : World} (hf : Fr ρ n t a) : ∀ (l : List (Nat × Nat × Tm)) {st : St}, Rep ρ st w → st.olds = [] → (∀ f ∈ putFacts l, fmD n a w f = some true) →
    Rep ρ (putCells n t l st) w ∧ (putCells n t l st).pc = st.pc
  | [], st, hr, _, _ => ⟨hr, rfl⟩
  | p :: l, st, hr, ho, hfs => by
    have hl := fun f hf => hfs f (List.mem_cons_of_mem _ hf)
    unfold putCells
    cases he : tmE n t st p.2.2 with
    | none => exact putCells_spec hf l hr ho hl
    | some e =>
      obtain ⟨t1, t2⟩ := tm_spec hf hr _ he
      have h0 := hfs (.eq (.cell p.1 p.2.1) p.2.2) (by simp [putFacts])
      simp only [fmD, t1] at h0
      have hd : tmD n a w (.cell p.1 p.2.1) = some (e.den ρ) := by
        cases hc : tmD n a w (.cell p.1 p.2.1) with
        | none => rw [hc] at h0; simp at h0
        | some i => rw [hc] at h0; simp at h0; rw [h0]
      obtain ⟨r1, r2, r3⟩ := putCell_spec hf hr ho t2 hd
      obtain ⟨s1, s2⟩ := putCells_spec hf l r1 r2 hl
      exact ⟨s1, by rw [s2, r3]⟩

theorem factsOk_spec {ρ : Env} {n : Nat} {t : T V} {st : St} {a : Act} {w : World} (hf : Fr ρ n t a) (hr : Rep ρ st w) (hp : st.pc.holds ρ) : ∀ {fs : List Fm}, factsOk n t st fs = true → ∀ f ∈ fs, fmD n a w f = some true
  | [], _, f, h => by cases h
  | g :: fs, h, f, hm => by
    simp only [factsOk, Bool.and_eq_true] at h
    rcases List.mem_cons.1 hm with rfl | hm
    · cases he : fmE n t st f with
      | none => simp [he] at h
      | some e =>
        simp only [he] at h
        obtain ⟨h1, h2⟩ := fm_spec hf hr _ he
        have := prove_spec 20 hp h2 h.1
        rw [h1]; simp [this]
    · exact factsOk_spec hf hr hp h.2 f hm
theorem allFacts_spec {n : Nat} {fs : List Fm} : ∀ {ls : List Leaf}, allFacts n fs ls = true → ∀ l ∈ ls, factsOk n l.t l.st fs = true
  | [], _, l, h => by cases h
  | x :: ls, h, l, hm => by
    simp only [allFacts, Bool.and_eq_true] at h
    rcases List.mem_cons.1 hm with rfl | hm
    · exact h.1
    · exact allFacts_spec h.2 l hm
theorem factsPC_spec {ρ : Env} {n : Nat} {t : T V} {st : St} {a : Act} {w : World} (hf : Fr ρ n t a) (hr : Rep ρ st w) : ∀ {fs : List Fm} {pc pc' : PC}, (∀ f ∈ fs, fmD n a w f = some true) → pc.holds ρ → factsPC n t st fs pc = some pc' → pc'.holds ρ
  | [], pc, pc', _, hp, h => by
    simp only [factsPC, Option.some.injEq] at h
    subst h; exact hp
  | f :: fs, pc, pc', hfs, hp, h => by
    unfold factsPC at h
    cases he : fmE n t st f with
    | none => simp [he] at h
    | some e =>
      simp only [he] at h
      obtain ⟨h1, h2⟩ := fm_spec hf hr _ he
      rw [hfs f (by simp)] at h1
      have h0 : e.den ρ ≠ 0 := by simpa using h1.symm
      obtain ⟨p, h3, h4⟩ := PC.put_true hp h2 h0
      rw [h3] at h
      exact factsPC_spec hf hr (fun g hg => hfs g (List.mem_cons_of_mem _ hg)) h4 h

/-- A way's end is one of the pattern's. -/
theorem fitLeaf_spec {G : List (Nat × List Value)} {n : Nat} {tl : List (Option V)} {bl : List Blk} {m : List Nat × List E} {l : Leaf} {a : Act} {pc0 : PC} (h : fitLeaf G nv tl bl m l = true) (hbp : belowPC nv pc0 = true) (hlen : tl.length = n)
    (hbl : Nat.blt bl.length 4000 = true) (hn : Nat.blt n (2 ^ depthOf 20 n) = true) (hf : Fr ρ n l.t a) (hr : Rep ρ l.st w) (hp : l.st.pc.holds ρ) (hp0 : pc0.holds ρ) :
    Fr (ρ.join nv m.2 m.1 w a.tmps) n (patT n tl) a ∧ Rep (ρ.join nv m.2 m.1 w a.tmps) (patS G bl pc0) w ∧ (patS G bl pc0).pc.holds (ρ.join nv m.2 m.1 w a.tmps) := by
  obtain ⟨km, vm⟩ := m
  simp only [fitLeaf, Bool.and_eq_true] at h
  obtain ⟨⟨⟨⟨h1, h2⟩, h3⟩, h4⟩, h5⟩ := h
  have hG := sameGs_eq h5
  obtain ⟨b1, b2⟩ := fitBs_spec h2
  have hol : l.st.olds = [] := by
    cases ho : l.st.olds with
    | nil => rfl
    | cons x y => rw [ho] at h4; cases h4
  have hbl' : bl.length < 4000 := by simpa [Nat.blt_eq] using hbl
  have hn' : n < 2 ^ depthOf 20 n := by simpa [Nat.blt_eq] using hn
  obtain ⟨g1, g2⟩ := T.get_setAll Blk.none (k := 12) bl 0 (T.mk .none 12) (T.full_mk _ _) (by omega)
  obtain ⟨f1, f2⟩ := T.get_setAll V.un (k := depthOf 20 n) (holes 0 tl) 0 (T.mk .un (depthOf 20 n)) (T.full_mk _ _) (by rw [holes_length]; omega)
  have addr_lt : ∀ j, j < km.length → (ρ.join nv vm km w a.tmps).addr j = ρ.addr (nth 0 km j) := fun j hj => by simp only [Env.join, hj, if_true]
  have addr_ge : ∀ j, (ρ.join nv vm km w a.tmps).addr (km.length + j) = w.heap.size + j := fun j => by
    have : ¬ km.length + j < km.length := by omega
    simp only [Env.join, this, if_false]; congr 1; omega
  have addr_eq : (ρ.join nv vm km w a.tmps).addr km.length = w.heap.size := addr_ge 0
  have hb := hr.base
  refine ⟨⟨hf.defers, hf.size, ⟨_, f1, by omega⟩, fun i hi => ?_, fun i => ?_⟩, ?_, ?_⟩
  · show a.tmps[i]? = some (((patT n tl).get .un i).den _)
    unfold patT
    rw [f2 i, if_pos (by rw [holes_length]; omega), Nat.sub_zero]
    have hx : tl[i]? = some (tl[i]'(by omega)) := List.getElem?_eq_getElem _
    have hh := holes_get tl 0 i _ hx
    rw [List.getD_eq_getElem?_getD, hh]
    cases hxi : tl[i]'(by omega) with
    | none =>
      simp only [Option.getD_some, V.den, Env.join, Nat.zero_add]
      have hs := hf.size
      have : a.tmps[i]? = some (a.tmps[i]'(by omega)) := Array.getElem?_eq_getElem _
      rw [this]; simp [hs, hi]
    | some p =>
      rw [hxi] at hx
      have := fitT_spec h3 i p hx
      rw [Nat.zero_add] at this
      obtain ⟨v1, v2⟩ := fitV_spec (w := w) (tm := a.tmps) hp _ _ this (hf.ok i)
      simp only [Option.getD_some]
      rw [v1]
      exact hf.val i hi
  · show ((patT n tl).get .un i).ok _
    unfold patT
    rw [f2 i, T.get_mk]
    split
    · rename_i hlt
      rw [holes_length] at hlt
      rw [Nat.sub_zero]
      have hx : tl[i]? = some (tl[i]'(by omega)) := List.getElem?_eq_getElem _
      have hh := holes_get tl 0 i _ hx
      rw [List.getD_eq_getElem?_getD, hh]
      cases hxi : tl[i]'(by omega) with
      | none => simp only [Option.getD_some, V.ok]
      | some p =>
        rw [hxi] at hx
        have := fitT_spec h3 i p hx
        rw [Nat.zero_add] at this
        exact (fitV_spec (w := w) (tm := a.tmps) hp _ _ this (hf.ok i)).2
    · exact ok_un _
  · refine ⟨?_, fun i => ?_, fun i hi => ?_, ?_, fun i j hi hj hij => ?_, fun i hi => ?_, fun _ => trivial, fun _ _ h => by simp [patS] at h, fun _ h => by simp [patS] at h, fun b hb' _ => ?_, hr.tape, hr.os, hr.output,
      rfl, fun i => ?_, hr.froz, fun i hi => ?_, ?_⟩
    · simp only [patS]; rw [← b1, addr_eq]
    · simp only [patS]; rw [← b1, addr_ge, addr_eq]
    · simp only [patS] at hi ⊢
      rw [← b1] at hi ⊢
      rw [addr_lt i hi, addr_eq]
      have := hr.low _ (b2 i hi).1
      have := hr.size
      exact ⟨by simp only [Env.join]; omega, by omega⟩
    · simp only [patS]; rw [← b1, addr_eq]
      have := hr.size
      simp only [Env.join]; omega
    · simp only [patS] at hi hj
      rw [← b1] at hi hj
      rw [addr_lt i hi, addr_lt j hj]
      exact hr.once _ _ (b2 i hi).1 (b2 j hj).1 (fresh_spec h1 i j hi hj hij)
    · simp only [patS] at hi ⊢
      rw [← b1] at hi
      rw [g2 i, if_pos (by omega), Nat.sub_zero, addr_lt i hi]
      exact fitBlk_spec hp (b2 i hi).2 (hr.news _ (b2 i hi).1)
    · exact hr.kept b hb' (fun i hi => by simp [hol] at hi)
    · simp only [patS, Env.join]; omega
    · simp only [patS] at hi ⊢
      rw [g2 i, if_neg (by omega), T.get_mk]
    · intro p hp
      simp only [patS, hG] at hp
      obtain ⟨q1, q2, q3⟩ := hr.globs p hp
      exact ⟨q1, fun i hi => by simp [patS] at hi, q3⟩
  · exact belowPC_spec hp0 hbp

end

theorem normals_mem : ∀ {ls : List Leaf} {l : Leaf}, l ∈ ls → l.x = .normal → l ∈ normals ls
  | [], _, h, _ => by cases h
  | x :: ls, l, h, hx => by
    unfold normals
    rcases List.mem_cons.1 h with rfl | h
    · rw [hx]; simp
    · have := normals_mem h hx
      cases x.x <;> simp [this]
theorem others_mem : ∀ {ls : List Leaf} {l : Leaf}, l ∈ ls → l.x ≠ .normal → l ∈ others ls
  | [], _, h, _ => by cases h
  | x :: ls, l, h, hx => by
    unfold others
    rcases List.mem_cons.1 h with rfl | h
    · cases hxx : l.x with
      | normal => exact absurd hxx hx
      | _ => simp
    · have := others_mem h hx
      cases x.x <;> simp [this]

theorem fitLeaves_mem {G : List (Nat × List Value)} {nv : Nat} {tl : List (Option V)} {bl : List Blk} {s : Col} : ∀ {ls : List Leaf} {i : Nat}, fitLeaves G nv tl bl s i ls = true → ∀ l ∈ ls, ∃ m, fitLeaf G nv tl bl m l = true
  | [], _, _, _, h => by cases h
  | x :: ls, i, h, l, hl => by
    simp only [fitLeaves, Bool.and_eq_true] at h
    rcases List.mem_cons.1 hl with rfl | hl
    · exact ⟨_, h.1⟩
    · exact fitLeaves_mem h.2 l hl

theorem colT_length {nv : Nat} {keep : List Nat} {pcs : List PC} {ls : List Leaf} : ∀ (n i : Nat) (s : Col), (colT nv keep pcs ls n i s).1.length = n
  | 0, _, _ => rfl
  | n + 1, i, s => by
    unfold colT
    cases isIn i keep
    · simp only [ift_false, List.length_cons, colT_length n]
    · simp only [ift_true]
      split <;> simp only [List.length_cons, colT_length n]

section
variable {P : Program}

theorem joined_spec {n : Nat} {c : Cut} {pc0 : PC} {ls : List Leaf} {t : T V} {st : St} (h : joined n c pc0 ls = some (t, st)) {ρ : Env} {l : Leaf} {a : Act} {w : World} (hl : l ∈ ls)
    (hf : Fr ρ n l.t a) (hr : Rep ρ l.st w) (hp : l.st.pc.holds ρ) (hp0 : pc0.holds ρ) : ∃ ρ' : Env, ρ'.w = ρ.w ∧ Fr ρ' n t a ∧ Rep ρ' st w ∧ st.pc.holds ρ' ∧ ∀ pcG : PC, belowPC c.nv pcG = true → pcG.holds ρ → pcG.holds ρ' := by
  unfold joined at h
  dsimp only at h
  generalize hr1 : colT c.nv c.keep (ls.map fun l => l.st.pc) ls n 0 ⟨[], [], []⟩ = r at h
  generalize colBs c.nv (ls.map fun l => l.st.pc) ls 1000 0 r.2 = b at h
  generalize globsOf ls = G at h
  cases hc : belowPC c.nv pc0 && Nat.blt b.1.length 4000 && Nat.blt n (2 ^ depthOf 20 n) && fitLeaves G c.nv r.1 b.1 b.2 0 ls && allFacts n c.facts ls && allFacts n (putFacts c.put) ls
  · simp [hc] at h
  · simp only [hc, ift_true] at h
    simp only [Bool.and_eq_true] at hc
    obtain ⟨⟨⟨⟨⟨h1, h2⟩, h3⟩, h4⟩, h5⟩, h6⟩ := hc
    obtain ⟨m, hm⟩ := fitLeaves_mem h4 l hl
    have hlen : r.1.length = n := by rw [← hr1]; exact colT_length _ _ _
    obtain ⟨r1, r2, r3⟩ := fitLeaf_spec hm h1 hlen h2 h3 hf hr hp hp0
    have hfs := factsOk_spec hf hr hp (allFacts_spec h5 l hl)
    have hfp := factsOk_spec hf hr hp (allFacts_spec h6 l hl)
    cases hpc : factsPC n (patT n r.1) (patS G b.1 pc0) c.facts pc0 with
    | none => simp [hpc] at h
    | some pc =>
      simp only [hpc, Option.some.injEq, Prod.mk.injEq] at h
      rw [← h.1, ← h.2]
      obtain ⟨q1, q2⟩ := putCells_spec r1 c.put (st := patS G b.1 pc) (r2.know pc) rfl hfp
      exact ⟨ρ.join c.nv m.2 m.1 w a.tmps, rfl, r1, q1, by rw [q2]; exact factsPC_spec r1 r2 hfs r3 hpc, fun pcG hG hpG => belowPC_spec hpG hG⟩

theorem joinedOr_some {n : Nat} {c : Cut} {pc0 : PC} {ls : List Leaf} {p : T V × St} (h : joinedOr n c pc0 ls = some p) : ∃ c' : Cut, c'.nv = c.nv ∧ joined n c' pc0 ls = some p := by
  unfold joinedOr at h
  cases hj : joined n c pc0 ls with
  | some q => rw [hj] at h; exact ⟨c, rfl, by rw [hj]; exact h⟩
  | none => rw [hj] at h; exact ⟨{ c with put := [] }, rfl, h⟩

theorem evG_sound (hm : P.follows .mixedOrders = true) (hn : Enters P) {H : Hooks} (hH : ∀ ρ, HooksOk P ρ H) {cuts : List Cut} {n : Nat} {W : World} : ∀ (k : Nat) (c : Code) (ls : List Leaf) (pc0 : PC) (r : List Leaf) (Q : Exit → Act → World → Prop),
    evG P H cuts n k c ls pc0 = .ok r → (∀ ρ : Env, ρ.w = W → ∀ l ∈ r, ∀ a' w', Fr ρ n l.t a' → Rep ρ l.st w' → l.st.pc.holds ρ → Q l.x.den a' w') →
    ∀ (ρ : Env), ρ.w = W → pc0.holds ρ → ∀ l ∈ ls, ∀ (a : Act) (w : World), Fr ρ n l.t a → Rep ρ l.st w → l.st.pc.holds ρ → (l.x = .normal → c.wp P Q a w) ∧ (l.x ≠ .normal → Q l.x.den a w)
  | 0, _, _, _, _, _, h, _, _, _, _, _, _, _, _, _, _, _ => by simp [evG] at h
  | k + 1, c, ls, pc0, r, Q, h, hQ, ρ, hW, hp0, l, hl, a, w, hf, hr, hp => by
    unfold evG at h
    -- what stands in either part
    have parts : ∀ {x : Res Leaf}, both (.ok (others ls)) x = .ok r → ∃ r', x = .ok r' ∧ ∀ y ∈ r', y ∈ r := by
      intro x hx
      cases x with
      | bad c => simp [both] at hx
      | ok r' =>
        simp only [both, Res.ok.injEq] at hx
        exact ⟨r', rfl, fun y hy => by rw [← hx]; exact List.mem_append_right _ hy⟩
    have oth : ∀ {x : Res Leaf}, both (.ok (others ls)) x = .ok r → ∀ y ∈ others ls, y ∈ r := by
      intro x hx y hy
      cases x with
      | bad c => simp [both] at hx
      | ok r' =>
        simp only [both, Res.ok.injEq] at hx
        rw [← hx]; exact List.mem_append_left _ hy
    refine ⟨fun hx => ?_, fun hx => hQ ρ hW l (oth h l (others_mem hl hx)) a w hf hr hp⟩
    obtain ⟨r1, h1, hsub⟩ := parts h
    have hln := normals_mem hl hx
    have last : ∀ (c : Code), flat (fun l => ev P H k n c l.t l.st) (normals ls) = .ok r1 → c.wp P Q a w := by
      intro c h1
      obtain ⟨r', e1, e2⟩ := flat_spec h1 l hln
      exact (ev_sound hm hn (hH ρ) k).1 n c l.t l.st a w r' Q hf hr hp e1 fun y hy a' w' hf' hr' hp' => hQ ρ hW y (hsub y (e2 y hy)) a' w' hf' hr' hp'
    cases c with
    | seq x y =>
      dsimp only at h1
      -- what comes behind a way of x
      have glue : ∀ z : Leaf, ∀ (a' : Act) (w' : World), (z.x = .normal → y.wp P Q a' w') → (z.x ≠ .normal → Q z.x.den a' w') → (match z.x.den with | .normal => y.wp P Q a' w' | e => Q e a' w') := by
        intro z a' w' f1 f2
        cases hzx : z.x with
        | normal => exact f1 hzx
        | exit i => have := f2 (by rw [hzx]; simp); rw [hzx] at this; exact this
        | ret => have := f2 (by rw [hzx]; simp); rw [hzx] at this; exact this
      have glue' : ∀ (r' : List Leaf), ev P H k n x l.t l.st = .ok r' → (∀ z ∈ r', ∀ a' w', Fr ρ n z.t a' → Rep ρ z.st w' → z.st.pc.holds ρ → (z.x = .normal → y.wp P Q a' w') ∧ (z.x ≠ .normal → Q z.x.den a' w')) → (Code.seq x y).wp P Q a w := by
        intro r' e1 hz
        refine wp_seq ((ev_sound hm hn (hH ρ) k).1 n x l.t l.st a w r' _ hf hr hp e1 fun z hzm a' w' hf' hr' hp' => ?_)
        obtain ⟨f1, f2⟩ := hz z hzm a' w' hf' hr' hp'
        have := glue z a' w' f1 f2
        cases hzx : z.x <;> rw [hzx] at this <;> exact this
      cases hc : cutFor cuts y with
      | none =>
        simp only [hc] at h1
        cases hfl : flat (fun l => ev P H k n x l.t l.st) (normals ls) with
        | bad c => simp [hfl] at h1
        | ok ms =>
          simp only [hfl] at h1
          obtain ⟨r', e1, e2⟩ := flat_spec hfl l hln
          exact glue' r' e1 fun z hzm a' w' hf' hr' hp' => evG_sound hm hn hH k y ms pc0 r1 Q h1 (fun ρ hW z hz => hQ ρ hW z (hsub z hz)) ρ hW hp0 z (e2 z hzm) a' w' hf' hr' hp'
      | some cut =>
        simp only [hc] at h1
        cases hea : cut.each
        · simp only [hea, ift_false] at h1
          cases hfl : flat (fun l => ev P H k n x l.t l.st) (normals ls) with
          | bad c => simp [hfl] at h1
          | ok ms =>
            simp only [hfl] at h1
            obtain ⟨r', e1, e2⟩ := flat_spec hfl l hln
            refine glue' r' e1 fun z hz0 a' w' hf' hr' hp' => ?_
            have hzm : z ∈ ms := e2 z hz0
            have f2 : z.x ≠ .normal → (∃ x, both (.ok (others ms)) x = .ok r1) ∨ others ms = r1 → Q z.x.den a' w' := by
              intro hzx hor
              have hmem : z ∈ r1 := by
                have h0 := others_mem hzm hzx
                rcases hor with ⟨x, hx⟩ | hx
                · cases x with
                  | bad c => simp [both] at hx
                  | ok q =>
                    simp only [both, Res.ok.injEq] at hx
                    rw [← hx]; exact List.mem_append_left _ h0
                · rw [← hx]; exact h0
              exact hQ ρ hW z (hsub z hmem) a' w' hf' hr' hp'
            cases hns : normals ms with
            | nil =>
              simp only [hns, Res.ok.injEq] at h1
              exact ⟨fun hzx => (by have := normals_mem hzm hzx; rw [hns] at this; cases this), fun hzx => f2 hzx (.inr h1)⟩
            | cons u us =>
              simp only [hns] at h1
              cases hj : joined n cut pc0 (u :: us) with
              | none => simp [hj] at h1
              | some p =>
                simp only [hj] at h1
                have h1' := h1
                refine ⟨fun hzx => ?_, fun hzx => f2 hzx (.inl ⟨_, h1'⟩)⟩
                have hzn := normals_mem hzm hzx
                rw [hns] at hzn
                obtain ⟨ρ', w1, j1, j2, j3, _⟩ := joined_spec (t := p.1) (st := p.2) hj hzn hf' hr' hp' hp0
                cases hg : evG P H cuts n k y [⟨.normal, p.1, p.2⟩] p.2.pc with
                | bad c => simp [hg, both] at h1
                | ok q =>
                  simp only [hg, both, Res.ok.injEq] at h1
                  have hq1 : ∀ z ∈ q, z ∈ r1 := fun z hz => by rw [← h1]; exact List.mem_append_right _ hz
                  have hW' : ρ'.w = W := by rw [w1, hW]
                  exact (evG_sound hm hn hH k y [⟨.normal, p.1, p.2⟩] p.2.pc q Q hg (fun ρ hW z hz => hQ ρ hW z (hsub z (hq1 z hz))) ρ' hW' j3 ⟨.normal, p.1, p.2⟩ (List.mem_singleton.2 rfl) a' w' j1 j2 j3).1 rfl
        · simp only [hea, ift_true] at h1
          cases hfl : flat (oneJoin P H k n x cut pc0) (normals ls) with
          | bad c => simp [hfl] at h1
          | ok ms =>
            simp only [hfl] at h1
            obtain ⟨r2, o1, o2⟩ := flat_spec hfl l hln
            unfold oneJoin at o1
            cases hev : ev P H k n x l.t l.st with
            | bad c => simp [hev] at o1
            | ok vs =>
              simp only [hev] at o1
              have ih := evG_sound hm hn hH k y ms pc0 r1 Q h1 (fun ρ hW z hz => hQ ρ hW z (hsub z hz))
              refine glue' vs hev fun z hzm a' w' hf' hr' hp' => ?_
              cases hns : normals vs with
              | nil =>
                simp only [hns, Res.ok.injEq] at o1
                exact ⟨fun hzx => (by have := normals_mem hzm hzx; rw [hns] at this; cases this),
                  fun hzx => (ih ρ hW hp0 z (o2 z (by rw [← o1]; exact others_mem hzm hzx)) a' w' hf' hr' hp').2 hzx⟩
              | cons u us =>
                simp only [hns] at o1
                cases hb : belowPC cut.nv pc0
                · simp [hb] at o1
                · simp only [hb, ift_true] at o1
                  cases hj : joinedOr n cut (l.st.pc.only cut.nv) (u :: us) with
                  | none =>
                    simp only [hj, Res.ok.injEq] at o1
                    exact ih ρ hW hp0 z (o2 z (by rw [← o1]; exact hzm)) a' w' hf' hr' hp'
                  | some p =>
                    simp only [hj, Res.ok.injEq] at o1
                    refine ⟨fun hzx => ?_, fun hzx => (ih ρ hW hp0 z (o2 z (by rw [← o1]; exact List.mem_cons_of_mem _ (others_mem hzm hzx))) a' w' hf' hr' hp').2 hzx⟩
                    have hzn := normals_mem hzm hzx
                    rw [hns] at hzn
                    obtain ⟨c', hnv, hj'⟩ := joinedOr_some hj
                    rw [← hnv] at hb
                    obtain ⟨ρ', w1, j1, j2, j3, j4⟩ := joined_spec (t := p.1) (st := p.2) hj' hzn hf' hr' hp' (only_holds hp _)
                    have hW' : ρ'.w = W := by rw [w1, hW]
                    exact (ih ρ' hW' (j4 pc0 hb hp0) ⟨.normal, p.1, p.2⟩ (o2 _ (by rw [← o1]; exact List.mem_cons_self)) a' w' j1 j2 j3).1 rfl
    | _ => exact last _ h1

/-- A call of a function, walked with cuts. -/
theorem evCallT_sound (hm : P.follows .mixedOrders = true) (hn : Enters P) {H : Hooks} (hH : ∀ ρ, HooksOk P ρ H) {cuts : List Cut} {k : Nat} {f : FuncId} {args : List V} {st : St} {ρ : Env} {w : World} {r : List (V × St)}
    (hr : Rep ρ st w) (hp : st.pc.holds ρ) (ha : V.oks ρ args) (h : evCallT P H cuts k f args st = .ok r) (R : Value → World → Prop)
    (hR : ∀ ρ' : Env, ρ'.w = ρ.w → ∀ p ∈ r, ∀ w', Rep ρ' p.2 w' → p.2.pc.holds ρ' → p.1.ok ρ' → R (p.1.den ρ') w') :
    Calls P f (V.dens ρ args).toArray w (fun | .returned v, w' => R v w' | _, _ => False) := by
  unfold evCallT callBy at h
  dsimp only at h
  cases hf : P.funcs[f]? with
  | none => simp [hf] at h
  | some fn =>
    simp only [hf] at h
    cases hb : fn.body with
    | none => simp [hb] at h
    | some body =>
      simp only [hb] at h
      cases hfr : frame fn.ntmps args with
      | none => simp [hfr] at h
      | some t =>
        simp only [hfr] at h
        cases hev : evT P H cuts k fn.ntmps body t st with
        | bad c => simp [hev] at h
        | ok ls =>
          simp only [hev] at h
          refine calls_of_wp hf hb ((evG_sound hm hn hH (W := ρ.w) k body [⟨.normal, t, st⟩] st.pc ls _ hev (fun ρ' hW l hl a' w' hf' hr' hp' => ?_) ρ rfl hp ⟨.normal, t, st⟩ (by simp) _ w (frame_spec hfr ha) hr hp).1 rfl)
          obtain ⟨hx, vs, hvs, hmem⟩ := collect_spec h l hl
          obtain ⟨e1, e2⟩ := retV_spec (P := P) hf' hr' hp' fn.results.toList vs hvs
          obtain ⟨o1, o2⟩ := oneOrTup_spec (ρ := ρ') e2
          have res : (results fn a'.tmps).run P w' = .ok ((oneOrTup vs).den ρ') w' := by
            rw [results_eq, Array.mapM_eq_mapM_toList]
            simp only [map_eq_pure_bind, bind_assoc, pure_bind, Sem.run_bind]
            rw [e1]
            simp only [Result.andThen_ok, Sem.run_pure]
            rw [o1]
          have fin : R ((oneOrTup vs).den ρ') w' := hR ρ' hW _ hmem w' hr' hp' o2
          rcases hx with hx | hx
          · rw [hx]; exact ⟨hf'.defers, _, res, fin⟩
          · rw [hx]; exact ⟨hf'.defers, _, res, fin⟩

/-! ## a law in parts -/
/-- The numbers and truth values of arguments, in order. -/
def flatE : List V → List E
  | [] => []
  | .int _ e :: l => e :: flatE l
  | .bool e :: l => e :: flatE l
  | .agg cs :: l => flatC cs ++ flatE l
  | _ :: l => flatE l
where
  flatC : List V → List E
    | [] => []
    | .int _ e :: l => e :: flatC l
    | .bool e :: l => e :: flatC l
    | _ :: l => flatC l
/-- Are numbers less than others? -/
def conjE (es : List E) : List (Nat × Int) → E
  | [] => .lit 1
  | p :: l => mkIte (match es[p.1]? with | some e => .lt e (.lit p.2) | none => .lit 0) (conjE es l) (.lit 0)
/-- The tests that part a law. -/
def partTests (es : List E) : List (List (Nat × Int)) → List E
  | [] => []
  | p :: l => conjE es p :: partTests es l
/-- What is known in a part. -/
def partPC : List E → Nat → PC → Option PC
  | [], _, pc => some pc
  | q :: qs, j, pc => ift (Nat.beq j 0) (pc.put q true) <| match pc.put q false with
    | some pc => partPC qs (j - 1) pc
    | none => none

/-- The law answers true on every way of a part; with cuts. -/
def lawPart (P : Program) (G : List (Nat × List Value)) (H : Hooks) (cuts : List (List Cut)) (k : Nat) (f : FuncId) (ts : List TypeId) (ps : List (List (Nat × Int))) (j : Nat) : Bool :=
  match symArgs P ts 0 with
  | some xs => match partPC (partTests (flatE xs) ps) j PC.init with
    | none => true
    | some pc => match evCallT P H (nth [] cuts j) k f xs (St.init pc G) with
      | .ok r => allTrue r
      | .bad _ => false
  | none => false

theorem flatC_ok {ρ : Env} : ∀ {l : List V}, V.oks ρ l → ∀ e ∈ flatE.flatC l, e.ok ρ
  | [], _, e, he => by simp [flatE.flatC] at he
  | v :: l, h, e, he => by
    simp only [V.oks] at h
    cases v <;> simp only [flatE.flatC, List.mem_cons] at he <;> first
      | exact flatC_ok h.2 e he
      | (rcases he with rfl | he
         · simpa only [V.ok] using h.1
         · exact flatC_ok h.2 e he)
theorem flatE_ok {ρ : Env} : ∀ {l : List V}, V.oks ρ l → ∀ e ∈ flatE l, e.ok ρ
  | [], _, e, he => by simp [flatE] at he
  | v :: l, h, e, he => by
    simp only [V.oks] at h
    cases v <;> simp only [flatE, List.mem_cons, List.mem_append] at he <;> first
      | exact flatE_ok h.2 e he
      | (rcases he with rfl | he
         · simpa only [V.ok] using h.1
         · exact flatE_ok h.2 e he)
      | (rcases he with he | he
         · exact flatC_ok (by simpa only [V.ok] using h.1) e he
         · exact flatE_ok h.2 e he)
theorem conjE_ok {ρ : Env} {es : List E} (h : ∀ e ∈ es, e.ok ρ) : ∀ (l : List (Nat × Int)), (conjE es l).ok ρ
  | [] => trivial
  | p :: l => by
    have hc : (match es[p.1]? with | some e => E.lt e (.lit p.2) | none => .lit 0).ok ρ := by
      cases he : es[p.1]? with
      | none => trivial
      | some e => exact ⟨h e (List.mem_of_getElem? he), trivial⟩
    exact (mkIte_spec (ρ := ρ) (b := .lit 0) hc (fun _ => conjE_ok h l) (fun _ => trivial)).2
theorem partTests_ok {ρ : Env} {es : List E} (h : ∀ e ∈ es, e.ok ρ) : ∀ (l : List (List (Nat × Int))), ∀ q ∈ partTests es l, q.ok ρ
  | [], q, hq => by simp [partTests] at hq
  | p :: l, q, hq => by
    simp only [partTests, List.mem_cons] at hq
    rcases hq with rfl | hq
    · exact conjE_ok h p
    · exact partTests_ok h l q hq
theorem partTests_length (es : List E) : ∀ l : List (List (Nat × Int)), (partTests es l).length = l.length
  | [] => rfl
  | p :: l => by simp [partTests, partTests_length es l]

/-- One of the parts is the one. -/
theorem partPC_spec {ρ : Env} : ∀ (qs : List E) {pc : PC}, pc.holds ρ → (∀ q ∈ qs, q.ok ρ) → ∃ j p, j ≤ qs.length ∧ partPC qs j pc = some p ∧ p.holds ρ
  | [], pc, hp, _ => ⟨0, pc, Nat.le_refl _, rfl, hp⟩
  | q :: qs, pc, hp, hq => by
    by_cases h0 : q.den ρ = 0
    · obtain ⟨p, h1, h2⟩ := PC.put_false hp (hq q (by simp)) h0
      obtain ⟨j, p', h3, h4, h5⟩ := partPC_spec qs h2 (fun x hx => hq x (List.mem_cons_of_mem _ hx))
      refine ⟨j + 1, p', by simp only [List.length_cons]; omega, ?_, h5⟩
      unfold partPC
      have : Nat.beq (j + 1) 0 = false := rfl
      rw [this, h1]
      exact h4
    · obtain ⟨p, h1, h2⟩ := PC.put_true hp (hq q (by simp)) h0
      exact ⟨0, p, Nat.zero_le _, h1, h2⟩

variable {H' : Type} {enc : TypeId × Value → H'}

theorem rep_initS {ρ : Env} (h1 : ∀ i, ρ.addr i = ρ.w.heap.size + i) (h2 : ∀ i, ρ.dr i = ρ.w.drawn + i) (pc : PC) {G : List (Nat × List Value)} (h3 : GlobsOk ρ G [] ρ.w) : Rep ρ (St.init pc G) ρ.w := (rep_init h1 h2 h3).know pc

/-- Package variables that hold numbers. -/
def Laid (G : List (Nat × List Value)) (W : World) : Prop := ∀ p ∈ G, ∃ e fr, W.heap[p.1]? = some (.cells p.2.toArray e fr)
theorem Laid.nil {W : World} : Laid [] W := fun _ h => by cases h
theorem Laid.ok {ρ : Env} {G : List (Nat × List Value)} (h : Laid G ρ.w) : GlobsOk ρ G [] ρ.w := fun p hp => by
  obtain ⟨e, fr, h1⟩ := h p hp
  exact ⟨(Array.getElem?_eq_some_iff.1 h1).1, fun _ h => (by cases h), e, fr, h1⟩

/-- A law over plain data that the evaluator finds true in all parts: its call answers true, and the world has at most new blocks. -/
theorem law_parts (hm : P.follows .mixedOrders = true) (hn : Enters P) {G : List (Nat × List Value)} {H : Hooks} (hH : ∀ ρ, HooksOk P ρ H) {cuts : List (List Cut)} {k : Nat} {f : FuncId} {ts : List TypeId} {ps : List (List (Nat × Int))}
    (hlaw : ∀ j, j ≤ ps.length → lawPart P G H cuts k f ts ps j = true)
    {W : World} (hG : Laid G W) {base : Nat} {spare : Nat → Bool} {held : Bool} {rc : Reach} {b0 : Nat} {args : Array Value} {ds : List (DataW H')} {p : List MemPlace}
    (hA : DataW.TrodAll enc P W base spare held ts args.toList ds p) (hval : ∀ (j : Nat) (t : TypeId) (v : Value), ts[j]? = some t → args[j]? = some v → Value.okWide P W rc b0 t v) :
    p = [] ∧ (∀ (w' : World) (base' : Nat) (spare' : Nat → Bool) (held' : Bool), DataW.TrodAll enc P w' base' spare' held' ts args.toList ds []) ∧
      Calls P f args W fun e w' => e = .returned (.bool true) ∧ Grown W w' := by
  cases hs : symArgs P ts 0 with
  | none =>
    have := hlaw 0 (Nat.zero_le _)
    simp [lawPart, hs] at this
  | some xs =>
    obtain ⟨h1, h2, g, hg⟩ := symArgs_spec ts 0 xs hs args.toList ds p hA (fun j t v ht hv => hval j t v ht (by simpa using hv))
    refine ⟨h1, h2, ?_⟩
    let ρ : Env := ⟨g, fun _ _ => 0, fun _ => 0, W, fun i => W.heap.size + i, fun i => W.drawn + i, fun _ => undef⟩
    obtain ⟨d1, d2⟩ := hg ρ fun _ _ => rfl
    obtain ⟨j, pc, j1, j2, j3⟩ := partPC_spec (partTests (flatE xs) ps) (holds_nil ρ) (partTests_ok (flatE_ok d2) ps)
    rw [partTests_length] at j1
    have hl := hlaw j j1
    simp only [lawPart, hs, j2] at hl
    cases he : evCallT P H (nth [] cuts j) k f xs (St.init pc G) with
    | bad c => simp [he] at hl
    | ok r =>
      simp only [he] at hl
      have hc := evCallT_sound hm hn hH (rep_initS (ρ := ρ) (fun _ => rfl) (fun _ => rfl) pc (Laid.ok (ρ := ρ) hG)) j3 d2 he
        (fun v w' => v = .bool true ∧ Grown W w') fun ρ' hW q hq w' hr' hp' ho' => ⟨(allTrue_spec hl q hq hp' ho').1, by
          have := hr'.grown (allTrue_spec hl q hq hp' ho').2
          rwa [hW] at this⟩
      rw [d1] at hc
      refine hc.mono fun e w' h => ?_
      cases e with
      | returned v => exact ⟨by rw [h.1], h.2⟩
      | panicked c => exact h.elim
      | outgrown => exact h.elim
end

end Go.Proofs.YtmacjmofhaghbaaDoor.Sy
end
