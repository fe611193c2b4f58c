/-
  A symbolic evaluator for the model's code: a call without arguments is walked once, its result laid in wherever it is called.
-/
import Derived.Test.YtmacjmofhaghbaaDoorSyU
noncomputable section
namespace Go.Proofs.YtmacjmofhaghbaaDoor.Sy
open Go

def B.shift (k : Nat) : B → B
  | .new i => .new (k + i)
  | b => b

def E.shift (d : Nat) : E → E
  | .lit n => .lit n
  | .var i l h => .var i l h
  | .fn f a l h => .fn f (a.shift d) l h
  | .bin op k a b l h => .bin op k (a.shift d) (b.shift d) l h
  | .conv k a l h => .conv k (a.shift d) l h
  | .eq a b => .eq (a.shift d) (b.shift d)
  | .lt a b => .lt (a.shift d) (b.shift d)
  | .not a => .not (a.shift d)
  | .ite c a b l h => .ite (c.shift d) (a.shift d) (b.shift d) l h
  | .cap e n o t l h => .cap (d + e) (n.shift d) (o.shift d) t l h

mutual
def V.shift (k d : Nat) : V → V
  | .lit v => .lit v
  | .bool e => .bool (e.shift d)
  | .int q e => .int q (e.shift d)
  | .ptr b o => .ptr (b.shift k) o
  | .dptr b o i s u => .dptr (b.shift k) o (i.shift d) s u
  | .slice b o l c => .slice (b.shift k) o (l.shift d) (c.shift d)
  | .map b => .map (b.shift k)
  | .func fn f c => .func fn (V.shifts k d f) (V.shifts k d c)
  | .agg l => .agg (V.shifts k d l)
  | .tup l => .tup (V.shifts k d l)
  | .opt g v => .opt (g.shift d) (v.shift k d)
  | .hole j => .hole j
  | .str es => .str (es.map (E.shift d))
def V.shifts (k d : Nat) : List V → List V
  | [] => []
  | v :: l => v.shift k d :: V.shifts k d l
end

def shiftEs (k d : Nat) : List (V × V × Nat) → List (V × V × Nat)
  | [] => []
  | p :: l => (p.1.shift k d, p.2.1.shift k d, p.2.2) :: shiftEs k d l

def Blk.shift (k d : Nat) : Blk → Blk
  | .none => .none
  | .cells cs e tot => .cells (V.shifts k d cs) e (match tot with | Option.none => Option.none | some c => some (c.1.shift d, c.2))
  | .map es clock => .map (shiftEs k d es) clock

def B.bs : B → List Nat
  | .new i => [i]
  | _ => []
mutual
/-- The new blocks that a value names. -/
def V.bs : V → List Nat
  | .ptr b _ => b.bs
  | .dptr b _ _ _ _ => b.bs
  | .slice b _ _ _ => b.bs
  | .map b => b.bs
  | .func _ f c => V.bss f ++ V.bss c
  | .agg l => V.bss l
  | .tup l => V.bss l
  | .opt _ v => v.bs
  | _ => []
def V.bss : List V → List Nat
  | [] => []
  | v :: l => V.bs v ++ V.bss l
end
def esBs : List (V × V × Nat) → List Nat
  | [] => []
  | p :: l => p.1.bs ++ p.2.1.bs ++ esBs l
def Blk.bs : Blk → List Nat
  | .none => []
  | .cells cs _ _ => V.bss cs
  | .map es _ => esBs es
/-- The blocks that are reached, as bits. -/
def reach (news : T Blk) : Nat → List Nat → Nat → Nat
  | 0, _, m => m
  | k + 1, l, m => match l with
    | [] => m
    | i :: l => ift (bit m i) (reach news k l m) <| reach news k ((news.get .none i).bs ++ l) (Nat.lor m (Nat.shiftLeft 1 i))

def graftN (keep k d : Nat) (src : T Blk) : Nat → T Blk → T Blk
  | 0, t => t
  | n + 1, t => ift (bit keep n) ((graftN keep k d src n t).set (k + n) ((src.get .none n).shift k d)) <| graftN keep k d src n t

def St.graft (st : St) (keep : Nat) (s : St) : St := { nn := st.nn + s.nn, news := graftN keep st.nn st.dr s.news s.nn st.news, olds := st.olds, dr := st.dr + s.dr, pc := st.pc, globs := st.globs }

/-- The same, its blocks not known. -/
def St.graftP (st s : St) : St := { nn := st.nn + s.nn, news := st.news, olds := st.olds, dr := st.dr + s.dr, pc := st.pc, globs := st.globs }

mutual
/-- Does a value name no block? -/
def V.plain : V → Bool
  | .lit _ => true
  | .bool _ => true
  | .int _ _ => true
  | .str _ => true
  | .agg l => V.plains l
  | .tup l => V.plains l
  | _ => false
def V.plains : List V → Bool
  | [] => true
  | v :: l => V.plain v && V.plains l
end

/-- A call without arguments, walked from nothing. -/
def memo (P : Program) (H : Hooks) (k : Nat) (f : FuncId) : List V → St → Res (V × St) := fun args st =>
  match args with
  | [] => match evCall P H k f [] (St.init PC.init) with
    | .ok [p] => match p.2.olds with
      | [] => .ok [(p.1.shift st.nn st.dr, ift (p.1.plain) (st.graftP p.2) <| st.graft (reach p.2.news 1000 p.1.bs 0) p.2)]
      | _ => .bad [920]
    | _ => .bad [921]
  | _ => .bad [922]

section
variable {ρ : Env} {st : St} {w : World}

/-- The same assignment, from this world on. -/
def Env.from (ρ : Env) (w : World) : Env := { ρ with w := w, addr := fun i => w.heap.size + i, dr := fun i => w.drawn + i }

theorem B.shift_no (hr : Rep ρ st w) (b : B) : (b.shift st.nn).no ρ = b.no (ρ.from w) := by
  cases b with
  | new i => simp only [B.shift, B.no, Env.from, hr.size]; exact hr.line i
  | old i => rfl
  | glob g => rfl

theorem E.shift_spec (hr : Rep ρ st w) : ∀ e : E, (e.shift st.dr).den ρ = e.den (ρ.from w) ∧ (e.ok (ρ.from w) → (e.shift st.dr).ok ρ) := by
  intro e
  induction e with
  | lit n => exact ⟨rfl, fun h => h⟩
  | var i l h => exact ⟨rfl, fun h => h⟩
  | fn f a l h ih =>
    have e1 : ((E.fn f a l h).shift st.dr).den ρ = (E.fn f a l h).den (ρ.from w) := by simp only [E.shift, E.den, ih.1]; rfl
    refine ⟨e1, fun ho => ?_⟩
    simp only [E.shift, E.ok, ih.1]
    exact ⟨ih.2 ho.1, ho.2⟩
  | bin op k a b l h iha ihb =>
    refine ⟨by simp only [E.shift, E.den, iha.1, ihb.1], fun ho => ?_⟩
    simp only [E.shift, E.ok, iha.1, ihb.1]
    exact ⟨iha.2 ho.1, ihb.2 ho.2.1, ho.2.2⟩
  | conv k a l h ih =>
    refine ⟨by simp only [E.shift, E.den, ih.1], fun ho => ?_⟩
    simp only [E.shift, E.ok, ih.1]
    exact ⟨ih.2 ho.1, ho.2⟩
  | eq a b iha ihb => exact ⟨by simp only [E.shift, E.den, iha.1, ihb.1], fun ho => ⟨iha.2 ho.1, ihb.2 ho.2⟩⟩
  | lt a b iha ihb => exact ⟨by simp only [E.shift, E.den, iha.1, ihb.1], fun ho => ⟨iha.2 ho.1, ihb.2 ho.2⟩⟩
  | not a ih => exact ⟨by simp only [E.shift, E.den, ih.1], fun ho => ih.2 ho⟩
  | ite c a b l h ihc iha ihb =>
    refine ⟨by simp only [E.shift, E.den, ihc.1, iha.1, ihb.1], fun ho => ?_⟩
    simp only [E.shift, E.ok, ihc.1, iha.1, ihb.1]
    exact ⟨ihc.2 ho.1, fun h => iha.2 (ho.2.1 h), fun h => ihb.2 (ho.2.2.1 h), ho.2.2.2⟩
  | cap d n o t l h ihn iho =>
    have e1 : ((E.cap d n o t l h).shift st.dr).den ρ = (E.cap d n o t l h).den (ρ.from w) := by
      have hd : (ρ.from w).dr d = ρ.dr (st.dr + d) := by simp only [Env.from, hr.drawn, hr.dline d]
      have ht : (ρ.from w).w.tape = ρ.w.tape := hr.tape
      simp only [E.shift, E.den, ihn.1, iho.1, hd, ht]
    refine ⟨e1, fun ho => ?_⟩
    simp only [E.ok] at ho
    rw [← e1] at ho
    simp only [E.shift, E.ok]
    simp only [E.shift] at ho
    exact ⟨ihn.2 ho.1, iho.2 ho.2.1, ho.2.2⟩

mutual
theorem V.shift_spec (hr : Rep ρ st w) : ∀ v : V, (v.shift st.nn st.dr).den ρ = v.den (ρ.from w) ∧ (v.ok (ρ.from w) → (v.shift st.nn st.dr).ok ρ)
  | .lit v => ⟨by simp only [V.shift, V.den], fun _ => by simp only [V.shift, V.ok]⟩
  | .bool e => ⟨by simp only [V.shift, V.den, (E.shift_spec hr e).1], fun h => by simp only [V.shift, V.ok] at h ⊢; exact (E.shift_spec hr e).2 h⟩
  | .int q e => ⟨by simp only [V.shift, V.den, (E.shift_spec hr e).1], fun h => by simp only [V.shift, V.ok] at h ⊢; exact (E.shift_spec hr e).2 h⟩
  | .ptr b o => ⟨by simp only [V.shift, V.den, B.shift_no hr], fun _ => by simp only [V.shift, V.ok]⟩
  | .dptr b o i s u => ⟨by simp only [V.shift, V.den, B.shift_no hr, (E.shift_spec hr i).1], fun h => by
      simp only [V.shift, V.ok, (E.shift_spec hr i).1] at h ⊢; exact ⟨(E.shift_spec hr i).2 h.1, h.2⟩⟩
  | .slice b o l c => ⟨by simp only [V.shift, V.den, B.shift_no hr, (E.shift_spec hr l).1, (E.shift_spec hr c).1], fun h => by
      simp only [V.shift, V.ok, (E.shift_spec hr l).1, (E.shift_spec hr c).1] at h ⊢
      exact ⟨(E.shift_spec hr l).2 h.1, (E.shift_spec hr c).2 h.2.1, h.2.2⟩⟩
  | .map b => ⟨by simp only [V.shift, V.den, B.shift_no hr], fun _ => by simp only [V.shift, V.ok]⟩
  | .func fn f c => ⟨by simp only [V.shift, V.den, (V.shifts_spec hr f).1, (V.shifts_spec hr c).1], fun h => by
      simp only [V.shift, V.ok] at h ⊢; exact ⟨(V.shifts_spec hr f).2 h.1, (V.shifts_spec hr c).2 h.2⟩⟩
  | .agg l => ⟨by simp only [V.shift, V.den, (V.shifts_spec hr l).1], fun h => by simp only [V.shift, V.ok] at h ⊢; exact (V.shifts_spec hr l).2 h⟩
  | .tup l => ⟨by simp only [V.shift, V.den, (V.shifts_spec hr l).1], fun h => by simp only [V.shift, V.ok] at h ⊢; exact (V.shifts_spec hr l).2 h⟩
  | .opt g v => ⟨by simp only [V.shift, V.den, (E.shift_spec hr g).1, (V.shift_spec hr v).1], fun h => by
      simp only [V.shift, V.ok, (E.shift_spec hr g).1] at h ⊢; exact ⟨(E.shift_spec hr g).2 h.1, fun h0 => (V.shift_spec hr v).2 (h.2 h0)⟩⟩
  | .hole j => ⟨by simp only [V.shift, V.den, Env.from], fun _ => by simp only [V.shift, V.ok]⟩
  | .str es => ⟨by
      have : ∀ e : E, UInt8.ofNat ((e.shift st.dr).den ρ).toNat = UInt8.ofNat (e.den (ρ.from w)).toNat := fun e => by rw [(E.shift_spec hr e).1]
      simp only [V.shift, V.den, List.map_map, Function.comp_def, this], fun h => by
      simp only [V.shift, V.ok] at h ⊢
      intro e he
      obtain ⟨e', he', rfl⟩ := List.mem_map.1 he
      obtain ⟨h1, h2, h3⟩ := h e' he'
      exact ⟨(E.shift_spec hr e').2 h1, by rw [(E.shift_spec hr e').1]; exact h2, by rw [(E.shift_spec hr e').1]; exact h3⟩⟩
theorem V.shifts_spec (hr : Rep ρ st w) : ∀ l : List V, V.dens ρ (V.shifts st.nn st.dr l) = V.dens (ρ.from w) l ∧ (V.oks (ρ.from w) l → V.oks ρ (V.shifts st.nn st.dr l))
  | [] => ⟨by simp only [V.shifts, V.dens], fun _ => by simp only [V.shifts, V.oks]⟩
  | v :: l => ⟨by simp only [V.shifts, V.dens, (V.shift_spec hr v).1, (V.shifts_spec hr l).1], fun h => by
      simp only [V.shifts, V.oks] at h ⊢; exact ⟨(V.shift_spec hr v).2 h.1, (V.shifts_spec hr l).2 h.2⟩⟩
end

theorem shifts_length (k d : Nat) : ∀ l : List V, (V.shifts k d l).length = l.length
  | [] => by simp only [V.shifts]
  | v :: l => by simp only [V.shifts, List.length_cons, shifts_length k d l]

theorem shiftEs_spec (hr : Rep ρ st w) : ∀ es : List (V × V × Nat), (shiftEs st.nn st.dr es).map (V.entry ρ) = es.map (V.entry (ρ.from w)) ∧
    ((∀ p ∈ es, p.1.ok (ρ.from w) ∧ p.2.1.ok (ρ.from w)) → ∀ p ∈ shiftEs st.nn st.dr es, p.1.ok ρ ∧ p.2.1.ok ρ)
  | [] => ⟨rfl, fun _ p hp => by simp [shiftEs] at hp⟩
  | q :: es => by
    obtain ⟨i1, i2⟩ := shiftEs_spec hr es
    refine ⟨by simp only [shiftEs, List.map_cons, i1, V.entry, (V.shift_spec hr _).1], fun h p hp => ?_⟩
    simp only [shiftEs, List.mem_cons] at hp
    rcases hp with rfl | hp
    · have := h q (by simp)
      exact ⟨(V.shift_spec hr _).2 this.1, (V.shift_spec hr _).2 this.2⟩
    · exact i2 (fun p hp => h p (List.mem_cons_of_mem _ hp)) p hp

theorem Blk.shift_fits (hr : Rep ρ st w) {b : Blk} {o : Option Obj} (h : b.fits (ρ.from w) o) : (b.shift st.nn st.dr).fits ρ o := by
  cases b with
  | none => trivial
  | cells cs e tot =>
    obtain ⟨rest, h1, h2, h3⟩ := h
    refine ⟨rest, by rw [(V.shifts_spec hr cs).1]; exact h1, (V.shifts_spec hr cs).2 h2, ?_⟩
    cases tot with
    | none => exact h3
    | some c =>
      dsimp only at h3 ⊢
      rw [(E.shift_spec hr c.1).1, shifts_length]
      exact ⟨(E.shift_spec hr c.1).2 h3.1, h3.2⟩
  | map es clock =>
    obtain ⟨h1, h2⟩ := h
    exact ⟨by rw [(shiftEs_spec hr es).1]; exact h1, (shiftEs_spec hr es).2 h2⟩

theorem graftN_lt (keep k d : Nat) (src : T Blk) : ∀ (n : Nat) (t : T Blk) (i : Nat), i < k → (graftN keep k d src n t).get .none i = t.get .none i
  | 0, _, _, _ => rfl
  | n + 1, t, i, hi => by
    unfold graftN
    cases bit keep n
    · exact graftN_lt keep k d src n t i hi
    · simp only [ift_true]
      rw [T.get_set_ne _ _ _ _ _ (by omega), graftN_lt keep k d src n t i hi]
theorem graftN_ge (keep k d : Nat) (src : T Blk) : ∀ (n : Nat) (t : T Blk) (j : Nat), (∀ i, k ≤ i → t.get .none i = .none) → (graftN keep k d src n t).get .none (k + j) = (src.get .none j).shift k d ∨ (graftN keep k d src n t).get .none (k + j) = .none
  | 0, _, j, h => .inr (h (k + j) (by omega))
  | n + 1, t, j, h => by
    unfold graftN
    cases bit keep n
    · exact graftN_ge keep k d src n t j h
    · simp only [ift_true]
      by_cases hj : j = n
      · subst hj
        exact T.get_set_or _ _ _ _
      · rw [T.get_set_ne _ _ _ _ _ (by omega)]
        exact graftN_ge keep k d src n t j h

theorem graftN_out (keep k d : Nat) (src : T Blk) : ∀ (n : Nat) (t : T Blk) (i : Nat), k + n ≤ i → (graftN keep k d src n t).get .none i = t.get .none i
  | 0, _, _, _ => rfl
  | n + 1, t, i, hi => by
    unfold graftN
    cases bit keep n
    · exact graftN_out keep k d src n t i (by omega)
    · simp only [ift_true]
      rw [T.get_set_ne _ _ _ _ _ (by omega), graftN_out keep k d src n t i (by omega)]

theorem Rep.grows {s : St} {w' : World} (hr : Rep ρ st w) (hs : Rep (ρ.from w) s w') :
    w'.heap.size = ρ.addr (st.nn + s.nn) ∧ (∀ i, ρ.addr (st.nn + s.nn + i) = ρ.addr (st.nn + s.nn) + i) ∧ (∀ i, i < st.nn + s.nn → ρ.w.heap.size ≤ ρ.addr i ∧ ρ.addr i < ρ.addr (st.nn + s.nn)) ∧
      ρ.w.heap.size ≤ ρ.addr (st.nn + s.nn) ∧ (∀ i j, i < st.nn + s.nn → j < st.nn + s.nn → i ≠ j → ρ.addr i ≠ ρ.addr j) ∧ (∀ i, ρ.dr (st.dr + s.dr + i) = ρ.dr (st.dr + s.dr) + i) ∧ w'.drawn = ρ.dr (st.dr + s.dr) := by
  have h1 := hs.size
  have h2 := hs.drawn
  simp only [Env.from] at h1 h2
  have l0 := hr.line s.nn
  have d0 := hr.dline s.dr
  have hb := hr.base
  have at_ : ∀ i, st.nn ≤ i → ρ.addr i = ρ.addr st.nn + (i - st.nn) := fun i hi => by
    have := hr.line (i - st.nn)
    rwa [show st.nn + (i - st.nn) = i by omega] at this
  refine ⟨by rw [h1, hr.size, l0], fun i => ?_, fun i hi => ?_, by omega, fun i j hi hj hij => ?_, fun i => ?_, by rw [h2, hr.drawn, d0]⟩
  · have := hr.line (s.nn + i)
    rw [← Nat.add_assoc] at this
    omega
  · by_cases h : i < st.nn
    · have := hr.low i h; omega
    · have := at_ i (by omega); omega
  · by_cases h : i < st.nn
    · have h3 := hr.low i h
      by_cases h' : j < st.nn
      · exact hr.once i j h h' hij
      · have := at_ j (by omega); omega
    · have h3 := at_ i (by omega)
      by_cases h' : j < st.nn
      · have := hr.low j h'; omega
      · have := at_ j (by omega); omega
  · have := hr.dline (s.dr + i)
    rw [← Nat.add_assoc] at this
    omega

theorem Rep.graftP {s : St} {w' : World} (hr : Rep ρ st w) (hs : Rep (ρ.from w) s w') (ho : s.olds = []) : Rep ρ (st.graftP s) w' := by
  have hk : ∀ b, b < w.heap.size → w'.heap[b]? = w.heap[b]? := fun b hb => hs.kept b hb (fun i hi => by simp [ho] at hi)
  obtain ⟨g1, g2, g3, g4, g5, g6, g7⟩ := hr.grows hs
  have hb := hr.base
  refine ⟨g1, g2, g3, g4, g5, fun i hi => ?_, fun i => ?_, hr.apart, hr.below, fun b hb hne => ?_, ?_, ?_, ?_, g7, g6, ?_, fun i hi => ?_, hr.globs.step fun b hb _ => hk b (by rw [hr.size]; have := hr.base; omega)⟩
  · simp only [St.graftP] at hi ⊢
    by_cases hlt : i < st.nn
    · have := hr.low i hlt
      rw [hk _ (by rw [hr.size]; omega)]
      exact hr.news i hlt
    · rw [hr.fresh i (by omega)]; trivial
  · simp only [St.graftP]
    by_cases hn : lookO i st.olds = .none
    · rw [hn]; trivial
    · have := hr.below i (lookO_mem hn)
      rw [hk _ (by rw [hr.size]; omega)]
      exact hr.olds i
  · rw [hk b (by rw [hr.size]; omega)]; exact hr.kept b hb hne
  · rw [hs.tape]; exact hr.tape
  · rw [hs.os]; exact hr.os
  · rw [hs.output]; exact hr.output
  · intro a; rw [hs.froz a]; exact hr.froz a
  · simp only [St.graftP] at hi ⊢
    exact hr.fresh i (by omega)

theorem Rep.graft {s : St} {w' : World} (keep : Nat) (hr : Rep ρ st w) (hs : Rep (ρ.from w) s w') (ho : s.olds = []) : Rep ρ (st.graft keep s) w' := by
  have hk : ∀ b, b < w.heap.size → w'.heap[b]? = w.heap[b]? := fun b hb => hs.kept b hb (fun i hi => by simp [ho] at hi)
  obtain ⟨g1, g2, g3, g4, g5, g6, g7⟩ := hr.grows hs
  have hb := hr.base
  refine ⟨g1, g2, g3, g4, g5, fun i hi => ?_, fun i => ?_, hr.apart, hr.below, fun b hb hne => ?_, ?_, ?_, ?_, g7, g6, ?_, fun i hi => ?_, hr.globs.step fun b hb _ => hk b (by rw [hr.size]; have := hr.base; omega)⟩
  · simp only [St.graft] at hi ⊢
    by_cases hlt : i < st.nn
    · have := hr.low i hlt
      rw [graftN_lt _ _ _ _ _ _ _ hlt, hk _ (by rw [hr.size]; omega)]
      exact hr.news i hlt
    · obtain ⟨j, rfl⟩ : ∃ j, i = st.nn + j := ⟨i - st.nn, by omega⟩
      rcases graftN_ge keep st.nn st.dr s.news s.nn st.news j hr.fresh with e | e
      · rw [e]
        have := hs.news j (by omega)
        have e2 : (ρ.from w).addr j = ρ.addr (st.nn + j) := by simp only [Env.from, hr.size, hr.line j]
        rw [e2] at this
        exact Blk.shift_fits hr this
      · rw [e]; trivial
  · simp only [St.graft]
    by_cases hn : lookO i st.olds = .none
    · rw [hn]; trivial
    · have := hr.below i (lookO_mem hn)
      rw [hk _ (by rw [hr.size]; omega)]
      exact hr.olds i
  · rw [hk b (by rw [hr.size]; omega)]; exact hr.kept b hb hne
  · rw [hs.tape]; exact hr.tape
  · rw [hs.os]; exact hr.os
  · rw [hs.output]; exact hr.output
  · intro a; rw [hs.froz a]; exact hr.froz a
  · simp only [St.graft] at hi ⊢
    rw [graftN_out _ _ _ _ _ _ _ hi]
    exact hr.fresh i (by omega)

end

theorem memo_sound {P : Program} (hm : P.follows .mixedOrders = true) (hn : Enters P) {H : Hooks} (hH : ∀ ρ, HooksOk P ρ H) (k : Nat) (f : FuncId) (ρ : Env) : CallAt P ρ f (memo P H k f) := by
  intro args st w r hr hp ha h
  unfold memo at h
  cases args with
  | cons x l => simp at h
  | nil =>
    dsimp only at h
    cases he : evCall P H k f [] (St.init PC.init) with
    | bad c => simp [he] at h
    | ok l =>
      rw [he] at h
      match l, h, he with
      | [], h, _ => simp at h
      | p :: q :: l, h, _ => simp at h
      | [p], h, he =>
        dsimp only at h
        cases ho : p.2.olds with
        | cons x l => rw [ho] at h; simp at h
        | nil =>
          simp only [ho, Res.ok.injEq] at h
          subst h
          obtain ⟨c1, c2⟩ := evCall_sound hm hn (hH (ρ.from w)) k f [] (St.init PC.init) w _ (rep_init (ρ := ρ.from w) (fun _ => rfl) (fun _ => rfl)) (holds_nil _) (by simp only [V.oks]) he
          simp only [V.dens] at c1 c2 ⊢
          refine ⟨c1, fun R hR => c2 R fun y hy w' hr' hp' ho' => ?_⟩
          simp only [List.mem_singleton] at hy
          subst hy
          obtain ⟨s1, s2⟩ := V.shift_spec hr y.1
          have hrep : Rep ρ (ift (y.1.plain) (st.graftP y.2) <| st.graft (reach y.2.news 1000 y.1.bs 0) y.2) w' := by
            cases y.1.plain
            · exact hr.graft _ hr' ho
            · exact hr.graftP hr' ho
          have hpc : (ift (y.1.plain) (st.graftP y.2) <| st.graft (reach y.2.news 1000 y.1.bs 0) y.2).pc = st.pc := by cases y.1.plain <;> rfl
          have := hR (y.1.shift st.nn st.dr, ift (y.1.plain) (st.graftP y.2) <| st.graft (reach y.2.news 1000 y.1.bs 0) y.2) (by simp) w' hrep (by rw [hpc]; exact hp) (s2 ho')
          dsimp only at this
          rwa [s1] at this

/-- Hooks for calls without arguments. -/
def memos (P : Program) (k : Nat) : List FuncId → Hooks
  | [] => fun _ => none
  | g :: l => fun f => ift (Nat.beq f g && !pureF P g) (some (memo P (memos P k l) k g)) <| memos P k l f

theorem memos_ok {P : Program} (hm : P.follows .mixedOrders = true) (hn : Enters P) (k : Nat) : ∀ (l : List FuncId) (ρ : Env), HooksOk P ρ (memos P k l)
  | [], ρ => hooks_none ρ
  | g :: l, ρ => by
    intro f h hf
    unfold memos at hf
    cases hfg : Nat.beq f g && !pureF P g
    · simp only [hfg, ift_false] at hf
      exact memos_ok hm hn k l ρ f h hf
    · simp only [hfg, ift_true, Option.some.injEq] at hf
      simp only [Bool.and_eq_true, Bool.not_eq_true'] at hfg
      have := Nat.eq_of_beq_eq_true hfg.1
      subst this; subst hf
      exact ⟨memo_sound hm hn (memos_ok hm hn k l) k f ρ, hfg.2⟩

/-! ## calls without arguments, given as literals -/
/-- A function without arguments: what it yields (naming no block), how many blocks it makes, how often it draws. -/
structure Lit1 where
  f : FuncId
  v : V
  nn : Nat
  dr : Nat
def lit1Is (P : Program) (G : List (Nat × List Value)) (H : Hooks) (k : Nat) (m : Lit1) : Bool := !pureF P m.f && m.v.plain && match evCall P H k m.f [] (St.init PC.init G) with
  | .ok [p] => (match p.2.olds with
    | [] => m.v.same p.1 && Nat.beq m.nn p.2.nn && Nat.beq m.dr p.2.dr
    | _ => false)
  | _ => false
def lit1 (G : List (Nat × List Value)) (m : Lit1) : List V → St → Res (V × St) := fun args st => match args with
  | [] => ift (sameGs G st.globs) (.ok [(m.v.shift st.nn st.dr, { st with nn := st.nn + m.nn, dr := st.dr + m.dr })]) <| .bad [924]
  | _ => .bad [922]
/-- Hooks for them. -/
def lit1s (G : List (Nat × List Value)) (B : Hooks) : List Lit1 → Hooks
  | [] => B
  | m :: l => fun f => ift (Nat.beq f m.f) (some (lit1 G m)) <| lit1s G B l f
def lit1sAre (P : Program) (G : List (Nat × List Value)) (B : Hooks) (k : Nat) : List Lit1 → Bool
  | [] => true
  | m :: l => lit1Is P G (lit1s G B l) k m && lit1sAre P G B k l

theorem sameVs_eq : ∀ {l m : List Value}, sameVs l m = true → l = m
  | [], [], _ => rfl
  | [], _ :: _, h => by cases h
  | a :: l, [], h => by cases h
  | a :: l, b :: m, h => by
    simp only [sameVs, Bool.and_eq_true] at h
    have h1 := h.1
    cases a with
    | int k x =>
      cases b with
      | int k' y =>
        simp only [Bool.and_eq_true] at h1
        have e1 := (keq_iff k k').1 h1.1
        have e2 := (ieq_iff x y).1 h1.2
        rw [e1, e2, sameVs_eq h.2]
      | _ => cases h1
    | _ => cases h1
theorem sameGs_eq : ∀ {l m : List (Nat × List Value)}, sameGs l m = true → l = m
  | [], [], _ => rfl
  | [], _ :: _, h => by cases h
  | a :: l, [], h => by cases h
  | (a, x) :: l, (b, y) :: m, h => by
    simp only [sameGs, Bool.and_eq_true] at h
    rw [Nat.eq_of_beq_eq_true h.1.1, sameVs_eq h.1.2, sameGs_eq h.2]

theorem lit1_sound {P : Program} (hm : P.follows .mixedOrders = true) (hn : Enters P) {G : List (Nat × List Value)} {H : Hooks} (hH : ∀ ρ, HooksOk P ρ H) {k : Nat} {m : Lit1} (hm0 : lit1Is P G H k m = true) (ρ : Env) : CallAt P ρ m.f (lit1 G m) := by
  intro args st w r hr hp ha h
  unfold lit1 at h
  unfold lit1Is at hm0
  simp only [Bool.and_eq_true] at hm0
  obtain ⟨_, h0⟩ := hm0
  cases args with
  | cons x l => simp at h
  | nil =>
    dsimp only at h
    cases hg : sameGs G st.globs
    · simp [hg] at h
    simp only [hg, ift_true, Res.ok.injEq] at h
    subst h
    have hG := sameGs_eq hg
    subst hG
    have hgl : GlobsOk (ρ.from w) st.globs [] w := fun p hp => by
      obtain ⟨g1, _, g3⟩ := hr.globs p hp
      have := hr.size
      have := hr.base
      exact ⟨by simp only [Env.from]; omega, fun _ h => (by cases h), g3⟩
    cases he : evCall P H k m.f [] (St.init PC.init st.globs) with
    | bad c => simp [he] at h0
    | ok l =>
      rw [he] at h0
      match l, h0, he with
      | [], h, _ => simp at h
      | p :: q :: l, h, _ => simp at h
      | [p], h0, he =>
        dsimp only at h0
        cases ho : p.2.olds with
        | cons x l => rw [ho] at h0; simp at h0
        | nil =>
          simp only [ho, Bool.and_eq_true] at h0
          have e1 := V.same_eq _ _ h0.1.1
          have e2 := Nat.eq_of_beq_eq_true h0.1.2
          have e3 := Nat.eq_of_beq_eq_true h0.2
          obtain ⟨c1, c2⟩ := evCall_sound hm hn (hH (ρ.from w)) k m.f [] (St.init PC.init st.globs) w _ (rep_init (ρ := ρ.from w) (fun _ => rfl) (fun _ => rfl) hgl) (holds_nil _) (by simp only [V.oks]) he
          simp only [V.dens] at c1 c2 ⊢
          refine ⟨c1, fun R hR => c2 R fun y hy w' hr' hp' ho' => ?_⟩
          simp only [List.mem_singleton] at hy
          subst hy
          obtain ⟨s1, s2⟩ := V.shift_spec hr y.1
          have hrep := hr.graftP hr' ho
          have := hR (m.v.shift st.nn st.dr, { st with nn := st.nn + m.nn, dr := st.dr + m.dr }) (by simp) w' (by rw [e2, e3]; exact hrep) hp (by rw [e1]; exact s2 ho')
          dsimp only at this
          rw [e1, s1] at this
          exact this

theorem lit1s_ok {P : Program} (hm : P.follows .mixedOrders = true) (hn : Enters P) {G : List (Nat × List Value)} {B : Hooks} (hB : ∀ ρ, HooksOk P ρ B) {k : Nat} : ∀ {l : List Lit1}, lit1sAre P G B k l = true → ∀ (ρ : Env), HooksOk P ρ (lit1s G B l)
  | [], _, ρ => hB ρ
  | m :: l, h, ρ => by
    simp only [lit1sAre, Bool.and_eq_true] at h
    intro f g hf
    unfold lit1s at hf
    cases hfg : Nat.beq f m.f
    · simp only [hfg, ift_false] at hf
      exact lit1s_ok hm hn hB h.2 ρ f g hf
    · simp only [hfg, ift_true, Option.some.injEq] at hf
      have := Nat.eq_of_beq_eq_true hfg
      subst this; subst hf
      refine ⟨lit1_sound hm hn (lit1s_ok hm hn hB h.2) h.1 ρ, ?_⟩
      have := h.1
      unfold lit1Is at this
      simp only [Bool.and_eq_true, Bool.not_eq_true'] at this
      exact this.1.1

end Go.Proofs.YtmacjmofhaghbaaDoor.Sy
end
