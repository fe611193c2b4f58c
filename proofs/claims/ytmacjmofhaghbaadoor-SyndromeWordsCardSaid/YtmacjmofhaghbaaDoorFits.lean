import Derived.RangeFuncNested
import Derived.RangeFuncBound
import Derived.RangeFuncCalls
import Derived.RangeFuncLeaves
import Derived.RangeFuncRecord
import Derived.Shelf.Abstract
import Derived.Shelf.RegionOpen
import Derived.WalkKit
import Derived.OwnWalkIn
import Derived.TacticsInMore
import Derived.LoopNIn
import Derived.LoopIn
import Derived.Test.YtmacjmofhaghbaaDoorRows
import Derived.Test.YtmacjmofhaghbaaDoorSyZ
namespace Go.Proofs.YtmacjmofhaghbaaDoor
open Go.RowKit Go.Shelf
attribute [local go_sem] Oper.semAt_some

set_option maxHeartbeats 1000000
theorem w1 : IntKind.i64.wrap (IntKind.i64.wrap 32 + 26) = 58 := by decide
theorem w2 : IntKind.i64.wrap (IntKind.i64.wrap 58 + 0) = 58 := by decide
theorem mask_31_26 (n : Nat) (w : World) :
    CallsIn Fence.wide n Tryd.prog 25 #[.agg #[.int .i64 31, .int .i64 26]] w fun e w' => e = .returned (.int .u64 4227858432) ∧ w' = (w.alloc (.cells #[.int .i64 31, .int .i64 26] 55)).drew := by
  refine callsIn_of_wp Tryd.func25 rfl trivial ?_ rfl
  simp only [Tryd.ntmps25, List.size_toArray, List.length_cons, List.length_nil, Nat.reduceAdd, Nat.reduceSub, Array.replicate_succ, Array.replicate_zero, List.push_toArray, List.append_toArray, List.nil_append, List.cons_append]
  have h1 := w1
  gi_wp2
  gi_region
  all_goals gi_wp2
  go_ret
  exact ⟨rfl, rfl⟩
theorem mask_5_0 (n : Nat) (w : World) :
    CallsIn Fence.wide n Tryd.prog 25 #[.agg #[.int .i64 5, .int .i64 0]] w fun e w' => e = .returned (.int .u64 63) ∧ w' = (w.alloc (.cells #[.int .i64 5, .int .i64 0] 55)).drew := by
  refine callsIn_of_wp Tryd.func25 rfl trivial ?_ rfl
  simp only [Tryd.ntmps25, List.size_toArray, List.length_cons, List.length_nil, Nat.reduceAdd, Nat.reduceSub, Array.replicate_succ, Array.replicate_zero, List.push_toArray, List.append_toArray, List.nil_append, List.cons_append]
  have h1 := w2
  gi_wp2
  gi_region
  all_goals gi_wp2
  go_ret
  exact ⟨rfl, rfl⟩
theorem each (n : Nat) (v : Int) (w : World) :
    CallsIn Fence.wide n Tryd.prog 28 #[.int .u64 v] w fun e w' => e = .returned (.func (.func 34) #[] #[.pointer (some ⟨w.heap.size, 0, none⟩)]) ∧ w' = w.alloc (.cells #[.int .u64 v] 23) := by
  refine callsIn_of_wp Tryd.func28 rfl trivial ?_ rfl
  simp only [Tryd.ntmps28, List.size_toArray, List.length_cons, List.length_nil, Nat.reduceAdd, Nat.reduceSub, Array.replicate_succ, Array.replicate_zero, List.push_toArray, List.append_toArray, List.nil_append, List.cons_append]
  gi_wp2
  go_ret
  exact ⟨rfl, rfl⟩


def bitk (v : Int) (k : Nat) : Prop := bits BinOp.and IntKind.u64 (v / 2 ^ k) 1 = 1
theorem iter (n l bx : Nat) (v : Int) (Wl Ws : World) (hcell : Wl.cell? ⟨bx, 0, none⟩ = some (.int .u64 v)) (d : Nat)
    (hgo : ∀ k : Nat, k < 64 → bitk v k → k ≤ d → YieldAt Fence.wide (n - 1) Tryd.prog l #[.int .i64 k] Wl fun e W' => e = .returned (.bool true) ∧ W' = Wl)
    (hstop : ∀ k : Nat, k < 64 → bitk v k → d < k → YieldAt Fence.wide (n - 1) Tryd.prog l #[.int .i64 k] Wl fun e W' => e = .returned (.bool false) ∧ W' = Ws) :
    CallsIn Fence.wide n Tryd.prog 34 #[.func (.yield l) #[] #[], .pointer (some ⟨bx, 0, none⟩)] Wl fun e W' => (∃ x, e = .returned x) ∧
      (((∀ k, k < 64 → bitk v k → k ≤ d) ∧ W' = Wl) ∨ ((∃ k, k < 64 ∧ bitk v k ∧ d < k) ∧ W' = Ws)) := by
  refine callsIn_of_wp Tryd.func34 rfl trivial ?_ rfl
  simp only [Tryd.ntmps34, List.size_toArray, List.length_cons, List.length_nil, Nat.reduceAdd, Nat.reduceSub, Array.replicate_succ, Array.replicate_zero, List.push_toArray, List.append_toArray, List.nil_append, List.cons_append]
  gi_wp2
  gi_loopw [4] (fun p wr => ∃ k : Nat, k ≤ 64 ∧ p = .int .i64 k ∧ wr = Wl ∧ ∀ j, j < k → bitk v j → j ≤ d)
    (fun p _ => 64 - (intOf p).toNat)
  case atStart =>
    exact ⟨0, by omega, rfl, rfl, fun j h => by omega⟩
  case round =>
    obtain ⟨k, hk, rfl, rfl, hb⟩ := hrel
    by_cases h64 : k = 64
    · subst h64
      gi_wp2
      go_end0
      exact ⟨⟨_, rfl⟩, .inl ⟨fun k hk hbk => hb k hk hbk, rfl⟩⟩
    · have hlt : (k : Int) < 64 := by omega
      by_cases hbit : bits BinOp.and IntKind.u64 (v / 2 ^ k) 1 = 1
      · by_cases hkd : k ≤ d
        · obtain ⟨fn, tmps, assign, body, hy, hR⟩ := hgo k (by omega) hbit hkd
          clear hgo hstop
          gi_wp2
          refine ⟨fun h => (by cases h), hR.mono ?_⟩
          rintro e W3 ⟨rfl, rfl⟩
          gi_wp2
          go_roundw
          case rel =>
            refine ⟨k + 1, by omega, by simp, trivial, fun j hj hbj => ?_⟩
            by_cases hjk : j = k
            · omega
            · exact hb j (by omega) hbj
          case measure => simp [intOf]; omega
        · obtain ⟨fn, tmps, assign, body, hy, hR⟩ := hstop k (by omega) hbit (by omega)
          clear hgo hstop
          gi_wp2
          refine ⟨fun h => (by cases h), hR.mono ?_⟩
          rintro e W3 ⟨rfl, rfl⟩
          gi_wp2
          refine bodyPost_ret (results_none rfl _ _ _) rfl ?_
          exact ⟨⟨_, rfl⟩, .inr ⟨⟨k, by omega, hbit, by omega⟩, rfl⟩⟩
      · clear hgo hstop
        gi_wp2
        refine ⟨fun _ h => (by cases h), ?_⟩
        gi_wp2
        go_roundw
        case rel =>
          refine ⟨k + 1, by omega, by simp, trivial, fun j hj hbj => ?_⟩
          by_cases hjk : j = k
          · subst hjk; exact absurd hbj hbit
          · exact hb j (by omega) hbj
        case measure => simp [intOf]; omega

/-! ## what has been done beside new blocks: nothing -/
structure Skip (n d : Nat) (w w' : World) : Prop where
  size : w'.heap.size = w.heap.size + n
  block : ∀ k, k < w.heap.size → w'.heap[k]? = w.heap[k]?
  tape : w'.tape = w.tape
  os : w'.os = w.os
  output : w'.output = w.output
  drawn : w'.drawn = w.drawn + d
  froz : ∀ a : Addr, w'.frozen? a = w.frozen? a
def coldObj : Obj → Bool
  | .cells _ _ (0, 0) => true
  | .cells _ _ _ => false
  | _ => true
theorem cold_frozen {w : World} {a : Addr} {o : Obj} (h : w.heap[a.block]? = some o) (hc : coldObj o = true) : w.frozen? a = false := by
  unfold World.frozen?
  rw [h]
  cases o with
  | cells c t fr =>
    obtain ⟨x, y⟩ := fr
    unfold coldObj at hc
    split at hc <;> simp_all
  | _ => rfl
namespace Skip
variable {n d : Nat} {w w' : World}
theorem refl (w : World) : Skip 0 0 w w := ⟨rfl, fun _ _ => rfl, rfl, rfl, rfl, rfl, fun _ => rfl⟩
theorem drew (h : Skip n d w w') : Skip n (d + 1) w w'.drew := ⟨h.size, h.block, h.tape, h.os, h.output, by show w'.drawn + 1 = _; rw [h.drawn]; omega, h.froz⟩
theorem alloc (h : Skip n d w w') {o : Obj} (hc : coldObj o = true) : Skip (n + 1) d w (w'.alloc o) := by
  have hsz := h.size
  refine ⟨by rw [World.size_alloc]; omega, fun k hk => ?_, h.tape, h.os, h.output, h.drawn, fun a => ?_⟩
  · rw [Below.heap_alloc _ _ _ (by omega)]; exact h.block k hk
  · rw [← h.froz a]
    by_cases hab : a.block = w'.heap.size
    · have e1 : (w'.alloc o).heap[a.block]? = some o := by rw [hab]; exact World.alloc_heap_new w' o
      have e2 : w'.heap[a.block]? = none := Array.getElem?_eq_none (by omega)
      rw [cold_frozen e1 hc]
      unfold World.frozen?
      rw [e2]
    · by_cases hlt : a.block < w'.heap.size
      · unfold World.frozen?; rw [Below.heap_alloc _ _ _ hlt]
      · have e1 : (w'.alloc o).heap[a.block]? = none := Array.getElem?_eq_none (by rw [World.size_alloc]; omega)
        have e2 : w'.heap[a.block]? = none := Array.getElem?_eq_none (by omega)
        unfold World.frozen?; rw [e1, e2]
theorem setCell (h : Skip n d w w') {a : Addr} (ha : w.heap.size ≤ a.block) (v : Value) : Skip n d w (w'.setCell a v) := by
  refine ⟨by rw [World.size_setCell]; exact h.size, fun k hk => ?_, h.tape, h.os, h.output, h.drawn, fun b => ?_⟩
  · rw [Below.heap_setCell _ _ _ _ (by omega)]; exact h.block k hk
  · rw [World.frozen?_setCell]; exact h.froz b
theorem putObj (h : Skip n d w w') {r : Nat} {o o' : Obj} (hr : w.heap.size ≤ r) (ho : w'.heap[r]? = some o') (h1 : coldObj o' = true) (h2 : coldObj o = true) : Skip n d w (w'.putObj r o) := by
  refine ⟨by rw [World.putObj_size]; exact h.size, fun k hk => ?_, h.tape, h.os, h.output, h.drawn, fun a => ?_⟩
  · rw [World.putObj_heap_other (by omega)]; exact h.block k hk
  · rw [← h.froz a]
    by_cases hab : a.block = r
    · have e1 : (w'.putObj r o).heap[a.block]? = some o := by rw [hab]; exact World.putObj_heap_same (Array.getElem?_eq_some_iff.1 ho).1
      rw [cold_frozen e1 h2, cold_frozen (by rw [hab]; exact ho) h1]
    · unfold World.frozen?; rw [World.putObj_heap_other hab]
end Skip
theorem putObj_putObj (w : World) (r : Nat) (o o' : Obj) : (w.putObj r o).putObj r o' = w.putObj r o' := by
  unfold World.putObj; simp
theorem putObj_self {w : World} {r : Nat} {o : Obj} (h : w.heap[r]? = some o) : w.putObj r o = w := by
  obtain ⟨hlt, he⟩ := Array.getElem?_eq_some_iff.1 h
  unfold World.putObj
  have : w.heap.setIfInBounds r o = w.heap := by
    apply Array.ext_getElem?
    intro k
    by_cases hk : r = k
    · subst hk; rw [h]; simp [hlt]
    · rw [Array.getElem?_setIfInBounds_ne hk]
  rw [this]

theorem cell_old {W : World} (o : Obj) {a : Addr} {v : Value} (h : W.cell? a = some v) : (W.alloc o).cell? a = some v := by
  have hlt := World.block_lt_of_cell? W a h
  rw [← h]
  exact World.cell?_of_block (Below.heap_alloc W o _ hlt)
theorem cell_new (W : World) (v : Value) (t : TypeId) {b : Nat} (hb : b = W.heap.size) : (W.alloc (.cells #[v] t)).cell? ⟨b, 0, none⟩ = some v := by
  subst hb
  unfold World.cell?
  rw [World.alloc_heap_new]; simp

/-- The statement, its record and its block told. -/
theorem range_exact {n : Nat} {P : Program} {g : Operand} {ps : Array Tmp} {assign body : Code} {Q : Exit → Act → World → Prop} {a : Act} {w : World}
    {gf : Nat} {lb : Array Value} (hg : a.eval g = .func (.func gf) #[] lb) (eg : ∀ args w, (callFunc gf args).run P w = .ok (.enter gf args) w)
    (h : ∀ (fn : FuncId) (rec : LoopState → Option Code → Loop) (W1 : World), rec = (fun st pe => { state := st, pending := pe, fn, tmps := a.tmps, params := ps, assign, body, defers := w.heap.size }) →
      W1 = (w.alloc (.deferred (some []))).alloc (.loop (rec .ready none)) → W1.heap[w.heap.size + 1]? = some (.loop (rec .ready none)) → W1.heap[w.heap.size]? = some (.deferred (some [])) →
      CallsIn Fence.wide (n - 1) P gf (#[.func (.yield (w.heap.size + 1)) #[] #[]] ++ lb) W1 (rangePost Fence.wide n P (w.heap.size + 1) Q { a with defers := { target := .collected w.heap.size, args := #[] } :: a.defers })) :
    (Code.rangeFunc g ps assign body).wpIn Fence.wide n P Q a w := by
  refine wpIn_rangeFunc ?_
  intro fn hfn
  obtain ⟨rec, hrec⟩ : ∃ rec : LoopState → Option Code → Loop, rec = fun st pe => { state := st, pending := pe, fn, tmps := a.tmps, params := ps, assign, body, defers := w.heap.size } := ⟨_, rfl⟩
  obtain ⟨W1, hW1⟩ : ∃ W1, (w.alloc (.deferred (some []))).alloc (.loop (rec .ready none)) = W1 := ⟨_, rfl⟩
  have hL1 : W1.heap[w.heap.size + 1]? = some (.loop (rec .ready none)) := by
    rw [← hW1]; have := World.alloc_heap_new (w.alloc (.deferred (some []))) (.loop (rec .ready none)); rwa [World.size_alloc] at this
  have hK1 : W1.heap[w.heap.size]? = some (.deferred (some [])) := by
    rw [← hW1]; exact (Below.heap_alloc _ _ _ (by simp)).trans (World.alloc_heap_new w _)
  refine ⟨w.heap.size + 1, [{ target := .collected w.heap.size, args := #[] }], W1, { target := .fn (.func gf) lb, args := #[.func (.yield (w.heap.size + 1)) #[] #[]] }, W1, gf,
    #[.func (.yield (w.heap.size + 1)) #[] #[]] ++ lb, W1, ?_, ?_, ?_, ?_, fun h => (by cases h), ?_⟩
  · rw [← hW1, hrec]; exact run_enterLoop_outer _ _ _ _ _
  · simp only [resolve, hg]
    simp [go_sem]
  · intro f' hf'; trivial
  · simp [invoke, go_sem, eg]
  · exact h fn rec W1 hrec hW1.symm hL1 hK1
theorem fin_cell {W : World} {a : Addr} {v : Value} {r : Nat} {o : Obj} (h : W.cell? a = some v) (hne : a.block ≠ r) : (W.putObj r o).cell? a = some v := by
  rw [← h]; exact World.cell?_of_block (World.putObj_heap_other hne)
theorem fin_result {W : World} {b : Bool} {a : Addr} (tmps : Array Value) (h : W.cell? a = some (.bool b)) (ht : tmps[6]? = some (.pointer (some a))) : (results Tryd.f24 tmps).run Tryd.prog W = .ok (.bool b) W := by
  simp [results, ht, asAddr, loadVar, h]
theorem fits_31_26 (n : Nat) (v : Int) (w : World) :
    CallsIn Fence.wide n Tryd.prog 24 #[.int .u64 v, .int .i64 31, .int .i64 26] w fun e w' => Skip 7 1 w w' ∧
      (e = .returned (.bool true) ∧ (∀ k, k < 64 → bitk v k → k ≤ 5) ∨ e = .returned (.bool false) ∧ ∃ k, k < 64 ∧ bitk v k ∧ 5 < k) := by
  refine callsIn_of_wp_marks Tryd.func24 rfl trivial ?_ rfl
  simp only [Tryd.ntmps24, List.size_toArray, List.length_cons, List.length_nil, Nat.reduceAdd, Nat.reduceSub, Array.replicate_succ, Array.replicate_zero, List.push_toArray, List.append_toArray, List.nil_append, List.cons_append]
  gi_wp2_with (first
    | (refine ⟨trivial, fun h => (by cases h), ?_⟩; gi_at_call 25; refine (mask_31_26 _ _).mono ?_; rintro e w' ⟨rfl, rfl⟩)
    | (refine ⟨trivial, fun h => (by cases h), ?_⟩; gi_at_call 28; refine (each _ _ _).mono ?_; rintro e w' ⟨rfl, rfl⟩))
  have hs : Skip 5 1 w (((((w.alloc (Obj.cells #[Value.int IntKind.i64 31] 3)).alloc (Obj.cells #[Value.int IntKind.i64 26] 3)).alloc
                (Obj.cells #[Value.bool false] 4)).alloc
            (Obj.cells #[Value.int IntKind.i64 31, Value.int IntKind.i64 26] 55)).alloc
        (Obj.cells #[Value.int IntKind.u64 v] 23)).drew := ((((((Skip.refl w).alloc rfl).alloc rfl).alloc rfl).alloc rfl).alloc rfl).drew
  have c4 : (((((w.alloc (Obj.cells #[Value.int IntKind.i64 31] 3)).alloc (Obj.cells #[Value.int IntKind.i64 26] 3)).alloc
                (Obj.cells #[Value.bool false] 4)).alloc
            (Obj.cells #[Value.int IntKind.i64 31, Value.int IntKind.i64 26] 55)).alloc
        (Obj.cells #[Value.int IntKind.u64 v] 23)).drew.cell? ⟨w.heap.size, 0, none⟩ = some (.int .i64 31) := cell_old _ (cell_old _ (cell_old _ (cell_old _ (cell_new w _ _ rfl))))
  have c5 : (((((w.alloc (Obj.cells #[Value.int IntKind.i64 31] 3)).alloc (Obj.cells #[Value.int IntKind.i64 26] 3)).alloc
                (Obj.cells #[Value.bool false] 4)).alloc
            (Obj.cells #[Value.int IntKind.i64 31, Value.int IntKind.i64 26] 55)).alloc
        (Obj.cells #[Value.int IntKind.u64 v] 23)).drew.cell? ⟨w.heap.size + 1, 0, none⟩ = some (.int .i64 26) := cell_old _ (cell_old _ (cell_old _ (cell_new _ _ _ (by simp))))
  have c6 : (((((w.alloc (Obj.cells #[Value.int IntKind.i64 31] 3)).alloc (Obj.cells #[Value.int IntKind.i64 26] 3)).alloc
                (Obj.cells #[Value.bool false] 4)).alloc
            (Obj.cells #[Value.int IntKind.i64 31, Value.int IntKind.i64 26] 55)).alloc
        (Obj.cells #[Value.int IntKind.u64 v] 23)).drew.cell? ⟨w.heap.size + 1 + 1, 0, none⟩ = some (.bool false) := cell_old _ (cell_old _ (cell_new _ _ _ (by simp)))
  have cx : (((((w.alloc (Obj.cells #[Value.int IntKind.i64 31] 3)).alloc (Obj.cells #[Value.int IntKind.i64 26] 3)).alloc
                (Obj.cells #[Value.bool false] 4)).alloc
            (Obj.cells #[Value.int IntKind.i64 31, Value.int IntKind.i64 26] 55)).alloc
        (Obj.cells #[Value.int IntKind.u64 v] 23)).drew.cell? ⟨w.heap.size + 1 + 1 + 1 + 1, 0, none⟩ = some (.int .u64 v) := cell_new _ _ _ (by simp)
  revert hs c4 c5 c6 cx
  generalize (((((w.alloc (Obj.cells #[Value.int IntKind.i64 31] 3)).alloc (Obj.cells #[Value.int IntKind.i64 26] 3)).alloc
                (Obj.cells #[Value.bool false] 4)).alloc
            (Obj.cells #[Value.int IntKind.i64 31, Value.int IntKind.i64 26] 55)).alloc
        (Obj.cells #[Value.int IntKind.u64 v] 23)).drew = W0
  intro hs c4 c5 c6 cx
  have f6 : W0.frozen? ⟨w.heap.size + 1 + 1, 0, none⟩ = false := by
    rw [hs.froz]
    have e2 : w.heap[w.heap.size + 1 + 1]? = none := Array.getElem?_eq_none (by omega)
    unfold World.frozen?
    rw [e2]
  refine range_exact (gf := 34) (lb := #[.pointer (some ⟨w.heap.size + 1 + 1 + 1 + 1, 0, none⟩)]) rfl (enters_of Tryd.func34 (by kernel_rfl) rfl) ?_
  intro fn rec W1 hrec hW1 hl hD
  have hs1 : Skip 7 1 w W1 := by rw [hW1]; exact (hs.alloc rfl).alloc rfl
  have hsz := hs.size
  have d4 : W1.cell? ⟨w.heap.size, 0, none⟩ = some (.int .i64 31) := by rw [hW1]; exact cell_old _ (cell_old _ c4)
  have d5 : W1.cell? ⟨w.heap.size + 1, 0, none⟩ = some (.int .i64 26) := by rw [hW1]; exact cell_old _ (cell_old _ c5)
  have d6 : W1.cell? ⟨w.heap.size + 1 + 1, 0, none⟩ = some (.bool false) := by rw [hW1]; exact cell_old _ (cell_old _ c6)
  have dx : W1.cell? ⟨w.heap.size + 1 + 1 + 1 + 1, 0, none⟩ = some (.int .u64 v) := by rw [hW1]; exact cell_old _ (cell_old _ cx)
  have busyCell : ∀ {a : Addr} {x : Value}, W1.cell? a = some x → (W1.putObj (W0.heap.size + 1) (.loop { rec .ready none with state := .busy })).cell? a = some x := by
    intro a x hx
    have hne : a.block ≠ W0.heap.size + 1 := by
      intro he
      unfold World.cell? at hx
      rw [he, hl] at hx
      cases hx
    rw [← hx]
    exact World.cell?_of_block (World.putObj_heap_other hne)
  have hs2 : Skip 7 1 w (W1.putObj (W0.heap.size + 1) (.loop { rec .ready none with state := .busy })) := hs1.putObj (by omega) hl rfl rfl
  have hl2 : (W1.putObj (W0.heap.size + 1) (.loop { rec .ready none with state := .busy })).heap[W0.heap.size + 1]? = some (.loop { rec .ready none with state := .busy }) := World.putObj_heap_same (Array.getElem?_eq_some_iff.1 hl).1
  have f62 : (W1.putObj (W0.heap.size + 1) (.loop { rec .ready none with state := .busy })).frozen? ⟨w.heap.size + 1 + 1, 0, none⟩ = false := by
    rw [hs2.froz]
    have e2 : w.heap[w.heap.size + 1 + 1]? = none := Array.getElem?_eq_none (by omega)
    unfold World.frozen?
    rw [e2]
  refine (iter (n - 1) (W0.heap.size + 1) (w.heap.size + 1 + 1 + 1 + 1) v W1
    (((W1.putObj (W0.heap.size + 1) (.loop { rec .ready none with state := .busy })).setCell ⟨w.heap.size + 1 + 1, 0, none⟩ (.bool false)).putObj (W0.heap.size + 1) (.loop (rec .done (some .ret)))) dx 5 ?hgo ?hstop).mono ?_
  case hgo =>
    intro k hk hb hk5
    have hy := run_yield (P := Tryd.prog) (args := #[.int .i64 k]) hl (by rw [hrec]; rfl)
    refine ⟨(rec .ready none).fn, _, _, _, hy, roundIn_of_wpIn trivial ?_⟩
    have e4 := busyCell d4
    have e5 := busyCell d5
    have hbr := run_beginRound (P := Tryd.prog) hl (by rw [hrec])
    have her := run_endRound (P := Tryd.prog) none hl2
    have hself : ((W1.putObj (W0.heap.size + 1) (.loop { rec .ready none with state := .busy })).putObj (W0.heap.size + 1) (.loop (rec .ready none))) = W1 := by
      rw [putObj_putObj, putObj_self hl]
    have her2 : ∀ WB, (W1.putObj (W0.heap.size + 1) (.loop { rec .ready none with state := .busy })) = WB → ∃ w', (Instr.endRound (W0.heap.size + 1) none).run Tryd.prog WB = .ok (.bool true) w' ∧ w' = W1 := by
      intro WB hWB
      subst hWB
      refine ⟨_, her, ?_⟩
      rw [← hself]
      congr 2
      rw [hrec]
      rfl
    obtain ⟨WB, hWB⟩ : ∃ WB, (W1.putObj (W0.heap.size + 1) (.loop { rec .ready none with state := .busy })) = WB := ⟨_, rfl⟩
    have her3 := her2 WB hWB
    rw [hWB] at hbr e4 e5
    clear her her2 hself hs2 hl2 f62 busyCell hWB
    rw [hrec]
    clear hl hD hW1 hrec hy hs1 d4 d5 d6 dx
    dsimp only
    gi_wp2
    refine ⟨_, hbr, ?_⟩
    clear hbr hs c4 c5 c6 cx f6 hsz
    have hk6 : ¬ (5 : Int) < (k : Int) := by omega
    gi_wp2
    obtain ⟨w', g1, g2⟩ := her3
    exact ⟨_, w', g1, rfl, g2⟩
  case hstop =>
    intro k hk hb hk5
    have hy := run_yield (P := Tryd.prog) (args := #[.int .i64 k]) hl (by rw [hrec]; rfl)
    refine ⟨(rec .ready none).fn, _, _, _, hy, roundIn_of_wpIn trivial ?_⟩
    have e4 := busyCell d4
    have e5 := busyCell d5
    have e6 := busyCell d6
    have hbr := run_beginRound (P := Tryd.prog) hl (by rw [hrec])
    have her2 : ∀ WB, (W1.putObj (W0.heap.size + 1) (.loop { rec .ready none with state := .busy })) = WB → ∃ w', (Instr.endRound (W0.heap.size + 1) (some .ret)).run Tryd.prog (WB.setCell ⟨w.heap.size + 1 + 1, 0, none⟩ (.bool false)) = .ok (.bool false) w' ∧ w' = (WB.setCell ⟨w.heap.size + 1 + 1, 0, none⟩ (.bool false)).putObj (W0.heap.size + 1) (.loop (rec .done (some .ret))) := by
      intro WB hWB
      subst hWB
      have hl3 : (((W1.putObj (W0.heap.size + 1) (.loop { rec .ready none with state := .busy })).setCell ⟨w.heap.size + 1 + 1, 0, none⟩ (.bool false))).heap[W0.heap.size + 1]? = some (.loop { rec .ready none with state := .busy }) := by
        rw [Below.heap_setCell _ _ _ _ (by show W0.heap.size + 1 ≠ w.heap.size + 1 + 1; omega)]; exact hl2
      have := run_endRound (P := Tryd.prog) (some .ret) hl3
      refine ⟨_, this, ?_⟩
      congr 2
      rw [hrec]
      rfl
    obtain ⟨WB, hWB⟩ : ∃ WB, (W1.putObj (W0.heap.size + 1) (.loop { rec .ready none with state := .busy })) = WB := ⟨_, rfl⟩
    have her3 := her2 WB hWB
    rw [hWB] at hbr e4 e5 e6 f62 ⊢
    clear her2 hs2 hl2 busyCell hWB
    obtain ⟨WS, hWS⟩ : ∃ WS, (WB.setCell ⟨w.heap.size + 1 + 1, 0, none⟩ (.bool false)).putObj (W0.heap.size + 1) (.loop (rec .done (some .ret))) = WS := ⟨_, rfl⟩
    rw [hWS] at her3 ⊢
    clear hWS
    rw [hrec]
    clear hl hD hW1 hrec hy hs1 d4 d5 d6 dx
    dsimp only
    gi_wp2
    refine ⟨_, hbr, ?_⟩
    clear hbr hs c4 c5 c6 cx f6 hsz
    have hk6 : (5 : Int) < (k : Int) := by omega
    gi_wp2
    obtain ⟨w', g1, g2⟩ := her3
    exact ⟨_, w', g1, rfl, g2⟩
  rintro e W3 ⟨⟨x, rfl⟩, ⟨hbits, rfl⟩ | ⟨hbits, hW3⟩⟩
  · -- the loop has run out
    have hen := run_endLoop (P := Tryd.prog) hl (by rw [hrec]; simp)
    have hp : (rec .ready none).pending = none := by rw [hrec]
    have hs3 : Skip 7 1 w (W3.putObj (W0.heap.size + 1) (.loop { rec .ready none with state := .exhausted })) := hs1.putObj (by omega) hl rfl rfl
    have hD3 : (W3.putObj (W0.heap.size + 1) (.loop { rec .ready none with state := .exhausted })).heap[W0.heap.size]? = some (.deferred (some [])) := (World.putObj_heap_other (by omega)).trans hD
    have g6 : (W3.putObj (W0.heap.size + 1) (.loop { rec .ready none with state := .exhausted })).cell? ⟨w.heap.size + 1 + 1, 0, none⟩ = some (.bool false) := by
      rw [← d6]; exact World.cell?_of_block (World.putObj_heap_other (by show w.heap.size + 1 + 1 ≠ W0.heap.size + 1; omega))
    have gf : (W3.putObj (W0.heap.size + 1) (.loop { rec .ready none with state := .exhausted })).frozen? ⟨w.heap.size + 1 + 1, 0, none⟩ = false := by
      rw [hs3.froz]
      have e2 : w.heap[w.heap.size + 1 + 1]? = none := Array.getElem?_eq_none (by omega)
      unfold World.frozen?
      rw [e2]
    obtain ⟨W4, hW4⟩ : ∃ W4, W3.putObj (W0.heap.size + 1) (.loop { rec .ready none with state := .exhausted }) = W4 := ⟨_, rfl⟩
    rw [hW4] at hen hs3 hD3 g6 gf
    clear hW4
    refine ⟨_, W4, hen, ?_⟩
    rw [hp]
    clear hen hp hl hD hW1 hrec hs1 d4 d5 d6 dx hs c4 c5 c6 cx f6 hl2 hs2 f62 busyCell
    gi_wp2
    rw [hsz] at hD3
    have hs5 := hs3.setCell (a := ⟨w.heap.size + 1 + 1, 0, none⟩) (by show w.heap.size ≤ w.heap.size + 1 + 1; omega) (.bool true)
    have hD5 : (W4.setCell ⟨w.heap.size + 1 + 1, 0, none⟩ (.bool true)).heap[w.heap.size + 5]? = some (.deferred (some [])) := by
      rw [Below.heap_setCell _ _ _ _ (by show w.heap.size + 5 ≠ w.heap.size + 1 + 1; omega)]; exact hD3
    have g7 : (W4.setCell ⟨w.heap.size + 1 + 1, 0, none⟩ (.bool true)).cell? ⟨w.heap.size + 1 + 1, 0, none⟩ = some (.bool true) := World.cell?_setCell_same' _ _ _ (by rw [g6]; rfl)
    refine ⟨by simp, .inl ⟨_, _, rfl, run_takeDeferred hD5, ?_⟩⟩
    have g8 := fin_cell g7 (show w.heap.size + 1 + 1 ≠ w.heap.size + 5 by omega) (o := .deferred none)
    have hs6 := hs5.putObj (o := .deferred none) (by omega) hD5 rfl rfl
    exact ⟨.bool true, fin_result _ g8 rfl, hs6, .inl ⟨rfl, hbits⟩⟩
  · -- a round has left by 'return'
    subst hW3
    have hl3 : (((W1.putObj (W0.heap.size + 1) (.loop { rec .ready none with state := .busy })).setCell ⟨w.heap.size + 1 + 1, 0, none⟩ (.bool false)).putObj (W0.heap.size + 1) (.loop (rec .done (some .ret)))).heap[W0.heap.size + 1]? = some (.loop (rec .done (some .ret))) :=
      World.putObj_heap_same (by rw [World.size_setCell, World.putObj_size]; exact (Array.getElem?_eq_some_iff.1 hl).1)
    have hs3 : Skip 7 1 w (((W1.putObj (W0.heap.size + 1) (.loop { rec .ready none with state := .busy })).setCell ⟨w.heap.size + 1 + 1, 0, none⟩ (.bool false)).putObj (W0.heap.size + 1) (.loop (rec .done (some .ret)))) :=
      (hs2.setCell (by show w.heap.size ≤ w.heap.size + 1 + 1; omega) _).putObj (by omega) (by rw [Below.heap_setCell _ _ _ _ (by show W0.heap.size + 1 ≠ w.heap.size + 1 + 1; omega)]; exact hl2) rfl rfl
    have hD3 : (((W1.putObj (W0.heap.size + 1) (.loop { rec .ready none with state := .busy })).setCell ⟨w.heap.size + 1 + 1, 0, none⟩ (.bool false)).putObj (W0.heap.size + 1) (.loop (rec .done (some .ret)))).heap[W0.heap.size]? = some (.deferred (some [])) := by
      rw [World.putObj_heap_other (by omega), Below.heap_setCell _ _ _ _ (by show W0.heap.size ≠ w.heap.size + 1 + 1; omega), World.putObj_heap_other (by omega)]; exact hD
    have g6 : (((W1.putObj (W0.heap.size + 1) (.loop { rec .ready none with state := .busy })).setCell ⟨w.heap.size + 1 + 1, 0, none⟩ (.bool false)).putObj (W0.heap.size + 1) (.loop (rec .done (some .ret)))).cell? ⟨w.heap.size + 1 + 1, 0, none⟩ = some (.bool false) :=
      fin_cell (World.cell?_setCell_same' _ _ _ (by rw [busyCell d6]; rfl)) (by show w.heap.size + 1 + 1 ≠ W0.heap.size + 1; omega)
    obtain ⟨W5, hW5⟩ : ∃ W5, ((W1.putObj (W0.heap.size + 1) (.loop { rec .ready none with state := .busy })).setCell ⟨w.heap.size + 1 + 1, 0, none⟩ (.bool false)).putObj (W0.heap.size + 1) (.loop (rec .done (some .ret))) = W5 := ⟨_, rfl⟩
    rw [hW5] at hl3 hs3 hD3 g6 ⊢
    clear hW5 busyCell hs2 hl2 f62
    have hen := run_endLoop (P := Tryd.prog) hl3 (by rw [hrec]; simp)
    have hp : (rec .done (some .ret)).pending = some .ret := by rw [hrec]
    have hs4 : Skip 7 1 w (W5.putObj (W0.heap.size + 1) (.loop { rec .done (some .ret) with state := .exhausted })) := hs3.putObj (by omega) hl3 rfl rfl
    have hD4 : (W5.putObj (W0.heap.size + 1) (.loop { rec .done (some .ret) with state := .exhausted })).heap[W0.heap.size]? = some (.deferred (some [])) := (World.putObj_heap_other (by omega)).trans hD3
    have g7 : (W5.putObj (W0.heap.size + 1) (.loop { rec .done (some .ret) with state := .exhausted })).cell? ⟨w.heap.size + 1 + 1, 0, none⟩ = some (.bool false) :=
      fin_cell g6 (by show w.heap.size + 1 + 1 ≠ W0.heap.size + 1; omega)
    obtain ⟨W4, hW4⟩ : ∃ W4, W5.putObj (W0.heap.size + 1) (.loop { rec .done (some .ret) with state := .exhausted }) = W4 := ⟨_, rfl⟩
    rw [hW4] at hen hs4 hD4 g7
    clear hW4
    refine ⟨_, W4, hen, ?_⟩
    rw [hp]
    clear hen hp hl hD hW1 hrec hs1 d4 d5 d6 dx hs c4 c5 c6 cx f6 hl3 hs3 hD3 g6
    gi_wp2
    rw [hsz] at hD4
    refine ⟨by simp, .inl ⟨_, _, rfl, run_takeDeferred hD4, ?_⟩⟩
    have g8 := fin_cell g7 (show w.heap.size + 1 + 1 ≠ w.heap.size + 5 by omega) (o := .deferred none)
    have hs6 := hs4.putObj (o := .deferred none) (by omega) hD4 rfl rfl
    exact ⟨.bool false, fin_result _ g8 rfl, hs6, .inr ⟨rfl, hbits⟩⟩
theorem fits_5_0 (n : Nat) (v : Int) (w : World) :
    CallsIn Fence.wide n Tryd.prog 24 #[.int .u64 v, .int .i64 5, .int .i64 0] w fun e w' => Skip 7 1 w w' ∧
      (e = .returned (.bool true) ∧ (∀ k, k < 64 → bitk v k → k ≤ 5) ∨ e = .returned (.bool false) ∧ ∃ k, k < 64 ∧ bitk v k ∧ 5 < k) := by
  refine callsIn_of_wp_marks Tryd.func24 rfl trivial ?_ rfl
  simp only [Tryd.ntmps24, List.size_toArray, List.length_cons, List.length_nil, Nat.reduceAdd, Nat.reduceSub, Array.replicate_succ, Array.replicate_zero, List.push_toArray, List.append_toArray, List.nil_append, List.cons_append]
  gi_wp2_with (first
    | (refine ⟨trivial, fun h => (by cases h), ?_⟩; gi_at_call 25; refine (mask_5_0 _ _).mono ?_; rintro e w' ⟨rfl, rfl⟩)
    | (refine ⟨trivial, fun h => (by cases h), ?_⟩; gi_at_call 28; refine (each _ _ _).mono ?_; rintro e w' ⟨rfl, rfl⟩))
  have hs : Skip 5 1 w (((((w.alloc (Obj.cells #[Value.int IntKind.i64 5] 3)).alloc (Obj.cells #[Value.int IntKind.i64 0] 3)).alloc
                (Obj.cells #[Value.bool false] 4)).alloc
            (Obj.cells #[Value.int IntKind.i64 5, Value.int IntKind.i64 0] 55)).alloc
        (Obj.cells #[Value.int IntKind.u64 v] 23)).drew := ((((((Skip.refl w).alloc rfl).alloc rfl).alloc rfl).alloc rfl).alloc rfl).drew
  have c4 : (((((w.alloc (Obj.cells #[Value.int IntKind.i64 5] 3)).alloc (Obj.cells #[Value.int IntKind.i64 0] 3)).alloc
                (Obj.cells #[Value.bool false] 4)).alloc
            (Obj.cells #[Value.int IntKind.i64 5, Value.int IntKind.i64 0] 55)).alloc
        (Obj.cells #[Value.int IntKind.u64 v] 23)).drew.cell? ⟨w.heap.size, 0, none⟩ = some (.int .i64 5) := cell_old _ (cell_old _ (cell_old _ (cell_old _ (cell_new w _ _ rfl))))
  have c5 : (((((w.alloc (Obj.cells #[Value.int IntKind.i64 5] 3)).alloc (Obj.cells #[Value.int IntKind.i64 0] 3)).alloc
                (Obj.cells #[Value.bool false] 4)).alloc
            (Obj.cells #[Value.int IntKind.i64 5, Value.int IntKind.i64 0] 55)).alloc
        (Obj.cells #[Value.int IntKind.u64 v] 23)).drew.cell? ⟨w.heap.size + 1, 0, none⟩ = some (.int .i64 0) := cell_old _ (cell_old _ (cell_old _ (cell_new _ _ _ (by simp))))
  have c6 : (((((w.alloc (Obj.cells #[Value.int IntKind.i64 5] 3)).alloc (Obj.cells #[Value.int IntKind.i64 0] 3)).alloc
                (Obj.cells #[Value.bool false] 4)).alloc
            (Obj.cells #[Value.int IntKind.i64 5, Value.int IntKind.i64 0] 55)).alloc
        (Obj.cells #[Value.int IntKind.u64 v] 23)).drew.cell? ⟨w.heap.size + 1 + 1, 0, none⟩ = some (.bool false) := cell_old _ (cell_old _ (cell_new _ _ _ (by simp)))
  have cx : (((((w.alloc (Obj.cells #[Value.int IntKind.i64 5] 3)).alloc (Obj.cells #[Value.int IntKind.i64 0] 3)).alloc
                (Obj.cells #[Value.bool false] 4)).alloc
            (Obj.cells #[Value.int IntKind.i64 5, Value.int IntKind.i64 0] 55)).alloc
        (Obj.cells #[Value.int IntKind.u64 v] 23)).drew.cell? ⟨w.heap.size + 1 + 1 + 1 + 1, 0, none⟩ = some (.int .u64 v) := cell_new _ _ _ (by simp)
  revert hs c4 c5 c6 cx
  generalize (((((w.alloc (Obj.cells #[Value.int IntKind.i64 5] 3)).alloc (Obj.cells #[Value.int IntKind.i64 0] 3)).alloc
                (Obj.cells #[Value.bool false] 4)).alloc
            (Obj.cells #[Value.int IntKind.i64 5, Value.int IntKind.i64 0] 55)).alloc
        (Obj.cells #[Value.int IntKind.u64 v] 23)).drew = W0
  intro hs c4 c5 c6 cx
  have f6 : W0.frozen? ⟨w.heap.size + 1 + 1, 0, none⟩ = false := by
    rw [hs.froz]
    have e2 : w.heap[w.heap.size + 1 + 1]? = none := Array.getElem?_eq_none (by omega)
    unfold World.frozen?
    rw [e2]
  refine range_exact (gf := 34) (lb := #[.pointer (some ⟨w.heap.size + 1 + 1 + 1 + 1, 0, none⟩)]) rfl (enters_of Tryd.func34 (by kernel_rfl) rfl) ?_
  intro fn rec W1 hrec hW1 hl hD
  have hs1 : Skip 7 1 w W1 := by rw [hW1]; exact (hs.alloc rfl).alloc rfl
  have hsz := hs.size
  have d4 : W1.cell? ⟨w.heap.size, 0, none⟩ = some (.int .i64 5) := by rw [hW1]; exact cell_old _ (cell_old _ c4)
  have d5 : W1.cell? ⟨w.heap.size + 1, 0, none⟩ = some (.int .i64 0) := by rw [hW1]; exact cell_old _ (cell_old _ c5)
  have d6 : W1.cell? ⟨w.heap.size + 1 + 1, 0, none⟩ = some (.bool false) := by rw [hW1]; exact cell_old _ (cell_old _ c6)
  have dx : W1.cell? ⟨w.heap.size + 1 + 1 + 1 + 1, 0, none⟩ = some (.int .u64 v) := by rw [hW1]; exact cell_old _ (cell_old _ cx)
  have busyCell : ∀ {a : Addr} {x : Value}, W1.cell? a = some x → (W1.putObj (W0.heap.size + 1) (.loop { rec .ready none with state := .busy })).cell? a = some x := by
    intro a x hx
    have hne : a.block ≠ W0.heap.size + 1 := by
      intro he
      unfold World.cell? at hx
      rw [he, hl] at hx
      cases hx
    rw [← hx]
    exact World.cell?_of_block (World.putObj_heap_other hne)
  have hs2 : Skip 7 1 w (W1.putObj (W0.heap.size + 1) (.loop { rec .ready none with state := .busy })) := hs1.putObj (by omega) hl rfl rfl
  have hl2 : (W1.putObj (W0.heap.size + 1) (.loop { rec .ready none with state := .busy })).heap[W0.heap.size + 1]? = some (.loop { rec .ready none with state := .busy }) := World.putObj_heap_same (Array.getElem?_eq_some_iff.1 hl).1
  have f62 : (W1.putObj (W0.heap.size + 1) (.loop { rec .ready none with state := .busy })).frozen? ⟨w.heap.size + 1 + 1, 0, none⟩ = false := by
    rw [hs2.froz]
    have e2 : w.heap[w.heap.size + 1 + 1]? = none := Array.getElem?_eq_none (by omega)
    unfold World.frozen?
    rw [e2]
  refine (iter (n - 1) (W0.heap.size + 1) (w.heap.size + 1 + 1 + 1 + 1) v W1
    (((W1.putObj (W0.heap.size + 1) (.loop { rec .ready none with state := .busy })).setCell ⟨w.heap.size + 1 + 1, 0, none⟩ (.bool false)).putObj (W0.heap.size + 1) (.loop (rec .done (some .ret)))) dx 5 ?hgo ?hstop).mono ?_
  case hgo =>
    intro k hk hb hk5
    have hy := run_yield (P := Tryd.prog) (args := #[.int .i64 k]) hl (by rw [hrec]; rfl)
    refine ⟨(rec .ready none).fn, _, _, _, hy, roundIn_of_wpIn trivial ?_⟩
    have e4 := busyCell d4
    have e5 := busyCell d5
    have hbr := run_beginRound (P := Tryd.prog) hl (by rw [hrec])
    have her := run_endRound (P := Tryd.prog) none hl2
    have hself : ((W1.putObj (W0.heap.size + 1) (.loop { rec .ready none with state := .busy })).putObj (W0.heap.size + 1) (.loop (rec .ready none))) = W1 := by
      rw [putObj_putObj, putObj_self hl]
    have her2 : ∀ WB, (W1.putObj (W0.heap.size + 1) (.loop { rec .ready none with state := .busy })) = WB → ∃ w', (Instr.endRound (W0.heap.size + 1) none).run Tryd.prog WB = .ok (.bool true) w' ∧ w' = W1 := by
      intro WB hWB
      subst hWB
      refine ⟨_, her, ?_⟩
      rw [← hself]
      congr 2
      rw [hrec]
      rfl
    obtain ⟨WB, hWB⟩ : ∃ WB, (W1.putObj (W0.heap.size + 1) (.loop { rec .ready none with state := .busy })) = WB := ⟨_, rfl⟩
    have her3 := her2 WB hWB
    rw [hWB] at hbr e4 e5
    clear her her2 hself hs2 hl2 f62 busyCell hWB
    rw [hrec]
    clear hl hD hW1 hrec hy hs1 d4 d5 d6 dx
    dsimp only
    gi_wp2
    refine ⟨_, hbr, ?_⟩
    clear hbr hs c4 c5 c6 cx f6 hsz
    have hk6 : ¬ (5 : Int) < (k : Int) := by omega
    gi_wp2
    obtain ⟨w', g1, g2⟩ := her3
    exact ⟨_, w', g1, rfl, g2⟩
  case hstop =>
    intro k hk hb hk5
    have hy := run_yield (P := Tryd.prog) (args := #[.int .i64 k]) hl (by rw [hrec]; rfl)
    refine ⟨(rec .ready none).fn, _, _, _, hy, roundIn_of_wpIn trivial ?_⟩
    have e4 := busyCell d4
    have e5 := busyCell d5
    have e6 := busyCell d6
    have hbr := run_beginRound (P := Tryd.prog) hl (by rw [hrec])
    have her2 : ∀ WB, (W1.putObj (W0.heap.size + 1) (.loop { rec .ready none with state := .busy })) = WB → ∃ w', (Instr.endRound (W0.heap.size + 1) (some .ret)).run Tryd.prog (WB.setCell ⟨w.heap.size + 1 + 1, 0, none⟩ (.bool false)) = .ok (.bool false) w' ∧ w' = (WB.setCell ⟨w.heap.size + 1 + 1, 0, none⟩ (.bool false)).putObj (W0.heap.size + 1) (.loop (rec .done (some .ret))) := by
      intro WB hWB
      subst hWB
      have hl3 : (((W1.putObj (W0.heap.size + 1) (.loop { rec .ready none with state := .busy })).setCell ⟨w.heap.size + 1 + 1, 0, none⟩ (.bool false))).heap[W0.heap.size + 1]? = some (.loop { rec .ready none with state := .busy }) := by
        rw [Below.heap_setCell _ _ _ _ (by show W0.heap.size + 1 ≠ w.heap.size + 1 + 1; omega)]; exact hl2
      have := run_endRound (P := Tryd.prog) (some .ret) hl3
      refine ⟨_, this, ?_⟩
      congr 2
      rw [hrec]
      rfl
    obtain ⟨WB, hWB⟩ : ∃ WB, (W1.putObj (W0.heap.size + 1) (.loop { rec .ready none with state := .busy })) = WB := ⟨_, rfl⟩
    have her3 := her2 WB hWB
    rw [hWB] at hbr e4 e5 e6 f62 ⊢
    clear her2 hs2 hl2 busyCell hWB
    obtain ⟨WS, hWS⟩ : ∃ WS, (WB.setCell ⟨w.heap.size + 1 + 1, 0, none⟩ (.bool false)).putObj (W0.heap.size + 1) (.loop (rec .done (some .ret))) = WS := ⟨_, rfl⟩
    rw [hWS] at her3 ⊢
    clear hWS
    rw [hrec]
    clear hl hD hW1 hrec hy hs1 d4 d5 d6 dx
    dsimp only
    gi_wp2
    refine ⟨_, hbr, ?_⟩
    clear hbr hs c4 c5 c6 cx f6 hsz
    have hk6 : (5 : Int) < (k : Int) := by omega
    gi_wp2
    obtain ⟨w', g1, g2⟩ := her3
    exact ⟨_, w', g1, rfl, g2⟩
  rintro e W3 ⟨⟨x, rfl⟩, ⟨hbits, rfl⟩ | ⟨hbits, hW3⟩⟩
  · -- the loop has run out
    have hen := run_endLoop (P := Tryd.prog) hl (by rw [hrec]; simp)
    have hp : (rec .ready none).pending = none := by rw [hrec]
    have hs3 : Skip 7 1 w (W3.putObj (W0.heap.size + 1) (.loop { rec .ready none with state := .exhausted })) := hs1.putObj (by omega) hl rfl rfl
    have hD3 : (W3.putObj (W0.heap.size + 1) (.loop { rec .ready none with state := .exhausted })).heap[W0.heap.size]? = some (.deferred (some [])) := (World.putObj_heap_other (by omega)).trans hD
    have g6 : (W3.putObj (W0.heap.size + 1) (.loop { rec .ready none with state := .exhausted })).cell? ⟨w.heap.size + 1 + 1, 0, none⟩ = some (.bool false) := by
      rw [← d6]; exact World.cell?_of_block (World.putObj_heap_other (by show w.heap.size + 1 + 1 ≠ W0.heap.size + 1; omega))
    have gf : (W3.putObj (W0.heap.size + 1) (.loop { rec .ready none with state := .exhausted })).frozen? ⟨w.heap.size + 1 + 1, 0, none⟩ = false := by
      rw [hs3.froz]
      have e2 : w.heap[w.heap.size + 1 + 1]? = none := Array.getElem?_eq_none (by omega)
      unfold World.frozen?
      rw [e2]
    obtain ⟨W4, hW4⟩ : ∃ W4, W3.putObj (W0.heap.size + 1) (.loop { rec .ready none with state := .exhausted }) = W4 := ⟨_, rfl⟩
    rw [hW4] at hen hs3 hD3 g6 gf
    clear hW4
    refine ⟨_, W4, hen, ?_⟩
    rw [hp]
    clear hen hp hl hD hW1 hrec hs1 d4 d5 d6 dx hs c4 c5 c6 cx f6 hl2 hs2 f62 busyCell
    gi_wp2
    rw [hsz] at hD3
    have hs5 := hs3.setCell (a := ⟨w.heap.size + 1 + 1, 0, none⟩) (by show w.heap.size ≤ w.heap.size + 1 + 1; omega) (.bool true)
    have hD5 : (W4.setCell ⟨w.heap.size + 1 + 1, 0, none⟩ (.bool true)).heap[w.heap.size + 5]? = some (.deferred (some [])) := by
      rw [Below.heap_setCell _ _ _ _ (by show w.heap.size + 5 ≠ w.heap.size + 1 + 1; omega)]; exact hD3
    have g7 : (W4.setCell ⟨w.heap.size + 1 + 1, 0, none⟩ (.bool true)).cell? ⟨w.heap.size + 1 + 1, 0, none⟩ = some (.bool true) := World.cell?_setCell_same' _ _ _ (by rw [g6]; rfl)
    refine ⟨by simp, .inl ⟨_, _, rfl, run_takeDeferred hD5, ?_⟩⟩
    have g8 := fin_cell g7 (show w.heap.size + 1 + 1 ≠ w.heap.size + 5 by omega) (o := .deferred none)
    have hs6 := hs5.putObj (o := .deferred none) (by omega) hD5 rfl rfl
    exact ⟨.bool true, fin_result _ g8 rfl, hs6, .inl ⟨rfl, hbits⟩⟩
  · -- a round has left by 'return'
    subst hW3
    have hl3 : (((W1.putObj (W0.heap.size + 1) (.loop { rec .ready none with state := .busy })).setCell ⟨w.heap.size + 1 + 1, 0, none⟩ (.bool false)).putObj (W0.heap.size + 1) (.loop (rec .done (some .ret)))).heap[W0.heap.size + 1]? = some (.loop (rec .done (some .ret))) :=
      World.putObj_heap_same (by rw [World.size_setCell, World.putObj_size]; exact (Array.getElem?_eq_some_iff.1 hl).1)
    have hs3 : Skip 7 1 w (((W1.putObj (W0.heap.size + 1) (.loop { rec .ready none with state := .busy })).setCell ⟨w.heap.size + 1 + 1, 0, none⟩ (.bool false)).putObj (W0.heap.size + 1) (.loop (rec .done (some .ret)))) :=
      (hs2.setCell (by show w.heap.size ≤ w.heap.size + 1 + 1; omega) _).putObj (by omega) (by rw [Below.heap_setCell _ _ _ _ (by show W0.heap.size + 1 ≠ w.heap.size + 1 + 1; omega)]; exact hl2) rfl rfl
    have hD3 : (((W1.putObj (W0.heap.size + 1) (.loop { rec .ready none with state := .busy })).setCell ⟨w.heap.size + 1 + 1, 0, none⟩ (.bool false)).putObj (W0.heap.size + 1) (.loop (rec .done (some .ret)))).heap[W0.heap.size]? = some (.deferred (some [])) := by
      rw [World.putObj_heap_other (by omega), Below.heap_setCell _ _ _ _ (by show W0.heap.size ≠ w.heap.size + 1 + 1; omega), World.putObj_heap_other (by omega)]; exact hD
    have g6 : (((W1.putObj (W0.heap.size + 1) (.loop { rec .ready none with state := .busy })).setCell ⟨w.heap.size + 1 + 1, 0, none⟩ (.bool false)).putObj (W0.heap.size + 1) (.loop (rec .done (some .ret)))).cell? ⟨w.heap.size + 1 + 1, 0, none⟩ = some (.bool false) :=
      fin_cell (World.cell?_setCell_same' _ _ _ (by rw [busyCell d6]; rfl)) (by show w.heap.size + 1 + 1 ≠ W0.heap.size + 1; omega)
    obtain ⟨W5, hW5⟩ : ∃ W5, ((W1.putObj (W0.heap.size + 1) (.loop { rec .ready none with state := .busy })).setCell ⟨w.heap.size + 1 + 1, 0, none⟩ (.bool false)).putObj (W0.heap.size + 1) (.loop (rec .done (some .ret))) = W5 := ⟨_, rfl⟩
    rw [hW5] at hl3 hs3 hD3 g6 ⊢
    clear hW5 busyCell hs2 hl2 f62
    have hen := run_endLoop (P := Tryd.prog) hl3 (by rw [hrec]; simp)
    have hp : (rec .done (some .ret)).pending = some .ret := by rw [hrec]
    have hs4 : Skip 7 1 w (W5.putObj (W0.heap.size + 1) (.loop { rec .done (some .ret) with state := .exhausted })) := hs3.putObj (by omega) hl3 rfl rfl
    have hD4 : (W5.putObj (W0.heap.size + 1) (.loop { rec .done (some .ret) with state := .exhausted })).heap[W0.heap.size]? = some (.deferred (some [])) := (World.putObj_heap_other (by omega)).trans hD3
    have g7 : (W5.putObj (W0.heap.size + 1) (.loop { rec .done (some .ret) with state := .exhausted })).cell? ⟨w.heap.size + 1 + 1, 0, none⟩ = some (.bool false) :=
      fin_cell g6 (by show w.heap.size + 1 + 1 ≠ W0.heap.size + 1; omega)
    obtain ⟨W4, hW4⟩ : ∃ W4, W5.putObj (W0.heap.size + 1) (.loop { rec .done (some .ret) with state := .exhausted }) = W4 := ⟨_, rfl⟩
    rw [hW4] at hen hs4 hD4 g7
    clear hW4
    refine ⟨_, W4, hen, ?_⟩
    rw [hp]
    clear hen hp hl hD hW1 hrec hs1 d4 d5 d6 dx hs c4 c5 c6 cx f6 hl3 hs3 hD3 g6
    gi_wp2
    rw [hsz] at hD4
    refine ⟨by simp, .inl ⟨_, _, rfl, run_takeDeferred hD4, ?_⟩⟩
    have g8 := fin_cell g7 (show w.heap.size + 1 + 1 ≠ w.heap.size + 5 by omega) (o := .deferred none)
    have hs6 := hs4.putObj (o := .deferred none) (by omega) hD4 rfl rfl
    exact ⟨.bool false, fin_result _ g8 rfl, hs6, .inr ⟨rfl, hbits⟩⟩

theorem bits_one (m : Nat) (h : m < 2^64) : bits BinOp.and IntKind.u64 (m : Int) 1 = 1 ↔ m % 2 = 1 := by
  simp only [bits]
  have e1 : IntKind.u64.bits = 64 := rfl
  have e2 : (BitVec.ofInt IntKind.u64.bits (m : Int) &&& BitVec.ofInt IntKind.u64.bits 1).toNat = m % 2 := by
    rw [BitVec.toNat_and]
    have a1 : (BitVec.ofInt IntKind.u64.bits (m : Int)).toNat = m := by
      simp [e1, Nat.mod_eq_of_lt h]
    have a2 : (BitVec.ofInt IntKind.u64.bits 1).toNat = 1 := by decide
    rw [a1, a2, Nat.and_one_is_mod]
  rw [e2]
  have h2 : m % 2 = 0 ∨ m % 2 = 1 := by omega
  rcases h2 with h2 | h2 <;> rw [h2] <;> decide

theorem bits_bound (v : Nat) (h1 : v < 2 ^ 64) : (∀ k, k < 64 → (v / 2 ^ k) % 2 = 1 → k ≤ 5) ↔ v < 64 := by
  constructor
  · intro h
    apply Classical.byContradiction
    intro hn
    have hv : v ≠ 0 := by omega
    have l1 : 2 ^ v.log2 ≤ v := Nat.log2_self_le hv
    have l2 : v < 2 ^ (v.log2 + 1) := Nat.lt_log2_self
    have hk : v.log2 < 64 := by
      apply Classical.byContradiction
      intro hk
      have : 2 ^ 64 ≤ 2 ^ v.log2 := Nat.pow_le_pow_right (by omega) (by omega)
      omega
    have hd : v / 2 ^ v.log2 = 1 := by
      rw [Nat.div_eq_iff (Nat.pow_pos (by omega))]
      rw [Nat.pow_succ] at l2
      omega
    have := h v.log2 hk (by rw [hd])
    have h6 : 2 ^ (v.log2 + 1) ≤ 2 ^ 6 := Nat.pow_le_pow_right (by omega) (by omega)
    omega
  · intro h k _ hb
    apply Classical.byContradiction
    intro hk
    have h6 : 2 ^ 6 ≤ 2 ^ k := Nat.pow_le_pow_right (by omega) (by omega)
    have : v / 2 ^ k = 0 := Nat.div_eq_of_lt (by omega)
    rw [this] at hb
    omega

theorem bitk_bound (v : Int) (h0 : 0 ≤ v) (h1 : v < 18446744073709551616) : (∀ k, k < 64 → bitk v k → k ≤ 5) ↔ v < 64 := by
  have hv : v.toNat < 2 ^ 64 := by omega
  have hb : ∀ k, bitk v k ↔ (v.toNat / 2 ^ k) % 2 = 1 := by
    intro k
    unfold bitk
    have e : v / 2 ^ k = ((v.toNat / 2 ^ k : Nat) : Int) := by
      rw [Int.natCast_ediv, Int.toNat_of_nonneg h0]; simp
    rw [e]
    exact bits_one _ (Nat.lt_of_le_of_lt (Nat.div_le_self _ _) hv)
  have h := bits_bound v.toNat hv
  constructor
  · intro g
    have := h.1 fun k hk hh => g k hk ((hb k).2 hh)
    omega
  · intro g k hk hh
    exact h.2 (by omega) k hk ((hb k).1 hh)

open Sy in
/-- A call that leaves all as it was beside new blocks and draws. -/
theorem rep_skip {ρ : Sy.Env} {st : Sy.St} {w w' : World} {n d : Nat} (hr : Sy.Rep ρ st w) (s : Skip n d w w') : Sy.Rep ρ { st with nn := st.nn + n, dr := st.dr + d } w' := by
  have l0 := hr.line n
  have d0 := hr.dline d
  have hb := hr.base
  have hsz := s.size
  have hdr := s.drawn
  have h1 := hr.size
  have h2 := hr.drawn
  have at_ : ∀ i, st.nn ≤ i → ρ.addr i = ρ.addr st.nn + (i - st.nn) := fun i hi => by
    have := hr.line (i - st.nn)
    rwa [show st.nn + (i - st.nn) = i by omega] at this
  refine ⟨?_, fun i => ?_, fun i hi => ?_, ?_, fun i j hi hj hij => ?_, fun i hi => ?_, fun i => ?_, hr.apart, hr.below, fun b hb hne => ?_, by rw [s.tape]; exact hr.tape, by rw [s.os]; exact hr.os, by rw [s.output]; exact hr.output, ?_, fun i => ?_, fun a => by rw [s.froz]; exact hr.froz a, fun i hi => ?_, hr.globs.step fun b hb _ => s.block b (by omega)⟩
  · show w'.heap.size = ρ.addr (st.nn + n); omega
  · show ρ.addr (st.nn + n + i) = ρ.addr (st.nn + n) + i
    have := hr.line (n + i)
    rw [← Nat.add_assoc] at this
    omega
  · show ρ.w.heap.size ≤ ρ.addr i ∧ ρ.addr i < ρ.addr (st.nn + n)
    have hi : i < st.nn + n := hi
    by_cases h : i < st.nn
    · have := hr.low i h; omega
    · have := at_ i (by omega); omega
  · show ρ.w.heap.size ≤ ρ.addr (st.nn + n); omega
  · have hi : i < st.nn + n := hi
    have hj : j < st.nn + n := hj
    by_cases h : i < st.nn
    · have h3 := hr.low i h
      by_cases h' : j < st.nn
      · exact hr.once i j h h' hij
      · have := at_ j (by omega); omega
    · have h3 := at_ i (by omega)
      by_cases h' : j < st.nn
      · have := hr.low j h'; omega
      · have := at_ j (by omega); omega
  · show (st.news.get .none i).fits ρ w'.heap[ρ.addr i]?
    by_cases hlt : i < st.nn
    · have := hr.low i hlt
      rw [s.block _ (by omega)]
      exact hr.news i hlt
    · rw [hr.fresh i (by omega)]; trivial
  · show (Sy.lookO i st.olds).fits ρ w'.heap[ρ.blk i]?
    by_cases hn : Sy.lookO i st.olds = .none
    · rw [hn]; trivial
    · have := hr.below i (Sy.lookO_mem hn)
      rw [s.block _ (by omega)]
      exact hr.olds i
  · rw [s.block b (by omega)]; exact hr.kept b hb hne
  · show w'.drawn = ρ.dr (st.dr + d); omega
  · show ρ.dr (st.dr + d + i) = ρ.dr (st.dr + d) + i
    have := hr.dline (d + i)
    rw [← Nat.add_assoc] at this
    omega
  · have hi : st.nn + n ≤ i := hi
    exact hr.fresh i (by omega)

/-- What 'field.Fits' tells, of the two fields that are asked for. -/
noncomputable def fitsHook : List Sy.V → Sy.St → Sy.Res (Sy.V × Sy.St) := fun args st => match args with
  | [.int k v, .int k1 (.lit hi), .int k2 (.lit lo)] =>
    Sy.ift (Sy.keq k .u64 && Sy.keq k1 .i64 && Sy.keq k2 .i64 && Sy.ile 0 v.lo && Sy.ile v.hi (Sy.kmax .u64) && (Sy.ift (Sy.ieq hi 31) (Sy.ieq lo 26) (Sy.ieq hi 5 && Sy.ieq lo 0)))
      (.ok [(.bool (st.pc.test (Sy.mkLt v (.lit 64))), { st with nn := st.nn + 7, dr := st.dr + 1 })]) <| .bad [931]
  | _ => .bad [932]

theorem fitsAt (hn : Sy.Enters Tryd.prog) (ρ : Sy.Env) : Sy.CallAt Tryd.prog ρ 24 fitsHook := by
  intro args st w r hr hp ha h
  unfold fitsHook at h
  split at h
  · rename_i k v k1 hi k2 lo
    cases hc : (Sy.keq k .u64 && Sy.keq k1 .i64 && Sy.keq k2 .i64 && Sy.ile 0 v.lo && Sy.ile v.hi (Sy.kmax .u64) && (Sy.ift (Sy.ieq hi 31) (Sy.ieq lo 26) (Sy.ieq hi 5 && Sy.ieq lo 0)))
    · rw [hc] at h; cases h
    · rw [hc] at h
      simp only [Sy.ift_true, Sy.Res.ok.injEq] at h
      subst h
      simp only [Bool.and_eq_true, Sy.ile_iff] at hc
      obtain ⟨⟨⟨⟨⟨h1, h2⟩, h3⟩, h4⟩, h5⟩, h6⟩ := hc
      have h1 := (Sy.keq_iff _ _).1 h1
      have h2 := (Sy.keq_iff _ _).1 h2
      have h3 := (Sy.keq_iff _ _).1 h3
      subst h1; subst h2; subst h3
      simp only [Sy.V.oks, Sy.V.ok] at ha
      have hv := ha.1
      have rg := Sy.E.rng hv
      have v0 : 0 ≤ v.den ρ := by omega
      have v1 : v.den ρ < 18446744073709551616 := by
        have : Sy.kmax .u64 = 18446744073709551615 := rfl
        omega
      refine ⟨Sy.run_callFunc hn Tryd.func24 rfl _ w, fun R hR => ?_⟩
      have hb := bitk_bound (v.den ρ) v0 v1
      obtain ⟨t1, t2⟩ := Sy.PC.test_spec hp (Sy.mkLt_den (a := v) (b := .lit 64) hv trivial).2
      have t3 := (Sy.mkLt_den (ρ := ρ) (a := v) (b := .lit 64) hv trivial).1
      have fin : ∀ w', Skip 7 1 w w' → ∀ b : Bool, (b = true ↔ v.den ρ < 64) → R (.bool b) w' := by
        intro w' hs b hbv
        have := hR _ (List.mem_singleton.2 rfl) w' (rep_skip hr hs) hp (by simp only [Sy.V.ok]; exact t2)
        simp only [Sy.V.den] at this
        have e : decide ((st.pc.test (Sy.mkLt v (.lit 64))).den ρ ≠ 0) = b := by
          have iff : (st.pc.test (Sy.mkLt v (.lit 64))).den ρ ≠ 0 ↔ v.den ρ < 64 := by
            rw [t1, t3]
            show (if v.den ρ < 64 then (1 : Int) else 0) ≠ 0 ↔ _
            by_cases h : v.den ρ < 64 <;> simp [h]
          cases b
          · have : ¬ v.den ρ < 64 := fun h => by have := hbv.2 h; cases this
            exact decide_eq_false (fun h => this (iff.1 h))
          · exact decide_eq_true (iff.2 (hbv.1 rfl))
        rw [e] at this
        exact this
      have post : ∀ e w', Skip 7 1 w w' ∧ (e = Ending.returned (.bool true) ∧ (∀ k, k < 64 → bitk (v.den ρ) k → k ≤ 5) ∨ e = .returned (.bool false) ∧ ∃ k, k < 64 ∧ bitk (v.den ρ) k ∧ 5 < k) →
          (match e, w' with | .returned v, w' => R v w' | _, _ => False) := by
        rintro e w' ⟨hs, ⟨rfl, hh⟩ | ⟨rfl, k, q1, q2, q3⟩⟩
        · exact fin w' hs true ⟨fun _ => hb.1 hh, fun _ => rfl⟩
        · exact fin w' hs false ⟨fun h => (by cases h), fun h => absurd (hb.2 h k q1 q2) (by omega)⟩
      simp only [Sy.V.dens, Sy.V.den, Sy.E.den]
      cases hh : Sy.ieq hi 31
      · rw [hh] at h6
        simp only [Sy.ift_false, Bool.and_eq_true, Sy.ieq_iff] at h6
        obtain ⟨rfl, rfl⟩ := h6
        exact (callsIn_wide.1 (fits_5_0 3 (v.den ρ) w)).mono post
      · rw [hh] at h6
        have h31 := (Sy.ieq_iff _ _).1 hh
        have h26 := (Sy.ieq_iff _ _).1 h6
        subst h31; subst h26
        exact (callsIn_wide.1 (fits_31_26 3 (v.den ρ) w)).mono post
  · cases h

/-- Hooks: that one. -/
noncomputable def base : Sy.Hooks := fun f => Sy.ift (Nat.beq f 24) (some fitsHook) none
theorem base_ok (hn : Sy.Enters Tryd.prog) (ρ : Sy.Env) : Sy.HooksOk Tryd.prog ρ base := by
  intro f h hf
  unfold base at hf
  cases hb : Nat.beq f 24
  · rw [hb] at hf; cases hf
  · rw [hb] at hf
    simp only [Sy.ift_true, Option.some.injEq] at hf
    have := Nat.eq_of_beq_eq_true hb
    subst this; subst hf
    exact ⟨fitsAt hn ρ, by kernel_rfl⟩
end Go.Proofs.YtmacjmofhaghbaaDoor
