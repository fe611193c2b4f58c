/-
  'Rows.AluAloneSaid': one register changes, the one that is written, by those that are read alone. Conditions: none but those of the row itself.
  By a symbolic evaluator whose soundness is proved in the texts 'YtaembhlkgfbcpaaSy..'; the kernel runs it on the law's code.
-/
import Derived.Test.YtaembhlkgfbcpaaRows
import Derived.Test.YtaembhlkgfbcpaaSyX
import Derived.Test.YtaembhlkgfbcpaaAluAloneP0
import Derived.Test.YtaembhlkgfbcpaaAluAloneP1
import Derived.Test.YtaembhlkgfbcpaaAluAloneP2
import Derived.Test.YtaembhlkgfbcpaaAluAloneP3
import Derived.Test.YtaembhlkgfbcpaaAluAloneP4
import Derived.Test.YtaembhlkgfbcpaaAluAloneP5
import Derived.Test.YtaembhlkgfbcpaaAluAloneP6
import Derived.Test.YtaembhlkgfbcpaaAluAloneP7
import Derived.Test.YtaembhlkgfbcpaaAluAloneP8
import Derived.Test.YtaembhlkgfbcpaaAluAloneP9
import Derived.Test.YtaembhlkgfbcpaaAluAloneP10
import Derived.Test.YtaembhlkgfbcpaaAluAloneP11
import Derived.Test.YtaembhlkgfbcpaaAluAloneP12
import Derived.Test.YtaembhlkgfbcpaaAluAloneP13
import Derived.Test.YtaembhlkgfbcpaaAluAloneP14
import Derived.Test.YtaembhlkgfbcpaaAluAloneP15
import Derived.Test.YtaembhlkgfbcpaaAluAloneP16
import Derived.WalkKit
import Derived.ProofKit
import Derived.OpenShut
namespace Go.Proofs.Ytaembhlkgfbcpaa.aluAlone
open Go.ChangeShapes Go.WideShapes Go.ChangeAt Go.RowKit

theorem own : ownKnob Try.prog.godebug = none := by kernel_rfl
theorem mixed : Try.prog.follows .mixedOrders = true := by kernel_rfl
theorem entered : Sy.Enters Try.prog := Sy.enters_of (by kernel_rfl)
theorem found : ∀ j, j ≤ ([[(0, 2)], [(0, 3), (2, 4)], [(0, 3)], [(0, 4), (2, 4)], [(0, 4)], [(0, 5), (2, 4)], [(0, 5)], [(0, 6), (2, 4)], [(0, 6)], [(0, 7), (2, 4)], [(0, 7)], [(0, 8), (2, 4)], [(0, 8)], [(0, 15)], [(0, 16)], [(0, 17)]] : List (List (Nat × Int))).length → Sy.lawPart Try.prog (Sy.memos Try.prog 400 [5, 10]) [[], [⟨20, [2, 3, 4, 5, 6, 10, 11, 12, 14, 15], 100, [.not (.eq (.tmp 3) (.cell 5 2)), .not (.eq (.tmp 3) (.cell 5 3)), .not (.lt (.cell 5 1) (.num 0)), .lt (.cell 5 1) (.num 8), .not (.lt (.cell 5 2) (.num 0)), .lt (.cell 5 2) (.num 8), .not (.lt (.cell 5 3) (.num 0)), .lt (.cell 5 3) (.num 8), .eq (.cell 5 4) (.num 0)]⟩], [⟨20, [2, 3, 4, 5, 6, 10, 11, 12, 14, 15], 100, [.not (.eq (.tmp 3) (.cell 5 2)), .not (.eq (.tmp 3) (.cell 5 3)), .not (.lt (.cell 5 1) (.num 0)), .lt (.cell 5 1) (.num 8), .not (.lt (.cell 5 2) (.num 0)), .lt (.cell 5 2) (.num 8), .not (.lt (.cell 5 3) (.num 0)), .lt (.cell 5 3) (.num 8), .eq (.cell 5 4) (.num 0)]⟩], [⟨20, [2, 3, 4, 5, 6, 10, 11, 12, 14, 15], 100, [.not (.eq (.tmp 3) (.cell 5 2)), .not (.eq (.tmp 3) (.cell 5 3)), .not (.lt (.cell 5 1) (.num 0)), .lt (.cell 5 1) (.num 8), .not (.lt (.cell 5 2) (.num 0)), .lt (.cell 5 2) (.num 8), .not (.lt (.cell 5 3) (.num 0)), .lt (.cell 5 3) (.num 8), .eq (.cell 5 4) (.num 0)]⟩], [⟨20, [2, 3, 4, 5, 6, 10, 11, 12, 14, 15], 100, [.not (.eq (.tmp 3) (.cell 5 2)), .not (.eq (.tmp 3) (.cell 5 3)), .not (.lt (.cell 5 1) (.num 0)), .lt (.cell 5 1) (.num 8), .not (.lt (.cell 5 2) (.num 0)), .lt (.cell 5 2) (.num 8), .not (.lt (.cell 5 3) (.num 0)), .lt (.cell 5 3) (.num 8), .eq (.cell 5 4) (.num 0)]⟩], [⟨20, [2, 3, 4, 5, 6, 10, 11, 12, 14, 15], 100, [.not (.eq (.tmp 3) (.cell 5 2)), .not (.eq (.tmp 3) (.cell 5 3)), .not (.lt (.cell 5 1) (.num 0)), .lt (.cell 5 1) (.num 8), .not (.lt (.cell 5 2) (.num 0)), .lt (.cell 5 2) (.num 8), .not (.lt (.cell 5 3) (.num 0)), .lt (.cell 5 3) (.num 8), .eq (.cell 5 4) (.num 0)]⟩], [⟨20, [2, 3, 4, 5, 6, 10, 11, 12, 14, 15], 100, [.not (.eq (.tmp 3) (.cell 5 2)), .not (.eq (.tmp 3) (.cell 5 3)), .not (.lt (.cell 5 1) (.num 0)), .lt (.cell 5 1) (.num 8), .not (.lt (.cell 5 2) (.num 0)), .lt (.cell 5 2) (.num 8), .not (.lt (.cell 5 3) (.num 0)), .lt (.cell 5 3) (.num 8), .eq (.cell 5 4) (.num 0)]⟩], [⟨20, [2, 3, 4, 5, 6, 10, 11, 12, 14, 15], 100, [.not (.eq (.tmp 3) (.cell 5 2)), .not (.eq (.tmp 3) (.cell 5 3)), .not (.lt (.cell 5 1) (.num 0)), .lt (.cell 5 1) (.num 8), .not (.lt (.cell 5 2) (.num 0)), .lt (.cell 5 2) (.num 8), .not (.lt (.cell 5 3) (.num 0)), .lt (.cell 5 3) (.num 8), .eq (.cell 5 4) (.num 0)]⟩], [⟨20, [2, 3, 4, 5, 6, 10, 11, 12, 14, 15], 100, [.not (.eq (.tmp 3) (.cell 5 2)), .not (.eq (.tmp 3) (.cell 5 3)), .not (.lt (.cell 5 1) (.num 0)), .lt (.cell 5 1) (.num 8), .not (.lt (.cell 5 2) (.num 0)), .lt (.cell 5 2) (.num 8), .not (.lt (.cell 5 3) (.num 0)), .lt (.cell 5 3) (.num 8), .eq (.cell 5 4) (.num 0)]⟩], [⟨20, [2, 3, 4, 5, 6, 10, 11, 12, 14, 15], 100, [.not (.eq (.tmp 3) (.cell 5 2)), .not (.eq (.tmp 3) (.cell 5 3)), .not (.lt (.cell 5 1) (.num 0)), .lt (.cell 5 1) (.num 8), .not (.lt (.cell 5 2) (.num 0)), .lt (.cell 5 2) (.num 8), .not (.lt (.cell 5 3) (.num 0)), .lt (.cell 5 3) (.num 8), .eq (.cell 5 4) (.num 0)]⟩], [⟨20, [2, 3, 4, 5, 6, 10, 11, 12, 14, 15], 100, [.not (.eq (.tmp 3) (.cell 5 2)), .not (.eq (.tmp 3) (.cell 5 3)), .not (.lt (.cell 5 1) (.num 0)), .lt (.cell 5 1) (.num 8), .not (.lt (.cell 5 2) (.num 0)), .lt (.cell 5 2) (.num 8), .not (.lt (.cell 5 3) (.num 0)), .lt (.cell 5 3) (.num 8), .eq (.cell 5 4) (.num 0)]⟩]] 400 4 [27, 24, 3, 3, 23] [[(0, 2)], [(0, 3), (2, 4)], [(0, 3)], [(0, 4), (2, 4)], [(0, 4)], [(0, 5), (2, 4)], [(0, 5)], [(0, 6), (2, 4)], [(0, 6)], [(0, 7), (2, 4)], [(0, 7)], [(0, 8), (2, 4)], [(0, 8)], [(0, 15)], [(0, 16)], [(0, 17)]] j = true := fun j hj => match j, hj with
  | 0, _ => part0
  | 1, _ => part1
  | 2, _ => part2
  | 3, _ => part3
  | 4, _ => part4
  | 5, _ => part5
  | 6, _ => part6
  | 7, _ => part7
  | 8, _ => part8
  | 9, _ => part9
  | 10, _ => part10
  | 11, _ => part11
  | 12, _ => part12
  | 13, _ => part13
  | 14, _ => part14
  | 15, _ => part15
  | 16, _ => part16
  | n + 17, h => absurd h (by simp only [List.length_cons, List.length_nil]; omega)

set_option maxRecDepth 100000 in
theorem lifted (os : Os) (started : os.Started) (H : Type) (enc : TypeId × Value → H) :
    ReturnsInHanded {} Try.checked os 4 .any (Rows.aluAloneSpec.pre6 enc Try.prog Try.f4 Rows.aluAloneRow.domain false) (Rows.aluAloneSpec.post enc Try.prog Try.f4 false true false false) := by
  refine returnsInHanded_of_change (C := Try.checked) own started (by kernel_rfl) Try.func4
    (ChangeSpec.witness6 (enc := enc) (C := Try.checked) false ⟨#[], #[.agg #[.int .i8 0, .int .i8 0, .int .i8 0, .int .i8 0, .int .i64 0], .agg #[.int .u64 0, .int .u64 0, .int .u64 0, .int .u64 0, .int .u64 0, .int .u64 0, .int .u64 0, .int .u64 0], .int .i64 0, .int .i64 0, .int .u64 0], []⟩ 8 (by kernel_rfl) (by kernel_rfl) (by kernel_rfl) (by kernel_rfl)) ?_
  intro W base args ds gs before hval0 hW hcnd _
  have hval : ∀ (j : Nat) (t : TypeId) (v : Value), Try.f4.params[j]? = some t → args[j]? = some v → Value.okWide Try.prog W .any base t v := hval0
  have hW' := hW
  obtain ⟨p, q, hA0, hV, rfl, hfz, hnd⟩ := hW
  have hA : DataW.TrodAll enc Try.prog W 0 (fun _ => true) true Try.f4.params.toList args.toList ds p := hA0
  obtain ⟨rfl, rfl⟩ := trodVars_none hV
  have hparams : Try.f4.params.toList = [27, 24, 3, 3, 23] := by rw [Try.params4]
  obtain ⟨rfl, hsame, hcall⟩ := Sy.law_parts mixed entered (Sy.memos_ok mixed entered 400 [5, 10]) found (by rw [← hparams]; exact hA) (fun j t v ht hv => hval j t v (by rw [← hparams] at ht; simpa using ht) hv)
  rw [← hparams] at hsame
  have hlen : ds.length = 5 := (Sy.trodAll_len hA).trans (by rw [hparams]; rfl)
  match ds, hlen with
  | [d1, d2, d3, d4, d5], _ =>
    refine hcall.mono fun e W' ⟨he, hg⟩ => ?_
    subst he
    exact ⟨_, rfl, post_of_same (pa := []) (pv := []) hW' (fun _ _ _ => (trodAll_cons_mk (shut_bool Try.underlying4 _) trodAll_mk0)) (fun sp _ => hsame _ _ _ _) (fun _ _ => rfl) rfl
      (hg.frame _) hg.2.1 (ok_one (by kernel_rfl) rfl (okWide_bool_mk Try.underlying4 _))⟩

theorem over : Rows.aluAloneRow.holds Try.pinned (OpenSpec.ofChange Rows.aluAloneSpec) :=
  OpenClaim.holds_of_wide 4 Try.f4 rfl rfl rfl rfl rfl rfl rfl ⟨rfl, rfl, rfl, rfl, rfl⟩ rfl rfl rfl rfl rfl (by kernel_rfl) Try.func4 (by kernel_rfl)
    (of_decide_eq_true (by kernel_rfl)) (by unfold Func.isWrapper; first | (rw [if_pos (by decide +kernel)]; kernel_rfl) | (rw [if_neg (by decide +kernel)]; exact ⟨rfl, rfl⟩))
    (fun os started H enc _ => lifted os started H enc)

theorem holds : Rows.AluAloneSaid := over
#print axioms holds
end Go.Proofs.Ytaembhlkgfbcpaa.aluAlone
