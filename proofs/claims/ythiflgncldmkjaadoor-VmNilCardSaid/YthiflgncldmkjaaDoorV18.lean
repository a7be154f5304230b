/- A machine that is not there answers so (VmNil): for every number k the law returns true, and the input reads as it did. Condition: the two tables of package code start as the program's text lays them (the row's own). -/
import Derived.Test.YthiflgncldmkjaaDoorTc
set_option linter.unusedVariables false
set_option linter.unusedSimpArgs false
set_option maxRecDepth 100000
namespace Go.Proofs.YthiflgncldmkjaaDoor
open Go.Ri Go.ChangeShapes Go.WideShapes Go.ChangeAt Go.RowKit

namespace N18
theorem run_ok (k : Int) (e0 e1 : TypeId) : Ok1 Tryd.prog 18 (fun us H => chk (us = [.int .i64 k] ∧ 2 ≤ H.next ∧ (∀ b B, mTabs e0 e1 b = some B → H.m b = some B)) (some (.bool true, H))) := by
  obtain ⟨H1, h⟩ := saysTrue_some (run18 k e0 e1)
  exact ok1_small rfl (by simp [flat]) (by rw [globals2]; omega) (mTabs_ok e0 e1) h

theorem contract (H : Type) (enc : TypeId × Value → H) (W : World) (base : Nat) (args : Array Value) (ds gs : List (DataW H)) (before : List MemPlace)
    (hval : ∀ (j : Nat) t v, Tryd.f18.params[j]? = some t → args[j]? = some v → Value.okWide Tryd.prog W .any base t v)
    (hW : DataW.Whole enc Tryd.prog Tryd.f18.params.toList Rows.vmNilSpec.vars false W args.toList ds gs before) (hL : laidMetH Tryd.prog Rows.vmNilRow.laid W) :
    Calls Tryd.prog 18 args W fun e W' => ∃ v, e = .returned v ∧ Rows.vmNilSpec.post enc Tryd.prog Tryd.f18 false true false false W args v W' := by
  have hW' := hW
  obtain ⟨p, q, hA0, hV, rfl, hfz, hnd⟩ := hW
  have hA : DataW.TrodAll enc Tryd.prog W 0 (fun _ => true) true Tryd.f18.params.toList args.toList ds p := hA0
  rw [Tryd.params18] at hA hval
  obtain ⟨v0, vs0, d0, ds0, p0, q0, hargs, rfl, rfl, h0, r0⟩ := trodAll_cons hA
  obtain ⟨rfl, rfl, rfl⟩ := trodAll_nil r0
  obtain rfl : args = #[v0] := by cases args; simp_all
  obtain ⟨rfl, rfl⟩ := trodVars_none hV
  obtain ⟨k, rfl, rfl, rfl, hk⟩ := open_int under3 (hval 0 3 v0 rfl rfl) h0
  clear hA0
  simp only [List.append_nil] at hW'
  have hT := tabs_of_laid hL
  obtain ⟨e0, e1, hsub⟩ := small_sub hT
  have walk := below_of_ok1 (run_ok k e0 e1) (W := W) (us := [.int .i64 k]) (by rw [globals2]; exact hT.two) (chk_pos ⟨rfl, hT.two, hsub⟩ _) (relL_one (c := .int .i64 k) (by simp [rel]))
  refine walk.mono fun e W' ⟨ρ', v', he, hr, hb⟩ => ?_
  subst he
  simp only [rel] at hr
  subst hr
  exact ⟨_, rfl, post_of_below (pa := []) (pv := []) hW' (fun _ _ _ => trodAll_cons_mk (shut_bool under4 _) trodAll_mk0) (fun _ _ => trodAll_cons_mk (shut_int under3 hk) trodAll_mk0) (fun _ _ => rfl) rfl
    hb (ok_one (by kernel_rfl) rfl (okWide_bool_mk under4 _))⟩

theorem reads (os : Os) {H : Type} (enc : TypeId × Value → H) : ∃ places, DataW.whole enc Tryd.prog ((laidWorld os).forCall (fun _ _ => 0) ⟨#[], #[.int .i64 0], []⟩).memory Tryd.f18.params.toList Rows.vmNilSpec.vars false #[Value.int .i64 0].toList 8 = some ([.lit (.int .i64 0)], [], places) :=
  ⟨[], by kernel_rfl⟩

theorem lifted (os : Os) (started : os.Started) (H : Type) (enc : TypeId × Value → H) (F : Stop.Interp) :
    ReturnsInHanded {} Tryd.checked os 18 .any ((OpenSpec.ofChange Rows.vmNilSpec).preRow enc Tryd.prog Tryd.f18 Rows.vmNilRow.domain false Rows.vmNilRow.laid) (((OpenSpec.ofChange Rows.vmNilSpec).at F).post enc Tryd.prog Tryd.f18 false true false false) := by
  obtain ⟨places, hx⟩ := reads os enc
  refine returnsInHanded_of_row (C := Tryd.checked) (s := OpenSpec.ofChange Rows.vmNilSpec) own started (by kernel_rfl) Tryd.func18
    (witness_row_at (enc := enc) (C := Tryd.checked) false (laidWorld os) #[.int .i64 0] rfl (by kernel_rfl) (by kernel_rfl) (by kernel_rfl)
      (OpenSpec.preRow_of_cond 8 hx (by kernel_rfl) (fun k hk => by cases hk) (by kernel_rfl) (laid_met os _))) ?_
  intro W base args ds gs before hval hW _ _ _ hL _ _
  exact contract H enc W base args ds gs before hval hW hL

theorem said : Rows.VmNilSaid :=
  OpenClaim.holds_of_cond 18 Tryd.f18 rfl rfl rfl rfl rfl rfl rfl ⟨rfl, rfl, rfl, rfl, rfl⟩ rfl rfl rfl rfl rfl (by kernel_rfl) Tryd.func18 (by kernel_rfl)
    (of_decide_eq_true (by kernel_rfl)) (by unfold Func.isWrapper; first | (rw [if_pos (by decide +kernel)]; kernel_rfl) | (rw [if_neg (by decide +kernel)]; exact ⟨rfl, rfl⟩))
    (fun os started H enc _ F => by rw [OpenClaim.pre_eq_preRow]; exact lifted os started H enc F)

theorem plain (f : FuncId) (fn : Func) (hf : Tryd.pinned.checked.prog.funcNamed "parallax/parallaxlaw09.VmNil" = some f) (hfn : Tryd.pinned.checked.prog.funcs[f]? = some fn) :
    false = Tryd.pinned.checked.prog.looks [] ∧ ∀ (j : Nat) t, fn.params[j]? = some t → Tryd.pinned.checked.prog.wantsStandIn t = false := by
  obtain rfl : f = 18 := Option.some.inj ((show Tryd.prog.funcNamed "parallax/parallaxlaw09.VmNil" = some 18 by kernel_rfl).symm.trans hf) |>.symm
  obtain rfl : fn = Tryd.f18 := (Option.some.inj (Tryd.func18.symm.trans hfn)).symm
  refine ⟨by kernel_rfl, fun j t ht => ?_⟩
  rw [Tryd.params18] at ht
  have hm : t ∈ [3] := by simpa using Array.mem_of_getElem? ht
  have hall : ([3].all fun u => !Tryd.prog.wantsStandIn u) = true := by kernel_rfl
  exact (show Tryd.prog.wantsStandIn t = false by simpa using List.all_eq_true.1 hall t hm)
end N18
theorem vmNil_holds : Rows.VmNilCardSaid :=
  Claim7.holds_tied_plain_at .later [] _ _ _ _ N18.said (fun _ h => by cases h) (by kernel_rfl) (fun _ h => by cases h) vmNil_row_tie rfl ⟨rfl, rfl⟩ (by kernel_rfl) rfl N18.plain (by kernel_rfl)
#print axioms vmNil_holds
end Go.Proofs.YthiflgncldmkjaaDoor
