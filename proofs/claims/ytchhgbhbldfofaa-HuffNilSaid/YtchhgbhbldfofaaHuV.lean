/-
  The laws HuffNil, HuffNames walked.
-/
import Derived.Test.YtchhgbhbldfofaaHuU
import Derived.Test.YtchhgbhbldfofaaHuL
namespace Go.Proofs.Ytchhgbhbldfofaa.Hu
open Go.RowKit Bt

theorem ex11_e : codesE [1, 1] = 0 := by decide +kernel
set_option maxRecDepth 100000 in
set_option maxHeartbeats 8000000 in
theorem nil_law (s : Int) (w : World) (_hs : (Lit.int .i64 s).wf = true) :
    Calls Try.prog 7 #[.int .i64 s] w fun e w' => e = .returned (.bool true) ∧ Ext [] w w' := by
  go_enter Try.func7, Try.ntmps7
  go_wp2_with fail
  refine (lives07 w).mono ?_
  rintro e w1 ⟨rfl, hx⟩
  have HX := Lib.hid hx
  clear hx
  go_wp2_with fail
  refine (new_walk _ [1, 1] _ (IntsArg.of_block _ 2 rfl (by unfold maxLen; omega) (heap_alloc_at _) rfl) ex11_e).mono ?_
  rintro e w2 ⟨tb, F, rfl, hx, hp, hf⟩
  have HX := Lib.hid (HX.out.trans (((Ext.refl _ w1).alloc _).trans hx))
  clear hx hp hf
  go_wp2_with fail
  refine (rnew _ _ _).mono ?_
  rintro e w3 ⟨b, rfl, _, _, hx⟩
  have HX := Lib.hid (HX.out.trans hx)
  clear hx
  go_wp2_with fail
  refine (tread_nil _ _ ⟨_, rfl⟩).mono ?_
  rintro e w4 ⟨rfl, rfl⟩
  go_wp2_with fail
  refine (tread_nil2 _ _).mono ?_
  rintro e w4 ⟨rfl, rfl⟩
  go_wp2_with fail
  refine (wnew _ _).mono ?_
  rintro e w4 ⟨b2, rfl, _, _, hx⟩
  have HX := Lib.hid (HX.out.trans hx)
  clear hx
  go_wp2_with fail
  refine (twrite_nil _ _ _ ⟨_, rfl⟩).mono ?_
  rintro e w5 ⟨rfl, rfl⟩
  go_wp2_with fail
  refine (twrite_nil2 _ _ _).mono ?_
  rintro e w5 ⟨rfl, rfl⟩
  go_wp2_with fail
  refine (size_nil _ _).mono ?_
  rintro e w5 ⟨rfl, rfl⟩
  go_wp2_with fail
  go_ret
  exact ⟨rfl, HX.out⟩
end Go.Proofs.Ytchhgbhbldfofaa.Hu
