/-
  The walk of BitsNil: readers and writers that nobody made answer ErrNil, and nothing.
-/
import Derived.Test.YtcbmapbpggjblaaBitsLives
namespace Go.Proofs.Ytcbmapbpggjblaa.Bt
open Go.RowKit

theorem bitsNil_walk (v n : Int) (w : World) (_hv : (Lit.int .u32 v).wf = true) (_hn : (Lit.int .i64 n).wf = true) :
    Calls Try.prog 8 #[.int .u32 v, .int .i64 n] w fun e w' => e = .returned (.bool true) ∧ Ext [] w w' := by
  go_enter Try.func8, Try.ntmps8
  go_wp2_with fail
  refine (lives_any w).mono ?_; rintro e w1 ⟨rfl, hx⟩
  go_wp2_with (first
    | (go_at_call 13; refine (get_nil _ _).mono ?_; rintro e w2 ⟨rfl, rfl⟩)
    | (go_at_call 17; refine (align_nil _).mono ?_; rintro e w2 ⟨rfl, rfl⟩)
    | (go_at_call 15; refine (left_nil _).mono ?_; rintro e w2 ⟨rfl, rfl⟩)
    | (go_at_call 14; refine (at_nil _).mono ?_; rintro e w2 ⟨rfl, rfl⟩)
    | (go_at_call 24; refine (wput_nil _ _ _).mono ?_; rintro e w2 ⟨rfl, rfl⟩)
    | (go_at_call 22; refine (walign_nil _).mono ?_; rintro e w2 ⟨rfl, rfl⟩)
    | (go_at_call 26; refine (wlen_nil _).mono ?_; rintro e w2 ⟨rfl, rfl⟩)
    | (go_at_call 27; refine (wtext_nil _).mono ?_; rintro e w2 ⟨rfl, rfl⟩))
  go_ret
  exact ⟨rfl, hx⟩
end Go.Proofs.Ytcbmapbpggjblaa.Bt
