/-
  The walk of BitsRead: whatever is read, it is what the document says.
-/
import Derived.Test.YtcbmapbpggjblaaBitsActs2
namespace Go.Proofs.Ytcbmapbpggjblaa.Bt
open Go.RowKit

set_option maxHeartbeats 8000000 in
theorem bitsRead_walk (s : ByteArray) (hi : Bool) (u : Value) (w : World) (_hs : s.size ≤ maxLen) (hu : ∃ n f, Acts w u n f) :
    Calls Try.prog 4 #[.string s, .bool hi, u] w fun e w' => e = .returned (.bool true) ∧ Ext [] w w' := by
  obtain ⟨n, f, hA⟩ := hu
  have HA := Lib.hid hA
  obtain ⟨⟨ao, cap, rfl, hc⟩, hr, hnm⟩ := hA
  have HC := Lib.hid hc
  have HR := Lib.hid hr
  clear hc hr
  unfold maxLen at hnm
  by_cases h : s.size ≤ 300
  · by_cases h2 : n ≤ 300
    · have h' : ¬ 300 < s.size := by omega
      have h2' : ¬ 300 < n := by omega
      go_enter Try.func4, Try.ntmps4
      go_wp2_with fail
      refine (lives_any w).mono ?_; rintro e w1 ⟨rfl, hx⟩
      have S := (Sep.start w).quiet hx
      clear hx
      go_wp2_with fail
      refine (sRnew s hi S).mono ?_; clear S; rintro e w3 ⟨b1, rfl, S⟩
      go_wp2_with fail
      refine (sRfNew s hi S (by omega)).mono ?_; clear S; rintro e w4 ⟨b2, F2, rfl, S⟩
      go_wp2_with fail
      go_loopg [9] n (fun g i wr => ∃ k : Nat, g + k = n ∧ i = .int .i64 k ∧ ∃ at_, at_ ≤ 8 * s.size ∧ Sep w wr [oRf b2 F2 (allBits s hi (8 * s.size)) at_, oR b1 s at_ hi])
      case atStart => exact ⟨0, by omega, rfl, 0, by omega, S⟩
      case round =>
        clear S
        obtain ⟨k, hk, rfl, at_, hat, S⟩ := hrel
        by_cases hkn : k < n
        · obtain ⟨b, off, rfl, hcell⟩ := HC.out (by omega)
          obtain ⟨c0, c1, c2⟩ := hcell k hkn
          obtain ⟨hn0, hn1, hv⟩ := HR.out k hkn
          clear hcell
          have d0 := Ext.cell S.ext c0
          have d1 := Ext.cell S.ext c1
          generalize f k = a at *
          obtain ⟨al, m, v⟩ := a
          simp only at c1 d0 d1 hn0 hn1 hv
          have C1 := Lib.hid c1
          clear c0 c1 c2
          cases al
          · go_wp2_with fail
            refine (sGetAny 1 S rfl (by omega) hat).mono ?_; clear S; rintro e w5 ⟨rfl, S⟩
            clear d0 d1
            have d1 := Ext.cell S.ext C1.out
            have hat2 := gA_le s at_ m hat
            go_wp2_with fail
            refine (sRfGetAny 0 S rfl (by omega) hat).mono ?_; clear S; rintro e w6 ⟨rfl, S⟩
            go_wp2_with fail
            change Sep w w6 [oRf b2 F2 (allBits s hi (8 * s.size)) (gA s at_ m), oR b1 s (gA s at_ m) hi] at S
            generalize gA s at_ m = q at *
            have hR := S.get 0 rfl
            have hW := S.get 1 rfl
            have HS := Lib.hid S
            clear S
            obtain ⟨rv, rb, _⟩ := hR
            have hl : ∀ x : Ex w6, RfR x.w b2 F2 (allBits s hi (8 * s.size)) q := fun x => (oRf b2 F2 _ q).ok (HS.out.get 0 rfl) x.ext (by simp)
            have hr : ∀ x : Ex w6, x.w.heap[b1]? = some (rdr s q hi) := fun x => x.heap hW
            have hN : ∀ x : Ex w6, x.w.cell? ⟨b2, 1, none⟩ = some (.int .i64 (q : Int)) := fun x => cellOf (x.heap rb) 1
            have hb8 : (q : Int) ≤ 8 * (s.size : Int) := by omega
            refine wp_region_ext (by kernel_rfl) (by kernel_rfl) ?_
            repeat (go_big_quiet_step (first | (go_at_call 15; refine Calls.ext_of (left_any b1 s q hi _ (by omega) hat2 (hr _))) | (go_at_call 20; refine Calls.ext_of (rfleft_all (by omega) hat2 (hl _))) | (go_at_call 14; refine Calls.ext_of (at_any b1 s q hi _ (hr _)))))
            refine wpQuiet_nil ?_
            rintro _ ⟨x, rfl⟩
            clear hl hr hN hW rb
            have S := HS.out.quiet x.ext
            go_wp2_with fail
            go_roundg (n - (k + 1))
            case measure => omega
            case rel => exact ⟨k + 1, by omega, by go_num, q, hat2, S⟩
          · go_wp2_with fail
            refine (sAlign 1 S rfl (by omega) hat).mono ?_; clear S; rintro e w5 ⟨rfl, S⟩
            go_wp2_with fail
            refine (sRfAlign 0 S rfl (by omega)).mono ?_; clear S; rintro e w6 ⟨rfl, S⟩
            go_wp2_with fail
            change Sep w w6 [oRf b2 F2 (allBits s hi (8 * s.size)) (at_ + gap at_), oR b1 s (at_ + gap at_) hi] at S
            have hat2 : at_ + gap at_ ≤ 8 * s.size := by unfold gap; omega
            generalize at_ + gap at_ = q at *
            have hR := S.get 0 rfl
            have hW := S.get 1 rfl
            have HS := Lib.hid S
            clear S
            obtain ⟨rv, rb, _⟩ := hR
            have hl : ∀ x : Ex w6, RfR x.w b2 F2 (allBits s hi (8 * s.size)) q := fun x => (oRf b2 F2 _ q).ok (HS.out.get 0 rfl) x.ext (by simp)
            have hr : ∀ x : Ex w6, x.w.heap[b1]? = some (rdr s q hi) := fun x => x.heap hW
            have hN : ∀ x : Ex w6, x.w.cell? ⟨b2, 1, none⟩ = some (.int .i64 (q : Int)) := fun x => cellOf (x.heap rb) 1
            have hb8 : (q : Int) ≤ 8 * (s.size : Int) := by omega
            refine wp_region_ext (by kernel_rfl) (by kernel_rfl) ?_
            repeat (go_big_quiet_step (first | (go_at_call 15; refine Calls.ext_of (left_any b1 s q hi _ (by omega) hat2 (hr _))) | (go_at_call 20; refine Calls.ext_of (rfleft_all (by omega) hat2 (hl _))) | (go_at_call 14; refine Calls.ext_of (at_any b1 s q hi _ (hr _)))))
            refine wpQuiet_nil ?_
            rintro _ ⟨x, rfl⟩
            clear hl hr hN hW rb
            have S := HS.out.quiet x.ext
            go_wp2_with fail
            go_roundg (n - (k + 1))
            case measure => omega
            case rel => exact ⟨k + 1, by omega, by go_num, q, hat2, S⟩
        · go_wp2_with fail
          go_ret
          exact ⟨rfl, S.ext⟩
    · have h2' : 300 < n := by omega
      have h' : ¬ 300 < s.size := by omega
      go_enter Try.func4, Try.ntmps4
      go_wp2_with fail
      refine (lives_any w).mono ?_; rintro e w1 ⟨rfl, hx⟩
      go_wp2_with fail
      go_ret
      exact ⟨rfl, hx⟩
  · have h' : 300 < s.size := by omega
    go_enter Try.func4, Try.ntmps4
    go_wp2_with fail
    refine (lives_any w).mono ?_; rintro e w1 ⟨rfl, hx⟩
    go_wp2_with fail
    go_ret
    exact ⟨rfl, hx⟩
end Go.Proofs.Ytcbmapbpggjblaa.Bt
