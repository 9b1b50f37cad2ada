/-
  The walk of BitsWrite: whatever is put, it is what the document says.
-/
import Derived.Test.YtcbmapbpggjblaaBitsActs2
namespace Go.Proofs.Ytcbmapbpggjblaa.Bt
open Go.RowKit

set_option maxHeartbeats 8000000 in
theorem bitsWrite_walk (hi : Bool) (u : Value) (w : World) (hu : ∃ n f, Acts w u n f) :
    Calls Try.prog 5 #[.bool hi, u] w fun e w' => e = .returned (.bool true) ∧ Ext [] w w' := by
  obtain ⟨n, f, hA⟩ := hu
  obtain ⟨⟨ao, cap, rfl, hc⟩, hr, hnm⟩ := hA
  have HC := Lib.hid hc
  have HR := Lib.hid hr
  clear hc hr
  unfold maxLen at hnm
  by_cases h2 : n ≤ 300
  · have h2' : ¬ 300 < n := by omega
    go_enter Try.func5, Try.ntmps5
    go_wp2_with fail
    refine (lives_any w).mono ?_; rintro e w1 ⟨rfl, hx⟩
    have S := (Sep.start w).quiet hx
    clear hx
    go_wp2_with fail
    refine (sWnew hi S).mono ?_; clear S; rintro e w3 ⟨b1, rfl, S⟩
    have S2 := S.new ((Ext.refl _ w3).alloc _) (oRw w3.heap.size [w3.heap.size] []) ⟨.slice none 0 0, heap_alloc_at _, World.ownsRow_nil _ _ _ _, rfl, by simp [Value.ownBlock]⟩ (fun k hk => by rw [List.mem_singleton.1 hk]; exact Nat.le_refl _)
    clear S
    go_wp2_with fail
    change Sep w (w3.alloc (Obj.cells #[Value.slice none 0 0] 47)) _ at S2
    have h3 : w3.heap.size = w3.heap.size := rfl
    generalize w3.alloc (Obj.cells #[Value.slice none 0 0] 47) = w4 at *
    generalize w3.heap.size = b2 at *
    go_loopg [7] n (fun g i wr => ∃ k : Nat, g + k = n ∧ i = .int .i64 k ∧ ∃ F1 F2 l, Bin l ∧ l.length ≤ 32 * k ∧ Sep w wr [oRw b2 F2 l, oW b1 F1 hi l])
    case atStart => exact ⟨0, by omega, rfl, _, _, _, (fun x hx => by cases hx), by simp, S2⟩
    case round =>
      clear S2
      obtain ⟨k, hk, rfl, F1, F2, l, hB, hl, S⟩ := hrel
      by_cases hkn : k < n
      · obtain ⟨b, off, rfl, hcell⟩ := HC.out (by omega)
        obtain ⟨c0, c1, c2⟩ := hcell k hkn
        obtain ⟨hn0, hn1, hv⟩ := HR.out k hkn
        clear hcell
        have d0 := Ext.cell S.ext c0
        have d1 := Ext.cell S.ext c1
        have d2 := Ext.cell S.ext c2
        generalize f k = a at *
        obtain ⟨al, m, v⟩ := a
        simp only at c1 c2 d0 d1 d2 hn0 hn1 hv
        have C1 := Lib.hid c1
        have C2 := Lib.hid c2
        clear c0 c1 c2
        cases al
        · go_wp2_with fail
          have S := S.quiet (Ext.refl [] wr).drew
          go_region_held3 (fun w' => w'.cell? ⟨b, off + k * 3 + 1, none⟩ = some (.int .i64 m) ∧ w'.cell? ⟨b, off + k * 3 + 2, none⟩ = some (.int .u32 v))
            (first | go_keep | (exact ⟨Ext.cell S.ext C1.out, Ext.cell S.ext C2.out⟩))
            (first | (go_at_call 24; refine (sPutAny 1 S rfl (by omega) hv).mono ?_; clear S; rintro e w5 ⟨rfl, F3, S⟩) | (go_at_call 25; refine (sRfPutAny 0 S rfl (by omega) hv).mono ?_; clear S; rintro e w6 ⟨rfl, F4, S⟩))
          clear d0 d1 d2
          rename_i hHeld
          clear hHeld
          have hqB := pL_bin (hi := hi) v m hB
          have hql := pL_len hi l v m
          change Sep w w6 [oRw b2 F4 (pL hi l v m), oW b1 F3 hi (pL hi l v m)] at S
          generalize pL hi l v m = q at *
          go_wp2_with fail
          have hOW := S.get 1 rfl
          have hOR := S.get 0 rfl
          have HS := Lib.hid S
          clear S
          obtain ⟨rv, rb, hown, _, _⟩ := hOR
          have hlen : (∃ ao cap, rv = .slice ao q.length cap) := by
            rcases hown.2 with ⟨rfl, h00⟩ | ⟨g, cap, cur, rfl, _, _, _, _, _⟩
            · exact ⟨none, 0, by rw [h00]⟩
            · exact ⟨_, cap, rfl⟩
          obtain ⟨ao2, cap2, rfl⟩ := hlen
          have hL : ∀ x : Ex w6, x.w.cell? ⟨b2, 0, none⟩ = some (.slice ao2 q.length cap2) := fun x => cellOf (x.heap rb) 0
          have hT : ∀ x : Ex w6, RfW x.w b2 F4 q := fun x => (oRw b2 F4 q).ok (HS.out.get 0 rfl) x.ext (by simp)
          have hW : ∀ x : Ex w6, Wtr x.w b1 F3 hi q := fun x => (oW b1 F3 hi q).ok (HS.out.get 1 rfl) x.ext (by simp)
          clear hown rb
          refine wp_region_ext (by kernel_rfl) (by kernel_rfl) ?_
          repeat (go_big_quiet_step (first | (go_at_call 26; refine Calls.ext_of (Calls.same_ext (wlen_any b1 F3 hi q _ (hW _)))) | (go_at_call 27; refine Calls.ext_of (Calls.same_ext (wtext_any b1 F3 hi q _ (hW _)))) | (go_at_call 28; refine Calls.ext_of (rftext_any b2 F4 q hi _ (by omega) hqB (hT _)))))
          refine wpQuiet_nil ?_
          rintro _ ⟨x, rfl⟩
          clear hL hT hW
          have S := HS.out.quiet x.ext
          go_wp2_with fail
          go_roundg (n - (k + 1))
          case measure => omega
          case rel => exact ⟨k + 1, by omega, by go_num, F3, F4, q, hqB, by omega, S⟩
        · go_wp2_with fail
          refine (sWAlign 1 S rfl (by omega)).mono ?_; clear S; rintro e w5 ⟨rfl, S⟩
          go_wp2_with fail
          refine (sRfWAlign 0 S rfl (by omega)).mono ?_; clear S; rintro e w6 ⟨rfl, F4, S⟩
          go_wp2_with fail
          have hqB : Bin (l ++ List.replicate (gap l.length) 0) := fun x hx => by
            rcases List.mem_append.1 hx with hx | hx
            · exact hB x hx
            · rw [List.eq_of_mem_replicate hx]; omega
          have hql : (l ++ List.replicate (gap l.length) 0).length ≤ l.length + 32 := by have := gap_lt l.length; simp; omega
          change Sep w w6 [oRw b2 F4 (l ++ List.replicate (gap l.length) 0), oW b1 F1 hi (l ++ List.replicate (gap l.length) 0)] at S
          generalize l ++ List.replicate (gap l.length) 0 = q at *
          have hOW := S.get 1 rfl
          have hOR := S.get 0 rfl
          have HS := Lib.hid S
          clear S
          obtain ⟨rv, rb, hown, _, _⟩ := hOR
          have hlen : (∃ ao cap, rv = .slice ao q.length cap) := by
            rcases hown.2 with ⟨rfl, h00⟩ | ⟨g, cap, cur, rfl, _, _, _, _, _⟩
            · exact ⟨none, 0, by rw [h00]⟩
            · exact ⟨_, cap, rfl⟩
          obtain ⟨ao2, cap2, rfl⟩ := hlen
          have hL : ∀ x : Ex w6, x.w.cell? ⟨b2, 0, none⟩ = some (.slice ao2 q.length cap2) := fun x => cellOf (x.heap rb) 0
          have hT : ∀ x : Ex w6, RfW x.w b2 F4 q := fun x => (oRw b2 F4 q).ok (HS.out.get 0 rfl) x.ext (by simp)
          have hW : ∀ x : Ex w6, Wtr x.w b1 F1 hi q := fun x => (oW b1 F1 hi q).ok (HS.out.get 1 rfl) x.ext (by simp)
          clear hown rb
          refine wp_region_ext (by kernel_rfl) (by kernel_rfl) ?_
          repeat (go_big_quiet_step (first | (go_at_call 26; refine Calls.ext_of (Calls.same_ext (wlen_any b1 F1 hi q _ (hW _)))) | (go_at_call 27; refine Calls.ext_of (Calls.same_ext (wtext_any b1 F1 hi q _ (hW _)))) | (go_at_call 28; refine Calls.ext_of (rftext_any b2 F4 q hi _ (by omega) hqB (hT _)))))
          refine wpQuiet_nil ?_
          rintro _ ⟨x, rfl⟩
          clear hL hT hW
          have S := HS.out.quiet x.ext
          go_wp2_with fail
          go_roundg (n - (k + 1))
          case measure => omega
          case rel => exact ⟨k + 1, by omega, by go_num, F1, F4, q, hqB, by omega, S⟩
      · go_wp2_with fail
        go_ret
        exact ⟨rfl, S.ext⟩
  · have h2' : 300 < n := by omega
    go_enter Try.func5, Try.ntmps5
    go_wp2_with fail
    refine (lives_any w).mono ?_; rintro e w1 ⟨rfl, hx⟩
    go_wp2_with fail
    go_ret
    exact ⟨rfl, hx⟩
end Go.Proofs.Ytcbmapbpggjblaa.Bt
