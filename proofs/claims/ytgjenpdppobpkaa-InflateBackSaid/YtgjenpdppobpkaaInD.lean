/-
  inflate: put, Length, Distance, again, stored, coded walked.
-/
import Derived.Test.YtgjenpdppobpkaaInC
namespace Go.Proofs.Ytgjenpdppobpkaa.If
open Go.RowKit Bt Hu

/-- a byte more -/
theorem RunO.push {w W w1 : World} {ub rb : Nat} {s : ByteArray} {B p b : Nat} {out : List Nat} {v : Value} {O : Obj} {g cap2 : Nat} (h1 : w.heap[ub]? = some (runC rb v B)) (h4 : v.ownBlock ≠ some ub) (h5 : v.ownBlock ≠ some rb) (hr : w.heap[rb]? = some (rdr s p false)) (hn : ub ≠ rb) (hx : Ext [] w W)
    (hown1 : w1.ownsRow 0 5 1 (.slice (some ⟨g, 0, none⟩) (out.length + 1) cap2) (out.length + 1) (out.map b8 ++ [.int .u8 (b : Int)])) (hgrow : (W.alloc O).grownBy w1 v.ownBlock) (hat : v.ownBlock = some g ∨ g = W.heap.size + 1) :
    RunO (w1.setCell ⟨ub, 1, none⟩ (.slice (some ⟨g, 0, none⟩) (out.length + 1) cap2)) ub rb [ub, rb, g] s B p (out ++ [b]) ∧ Ext (ub :: rb :: v.ownBlock.toList) w (w1.setCell ⟨ub, 1, none⟩ (.slice (some ⟨g, 0, none⟩) (out.length + 1) cap2)) ∧ Fr w (ub :: rb :: v.ownBlock.toList) [ub, rb, g] := by
  have hb : W.heap[ub]? = some (runC rb v B) := hx.keep h1 (by simp)
  have hrW : W.heap[rb]? = some (rdr s p false) := hx.keep hr (by simp)
  obtain ⟨q1, q2, q3, q4, q5⟩ := push_field hb h4 hown1 hgrow hat 1
  have hrb : rb ∉ ub :: v.ownBlock.toList := fun hm => by
    rcases List.mem_cons.1 hm with e | hm
    · exact hn e.symm
    · exact h5 (by simpa using hm)
  have hgr : g ≠ rb := fun e => by
    subst e
    rcases hat with h | h
    · exact h5 h
    · have := lt_of_block hrW; omega
  refine ⟨⟨⟨_, q1, ?_, rfl, fun e => q4 (by simpa [Value.ownBlock] using e), fun e => hgr (by simpa [Value.ownBlock] using e)⟩, q3.keep hrW hrb, hn⟩, ?_, fun k hk => ?_⟩
  · rw [List.length_append, List.map_append]
    exact q2
  · exact (hx.weak (S := ub :: rb :: v.ownBlock.toList)).trans (q3.mono (fun k _ hk => by
      rcases List.mem_cons.1 hk with rfl | hk
      · simp
      · simp [hk]))
  · rcases List.mem_cons.1 hk with rfl | hk
    · exact .inl (by simp)
    · rcases List.mem_cons.1 hk with rfl | hk
      · exact .inl (by simp)
      · obtain rfl : k = g := by simpa using hk
        rcases hat with h | h
        · exact .inl (by simp [h])
        · have := hx.size; exact .inr (by omega)
section
variable {w0 w : World} {L : List Ob} {j ub rb : Nat} {F : List Nat} {s : ByteArray} {B p : Nat} {out : List Nat}
set_option maxRecDepth 100000 in
set_option maxHeartbeats 4000000 in
theorem c_put (b : Nat) (S : Sep w0 w L) (hL : L[j]? = some (oRun ub rb F s B p out)) (hB : B ≤ 1099511627776) :
    Calls Try.prog 74 #[.pointer (some ⟨ub, 0, none⟩), .int .u8 b] w (Pst w0 L j ub rb s B unit9 (putR B b p out)) := by
  have hO : RunO w ub rb F s B p out := S.get j hL
  obtain ⟨i0, hif, hz0, hz1, hz2⟩ := info_parts infoByte
  obtain ⟨⟨v, h1, h2, hF, h4, h5⟩, hr, hn⟩ := hO
  obtain ⟨ao, cap, rfl⟩ := own_slice h2
  have c1 : ∀ x : Ex w, x.w.cell? ⟨ub, 1, none⟩ = some (.slice ao out.length cap) := fun x => cellOf (x.heap h1) 1
  have c2 : ∀ x : Ex w, x.w.cell? ⟨ub, 2, none⟩ = some (.int .i64 B) := fun x => cellOf (x.heap h1) 2
  have HH := Lib.hid (⟨h1, h2, hF, h4, h5, hr, hn⟩ : _ ∧ _ ∧ _ ∧ _ ∧ _ ∧ _ ∧ _)
  have HS := Lib.hid S
  have HL := Lib.hid hL
  clear h1 h2 hF h4 h5 hr hn S hL
  by_cases hfull : B ≤ out.length
  · have hR : putR B b p out = .er 3 out := by unfold putR; rw [if_pos hfull]
    have HR := Lib.hid hR
    have hf' : (B : Int) ≤ (out.length : Int) := by omega
    clear hR
    go_enter Try.func74, Try.ntmps74
    go_wp2_with fail
    refine wp_region_ext (by kernel_rfl) (by kernel_rfl) ?_
    repeat (go_big_quiet_step (fail))
    refine wpQuiet_nil ?_
    clear c1 c2
    rintro _ ⟨x, rfl⟩
    go_wp2_with fail
    refine (check_er 3 rfl x.w).mono ?_
    rintro e w2 ⟨rfl, rfl⟩
    go_wp2_with fail
    refine ⟨rfl, Pst.er HR.out rfl F (p := p) ?_⟩
    rw [set_same HL.out]
    exact HS.out.quiet x.ext
  · have hR : putR B b p out = .ok () p (out ++ [b]) := by unfold putR; rw [if_neg hfull]
    have HR := Lib.hid hR
    have hf' : ¬ (B : Int) ≤ (out.length : Int) := by omega
    clear hR
    go_enter Try.func74, Try.ntmps74
    go_wp2_with fail
    refine wp_region_ext (by kernel_rfl) (by kernel_rfl) ?_
    repeat (go_big_quiet_step (fail))
    refine wpQuiet_nil ?_
    rintro _ ⟨x, rfl⟩
    have d1 := c1 x
    clear c1 c2
    have hrow : x.w.ownsRow 0 5 1 (.slice ao out.length cap) out.length (out.map b8) := row_keep x.ext HH.out.2.1
    have hb : x.w.heap[ub]? = some (runC rb (.slice ao out.length cap) B) := x.ext.keep HH.out.1 (by simp)
    have HB := Lib.hid hb
    have HNE := Lib.hid HH.out.2.2.2.1
    clear hb
    obtain ⟨W, hW⟩ : ∃ W, x.w = W := ⟨_, rfl⟩
    have hxW : Ext [] w W := by rw [← hW]; exact x.ext
    rw [hW] at hrow d1 HB ⊢
    have HXW := Lib.hid hxW
    clear hW hxW x
    go_wp2_with (first | (at_builtin; refine wpList_append_lies _ rfl _ _ 26 rfl 0 5 i0 _ 1 1 Try.underlying26 hif hz0 hz1 hz2 rfl (by decide) (.slice ao out.length cap) out.length _ rfl (hrow.alloc _) ⟨W.heap.size, 0, none⟩ 1 1 [.int .u8 (b : Int)] rfl rfl (cell_one_new _ _ _) (by simp [Value.oneCell']) (by decide) (by unfold maxLen; omega) (by omega) (by omega) (W.heap.size + 1) (by simp) ?_; intro g cap2 w1 hown1 hgrow hat hlt; have k1 := grown_keep hgrow (heap_alloc_old _ HB.out) HNE.out; have k2 := freeOf k1 1; have k3 := cellOf k1 1))
    obtain ⟨h1, h2, hF, h4, h5, hr, hn⟩ := HH.out
    obtain ⟨q1, q2, q3⟩ := RunO.push (out := out) (b := b) h1 h4 h5 hr hn HXW.out hown1 hgrow hat
    go_end0
    rw [← hF] at q2 q3
    exact Pst.ok HR.out rfl _ (HS.out.upd j (oRun ub rb [ub, rb, g] s B p (out ++ [b])) HL.out q2 q3 q1)
end
end Go.Proofs.Ytgjenpdppobpkaa.If
