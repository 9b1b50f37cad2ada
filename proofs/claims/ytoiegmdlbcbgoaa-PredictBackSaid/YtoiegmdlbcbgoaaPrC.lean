/-
  predict: what each way guesses: walked.
-/
import Derived.Test.YtoiegmdlbcbgoaaPrB
import Derived.Laws.EntriesVeiled
namespace Go.Proofs.Ytoiegmdlbcbgoaa.Pr
open Go.RowKit

def gv (way : Nat) (a b d : UInt8) : UInt8 :=
  if way = 0 then 0 else if way = 1 then a else if way = 2 then b else if way = 3 then UInt8.ofNat ((a.toNat + b.toNat) / 2) else paeth a b d
def gFn : Value := .agg #[.func (.func 34) #[] #[], .func (.func 35) #[] #[], .func (.func 36) #[] #[], .func (.func 37) #[] #[], .func (.func 12) #[] #[]]
set_option maxHeartbeats 4000000 in
theorem g1_walk (a b c : Int) (w : World) : Calls Try.prog 34 #[.int .u8 a, .int .u8 b, .int .u8 c] w fun e w' => e = .returned (.int .u8 0) ∧ w = w' := by
  go_enter Try.func34, Try.ntmps34
  go_wp2_with fail
  go_ret
  exact ⟨rfl, rfl⟩
set_option maxHeartbeats 4000000 in
theorem g2_walk (a b c : Int) (w : World) : Calls Try.prog 35 #[.int .u8 a, .int .u8 b, .int .u8 c] w fun e w' => e = .returned (.int .u8 a) ∧ w = w' := by
  go_enter Try.func35, Try.ntmps35
  go_wp2_with fail
  go_ret
  exact ⟨rfl, rfl⟩
set_option maxHeartbeats 4000000 in
theorem g3_walk (a b c : Int) (w : World) : Calls Try.prog 36 #[.int .u8 a, .int .u8 b, .int .u8 c] w fun e w' => e = .returned (.int .u8 b) ∧ w = w' := by
  go_enter Try.func36, Try.ntmps36
  go_wp2_with fail
  go_ret
  exact ⟨rfl, rfl⟩
set_option maxHeartbeats 4000000 in
theorem g4_walk (a b : UInt8) (c : Int) (w : World) : Calls Try.prog 37 #[.int .u8 ((a.toNat : Nat) : Int), .int .u8 ((b.toNat : Nat) : Int), .int .u8 c] w fun e w' => e = .returned (.int .u8 (((gv 3 a b 0).toNat : Nat) : Int)) ∧ w = w' := by
  have a8 := a.toNat_lt
  have b8 := b.toNat_lt
  have he : (((gv 3 a b 0).toNat : Nat) : Int) = ((a.toNat : Int) + (b.toNat : Int)) / 2 := by
    show (((UInt8.ofNat ((a.toNat + b.toNat) / 2)).toNat : Nat) : Int) = _
    rw [UInt8.toNat_ofNat']; omega
  rw [he]
  clear he
  go_enter Try.func37, Try.ntmps37
  go_wp2_with fail
  go_ret
  exact ⟨rfl, rfl⟩
set_option maxHeartbeats 4000000 in
theorem guesses_walk (w : World) : Calls Try.prog 28 #[] w fun e w' => e = .returned gFn ∧ Ext [] w w' := by
  go_enter Try.func28, Try.ntmps28
  go_wp2_with fail
  exact bodyPost_ret_by (results_cell_row rfl _ _ w.heap.size 59 _ (0, 0) _ rfl (heap_alloc_new _ _) Try.underlying59 rfl (by kernel_rfl)) rfl ⟨rfl, (Ext.refl _ _).alloc _⟩

def guessV (way bs : Nat) (R U : Nat → UInt8) (i : Nat) : UInt8 := if bs ≤ i then gv way (R (i - bs)) (U i) (U (i - bs)) else gv way 0 (U i) 0
def coderO (bs n ab ao ac : Nat) : Obj := .cells #[.int .i64 bs, .slice (some ⟨ab, ao, none⟩) n ac] 50 (0, 0)
/-- what a way's function tells -/
def GCall (way : Nat) (f : Nat) : Prop := ∀ (a b d : UInt8) (w : World), Calls Try.prog f #[c8 a, c8 b, c8 d] w fun e w' => e = .returned (c8 (gv way a b d)) ∧ w = w'
theorem gcall0 : GCall 0 34 := fun _ _ _ w => g1_walk _ _ _ w
theorem gcall1 : GCall 1 35 := fun _ _ _ w => g2_walk _ _ _ w
theorem gcall2 : GCall 2 36 := fun _ _ _ w => g3_walk _ _ _ w
theorem gcall3 : GCall 3 37 := fun a b _ w => g4_walk a b _ w
theorem gcall4 : GCall 4 12 := fun a b d w => paeth_walk a b d w
set_option maxRecDepth 100000 in
set_option maxHeartbeats 8000000 in
theorem guess0_far (bs n i : Nat) (R U : Nat → UInt8) (cb rb ro rc ab ao ac : Nat) (w : World)
    (hc : w.heap[cb]? = some (coderO bs n ab ao ac)) (hR : w.cell? ⟨rb, ro + (i - bs), none⟩ = some (c8 (R (i - bs)))) (hU : w.cell? ⟨ab, ao + i, none⟩ = some (c8 (U i))) (hU2 : w.cell? ⟨ab, ao + (i - bs), none⟩ = some (c8 (U (i - bs))))
    (hi : i < n) (hn : n ≤ 1048576) (hbs : 1 ≤ bs) (hbi : bs ≤ i) :
    Calls Try.prog 23 #[.pointer (some ⟨cb, 0, none⟩), .int .u8 0, .slice (some ⟨rb, ro, none⟩) n rc, .int .i64 i] w fun e w' => e = .returned (c8 (guessV 0 bs R U i)) ∧ Ext [] w w' := by
  have hv : guessV 0 bs R U i = gv 0 (R (i - bs)) (U i) (U (i - bs)) := if_pos hbi
  rw [hv]
  have hcall := gcall0 (R (i - bs)) (U i) (U (i - bs))
  generalize gv 0 (R (i - bs)) (U i) (U (i - bs)) = Z at hcall ⊢
  generalize R (i - bs) = A at hcall hR
  generalize U (i - bs) = D at hcall hU2
  generalize U i = B at hcall hU
  have hf : ∀ w, (Instr.index 59 gFn (.int .u8 0)).run Try.prog w = .ok (.func (.func 34) #[] #[]) w := fun _ => by kernel_rfl
  unfold coderO at hc
  have c0 := cellOf hc 0
  have c1 := cellOf hc 1
  have HG := Lib.hid hcall
  have HC := Lib.hid hc
  have HU := Lib.hid hU
  clear hc hcall hv
  have e4 : (0 : Int) ≤ (i : Int) := by omega
  have e5 : (i : Int) < (n : Int) := by omega
  have e1 : (0 : Int) ≤ (i : Int) - (bs : Int) := by omega
  have e2 : (i : Int) - (bs : Int) < (n : Int) := by omega
  have e3 : ((i : Int) - (bs : Int)).toNat = i - bs := by omega
  unfold c8 at *
  go_enter Try.func23, Try.ntmps23
  go_wp2_with fail
  go_quiet (fail)
  go_wp2_with fail
  clear c0 c1
  obtain ⟨w2, hw2, hx2⟩ : ∃ w2, w.drewN nq = w2 ∧ Ext [] w w2 := ⟨_, rfl, (Ext.refl _ _).drewN _⟩
  rw [hw2]
  have hc2 := hx2.keep HC.out (by simp)
  have hu2 := Ext.cell hx2 HU.out
  have HX := Lib.hid hx2
  clear hw2 hx2
  refine wp_region_ext (by kernel_rfl) (by kernel_rfl) ?_
  have d0 : ∀ x : Ex w2, x.w.cell? ⟨cb, 1, none⟩ = some (.slice (some ⟨ab, ao, none⟩) n ac) := fun x => cellOf (x.heap hc2) 1
  have d1 : ∀ x : Ex w2, x.w.cell? ⟨ab, ao + i, none⟩ = some (.int .u8 ((B.toNat : Nat) : Int)) := fun x => x.cell hu2
  clear hc2 hu2
  repeat (go_big_quiet_step (first | (go_at_call 28; refine Calls.ext_of (guesses_walk _)) | (go_at_call 34; refine Calls.ext_of ((HG.out _).mono (fun _ _ h => ⟨h.1, h.2 ▸ Ext.refl _ _⟩)))))
  refine wpQuiet_nil ?_
  rintro _ ⟨x, rfl⟩
  have HX3 := Lib.hid (HX.out.trans x.ext)
  clear HX d0 d1
  go_wp2_with fail
  go_ret
  exact ⟨rfl, HX3.out⟩
set_option maxRecDepth 100000 in
set_option maxHeartbeats 8000000 in
theorem guess0_near (bs n i : Nat) (R U : Nat → UInt8) (cb rb ro rc ab ao ac : Nat) (w : World)
    (hc : w.heap[cb]? = some (coderO bs n ab ao ac)) (hU : w.cell? ⟨ab, ao + i, none⟩ = some (c8 (U i)))
    (hi : i < n) (_hn : n ≤ 1048576) (_hbs : 1 ≤ bs) (hbi : i < bs) :
    Calls Try.prog 23 #[.pointer (some ⟨cb, 0, none⟩), .int .u8 0, .slice (some ⟨rb, ro, none⟩) n rc, .int .i64 i] w fun e w' => e = .returned (c8 (guessV 0 bs R U i)) ∧ Ext [] w w' := by
  have hv : guessV 0 bs R U i = gv 0 0 (U i) 0 := if_neg (by omega)
  rw [hv]
  have hcall := gcall0 0 (U i) 0
  generalize gv 0 0 (U i) 0 = Z at hcall ⊢
  generalize U i = B at hcall hU
  have hf : ∀ w, (Instr.index 59 gFn (.int .u8 0)).run Try.prog w = .ok (.func (.func 34) #[] #[]) w := fun _ => by kernel_rfl
  unfold coderO at hc
  have c0 := cellOf hc 0
  have c1 := cellOf hc 1
  have HG := Lib.hid hcall
  have HC := Lib.hid hc
  have HU := Lib.hid hU
  clear hc hcall hv
  have e4 : (0 : Int) ≤ (i : Int) := by omega
  have e5 : (i : Int) < (n : Int) := by omega
  unfold c8 at *
  go_enter Try.func23, Try.ntmps23
  go_wp2_with fail
  clear c0 c1
  obtain ⟨w2, hw2, hx2⟩ : ∃ w2, w = w2 ∧ Ext [] w w2 := ⟨_, rfl, Ext.refl _ _⟩
  rw [hw2]
  have hc2 := hx2.keep HC.out (by simp)
  have hu2 := Ext.cell hx2 HU.out
  have HX := Lib.hid hx2
  clear hw2 hx2
  refine wp_region_ext (by kernel_rfl) (by kernel_rfl) ?_
  have d0 : ∀ x : Ex w2, x.w.cell? ⟨cb, 1, none⟩ = some (.slice (some ⟨ab, ao, none⟩) n ac) := fun x => cellOf (x.heap hc2) 1
  have d1 : ∀ x : Ex w2, x.w.cell? ⟨ab, ao + i, none⟩ = some (.int .u8 ((B.toNat : Nat) : Int)) := fun x => x.cell hu2
  clear hc2 hu2
  repeat (go_big_quiet_step (first | (go_at_call 28; refine Calls.ext_of (guesses_walk _)) | (go_at_call 34; refine Calls.ext_of ((HG.out _).mono (fun _ _ h => ⟨h.1, h.2 ▸ Ext.refl _ _⟩)))))
  refine wpQuiet_nil ?_
  rintro _ ⟨x, rfl⟩
  have HX3 := Lib.hid (HX.out.trans x.ext)
  clear HX d0 d1
  go_wp2_with fail
  go_ret
  exact ⟨rfl, HX3.out⟩
set_option maxRecDepth 100000 in
set_option maxHeartbeats 8000000 in
theorem guess1_far (bs n i : Nat) (R U : Nat → UInt8) (cb rb ro rc ab ao ac : Nat) (w : World)
    (hc : w.heap[cb]? = some (coderO bs n ab ao ac)) (hR : w.cell? ⟨rb, ro + (i - bs), none⟩ = some (c8 (R (i - bs)))) (hU : w.cell? ⟨ab, ao + i, none⟩ = some (c8 (U i))) (hU2 : w.cell? ⟨ab, ao + (i - bs), none⟩ = some (c8 (U (i - bs))))
    (hi : i < n) (hn : n ≤ 1048576) (hbs : 1 ≤ bs) (hbi : bs ≤ i) :
    Calls Try.prog 23 #[.pointer (some ⟨cb, 0, none⟩), .int .u8 1, .slice (some ⟨rb, ro, none⟩) n rc, .int .i64 i] w fun e w' => e = .returned (c8 (guessV 1 bs R U i)) ∧ Ext [] w w' := by
  have hv : guessV 1 bs R U i = gv 1 (R (i - bs)) (U i) (U (i - bs)) := if_pos hbi
  rw [hv]
  have hcall := gcall1 (R (i - bs)) (U i) (U (i - bs))
  generalize gv 1 (R (i - bs)) (U i) (U (i - bs)) = Z at hcall ⊢
  generalize R (i - bs) = A at hcall hR
  generalize U (i - bs) = D at hcall hU2
  generalize U i = B at hcall hU
  have hf : ∀ w, (Instr.index 59 gFn (.int .u8 1)).run Try.prog w = .ok (.func (.func 35) #[] #[]) w := fun _ => by kernel_rfl
  unfold coderO at hc
  have c0 := cellOf hc 0
  have c1 := cellOf hc 1
  have HG := Lib.hid hcall
  have HC := Lib.hid hc
  have HU := Lib.hid hU
  clear hc hcall hv
  have e4 : (0 : Int) ≤ (i : Int) := by omega
  have e5 : (i : Int) < (n : Int) := by omega
  have e1 : (0 : Int) ≤ (i : Int) - (bs : Int) := by omega
  have e2 : (i : Int) - (bs : Int) < (n : Int) := by omega
  have e3 : ((i : Int) - (bs : Int)).toNat = i - bs := by omega
  unfold c8 at *
  go_enter Try.func23, Try.ntmps23
  go_wp2_with fail
  go_quiet (fail)
  go_wp2_with fail
  clear c0 c1
  obtain ⟨w2, hw2, hx2⟩ : ∃ w2, w.drewN nq = w2 ∧ Ext [] w w2 := ⟨_, rfl, (Ext.refl _ _).drewN _⟩
  rw [hw2]
  have hc2 := hx2.keep HC.out (by simp)
  have hu2 := Ext.cell hx2 HU.out
  have HX := Lib.hid hx2
  clear hw2 hx2
  refine wp_region_ext (by kernel_rfl) (by kernel_rfl) ?_
  have d0 : ∀ x : Ex w2, x.w.cell? ⟨cb, 1, none⟩ = some (.slice (some ⟨ab, ao, none⟩) n ac) := fun x => cellOf (x.heap hc2) 1
  have d1 : ∀ x : Ex w2, x.w.cell? ⟨ab, ao + i, none⟩ = some (.int .u8 ((B.toNat : Nat) : Int)) := fun x => x.cell hu2
  clear hc2 hu2
  repeat (go_big_quiet_step (first | (go_at_call 28; refine Calls.ext_of (guesses_walk _)) | (go_at_call 35; refine Calls.ext_of ((HG.out _).mono (fun _ _ h => ⟨h.1, h.2 ▸ Ext.refl _ _⟩)))))
  refine wpQuiet_nil ?_
  rintro _ ⟨x, rfl⟩
  have HX3 := Lib.hid (HX.out.trans x.ext)
  clear HX d0 d1
  go_wp2_with fail
  go_ret
  exact ⟨rfl, HX3.out⟩
set_option maxRecDepth 100000 in
set_option maxHeartbeats 8000000 in
theorem guess1_near (bs n i : Nat) (R U : Nat → UInt8) (cb rb ro rc ab ao ac : Nat) (w : World)
    (hc : w.heap[cb]? = some (coderO bs n ab ao ac)) (hU : w.cell? ⟨ab, ao + i, none⟩ = some (c8 (U i)))
    (hi : i < n) (_hn : n ≤ 1048576) (_hbs : 1 ≤ bs) (hbi : i < bs) :
    Calls Try.prog 23 #[.pointer (some ⟨cb, 0, none⟩), .int .u8 1, .slice (some ⟨rb, ro, none⟩) n rc, .int .i64 i] w fun e w' => e = .returned (c8 (guessV 1 bs R U i)) ∧ Ext [] w w' := by
  have hv : guessV 1 bs R U i = gv 1 0 (U i) 0 := if_neg (by omega)
  rw [hv]
  have hcall := gcall1 0 (U i) 0
  generalize gv 1 0 (U i) 0 = Z at hcall ⊢
  generalize U i = B at hcall hU
  have hf : ∀ w, (Instr.index 59 gFn (.int .u8 1)).run Try.prog w = .ok (.func (.func 35) #[] #[]) w := fun _ => by kernel_rfl
  unfold coderO at hc
  have c0 := cellOf hc 0
  have c1 := cellOf hc 1
  have HG := Lib.hid hcall
  have HC := Lib.hid hc
  have HU := Lib.hid hU
  clear hc hcall hv
  have e4 : (0 : Int) ≤ (i : Int) := by omega
  have e5 : (i : Int) < (n : Int) := by omega
  unfold c8 at *
  go_enter Try.func23, Try.ntmps23
  go_wp2_with fail
  clear c0 c1
  obtain ⟨w2, hw2, hx2⟩ : ∃ w2, w = w2 ∧ Ext [] w w2 := ⟨_, rfl, Ext.refl _ _⟩
  rw [hw2]
  have hc2 := hx2.keep HC.out (by simp)
  have hu2 := Ext.cell hx2 HU.out
  have HX := Lib.hid hx2
  clear hw2 hx2
  refine wp_region_ext (by kernel_rfl) (by kernel_rfl) ?_
  have d0 : ∀ x : Ex w2, x.w.cell? ⟨cb, 1, none⟩ = some (.slice (some ⟨ab, ao, none⟩) n ac) := fun x => cellOf (x.heap hc2) 1
  have d1 : ∀ x : Ex w2, x.w.cell? ⟨ab, ao + i, none⟩ = some (.int .u8 ((B.toNat : Nat) : Int)) := fun x => x.cell hu2
  clear hc2 hu2
  repeat (go_big_quiet_step (first | (go_at_call 28; refine Calls.ext_of (guesses_walk _)) | (go_at_call 35; refine Calls.ext_of ((HG.out _).mono (fun _ _ h => ⟨h.1, h.2 ▸ Ext.refl _ _⟩)))))
  refine wpQuiet_nil ?_
  rintro _ ⟨x, rfl⟩
  have HX3 := Lib.hid (HX.out.trans x.ext)
  clear HX d0 d1
  go_wp2_with fail
  go_ret
  exact ⟨rfl, HX3.out⟩
set_option maxRecDepth 100000 in
set_option maxHeartbeats 8000000 in
theorem guess2_far (bs n i : Nat) (R U : Nat → UInt8) (cb rb ro rc ab ao ac : Nat) (w : World)
    (hc : w.heap[cb]? = some (coderO bs n ab ao ac)) (hR : w.cell? ⟨rb, ro + (i - bs), none⟩ = some (c8 (R (i - bs)))) (hU : w.cell? ⟨ab, ao + i, none⟩ = some (c8 (U i))) (hU2 : w.cell? ⟨ab, ao + (i - bs), none⟩ = some (c8 (U (i - bs))))
    (hi : i < n) (hn : n ≤ 1048576) (hbs : 1 ≤ bs) (hbi : bs ≤ i) :
    Calls Try.prog 23 #[.pointer (some ⟨cb, 0, none⟩), .int .u8 2, .slice (some ⟨rb, ro, none⟩) n rc, .int .i64 i] w fun e w' => e = .returned (c8 (guessV 2 bs R U i)) ∧ Ext [] w w' := by
  have hv : guessV 2 bs R U i = gv 2 (R (i - bs)) (U i) (U (i - bs)) := if_pos hbi
  rw [hv]
  have hcall := gcall2 (R (i - bs)) (U i) (U (i - bs))
  generalize gv 2 (R (i - bs)) (U i) (U (i - bs)) = Z at hcall ⊢
  generalize R (i - bs) = A at hcall hR
  generalize U (i - bs) = D at hcall hU2
  generalize U i = B at hcall hU
  have hf : ∀ w, (Instr.index 59 gFn (.int .u8 2)).run Try.prog w = .ok (.func (.func 36) #[] #[]) w := fun _ => by kernel_rfl
  unfold coderO at hc
  have c0 := cellOf hc 0
  have c1 := cellOf hc 1
  have HG := Lib.hid hcall
  have HC := Lib.hid hc
  have HU := Lib.hid hU
  clear hc hcall hv
  have e4 : (0 : Int) ≤ (i : Int) := by omega
  have e5 : (i : Int) < (n : Int) := by omega
  have e1 : (0 : Int) ≤ (i : Int) - (bs : Int) := by omega
  have e2 : (i : Int) - (bs : Int) < (n : Int) := by omega
  have e3 : ((i : Int) - (bs : Int)).toNat = i - bs := by omega
  unfold c8 at *
  go_enter Try.func23, Try.ntmps23
  go_wp2_with fail
  go_quiet (fail)
  go_wp2_with fail
  clear c0 c1
  obtain ⟨w2, hw2, hx2⟩ : ∃ w2, w.drewN nq = w2 ∧ Ext [] w w2 := ⟨_, rfl, (Ext.refl _ _).drewN _⟩
  rw [hw2]
  have hc2 := hx2.keep HC.out (by simp)
  have hu2 := Ext.cell hx2 HU.out
  have HX := Lib.hid hx2
  clear hw2 hx2
  refine wp_region_ext (by kernel_rfl) (by kernel_rfl) ?_
  have d0 : ∀ x : Ex w2, x.w.cell? ⟨cb, 1, none⟩ = some (.slice (some ⟨ab, ao, none⟩) n ac) := fun x => cellOf (x.heap hc2) 1
  have d1 : ∀ x : Ex w2, x.w.cell? ⟨ab, ao + i, none⟩ = some (.int .u8 ((B.toNat : Nat) : Int)) := fun x => x.cell hu2
  clear hc2 hu2
  repeat (go_big_quiet_step (first | (go_at_call 28; refine Calls.ext_of (guesses_walk _)) | (go_at_call 36; refine Calls.ext_of ((HG.out _).mono (fun _ _ h => ⟨h.1, h.2 ▸ Ext.refl _ _⟩)))))
  refine wpQuiet_nil ?_
  rintro _ ⟨x, rfl⟩
  have HX3 := Lib.hid (HX.out.trans x.ext)
  clear HX d0 d1
  go_wp2_with fail
  go_ret
  exact ⟨rfl, HX3.out⟩
set_option maxRecDepth 100000 in
set_option maxHeartbeats 8000000 in
theorem guess2_near (bs n i : Nat) (R U : Nat → UInt8) (cb rb ro rc ab ao ac : Nat) (w : World)
    (hc : w.heap[cb]? = some (coderO bs n ab ao ac)) (hU : w.cell? ⟨ab, ao + i, none⟩ = some (c8 (U i)))
    (hi : i < n) (_hn : n ≤ 1048576) (_hbs : 1 ≤ bs) (hbi : i < bs) :
    Calls Try.prog 23 #[.pointer (some ⟨cb, 0, none⟩), .int .u8 2, .slice (some ⟨rb, ro, none⟩) n rc, .int .i64 i] w fun e w' => e = .returned (c8 (guessV 2 bs R U i)) ∧ Ext [] w w' := by
  have hv : guessV 2 bs R U i = gv 2 0 (U i) 0 := if_neg (by omega)
  rw [hv]
  have hcall := gcall2 0 (U i) 0
  generalize gv 2 0 (U i) 0 = Z at hcall ⊢
  generalize U i = B at hcall hU
  have hf : ∀ w, (Instr.index 59 gFn (.int .u8 2)).run Try.prog w = .ok (.func (.func 36) #[] #[]) w := fun _ => by kernel_rfl
  unfold coderO at hc
  have c0 := cellOf hc 0
  have c1 := cellOf hc 1
  have HG := Lib.hid hcall
  have HC := Lib.hid hc
  have HU := Lib.hid hU
  clear hc hcall hv
  have e4 : (0 : Int) ≤ (i : Int) := by omega
  have e5 : (i : Int) < (n : Int) := by omega
  unfold c8 at *
  go_enter Try.func23, Try.ntmps23
  go_wp2_with fail
  clear c0 c1
  obtain ⟨w2, hw2, hx2⟩ : ∃ w2, w = w2 ∧ Ext [] w w2 := ⟨_, rfl, Ext.refl _ _⟩
  rw [hw2]
  have hc2 := hx2.keep HC.out (by simp)
  have hu2 := Ext.cell hx2 HU.out
  have HX := Lib.hid hx2
  clear hw2 hx2
  refine wp_region_ext (by kernel_rfl) (by kernel_rfl) ?_
  have d0 : ∀ x : Ex w2, x.w.cell? ⟨cb, 1, none⟩ = some (.slice (some ⟨ab, ao, none⟩) n ac) := fun x => cellOf (x.heap hc2) 1
  have d1 : ∀ x : Ex w2, x.w.cell? ⟨ab, ao + i, none⟩ = some (.int .u8 ((B.toNat : Nat) : Int)) := fun x => x.cell hu2
  clear hc2 hu2
  repeat (go_big_quiet_step (first | (go_at_call 28; refine Calls.ext_of (guesses_walk _)) | (go_at_call 36; refine Calls.ext_of ((HG.out _).mono (fun _ _ h => ⟨h.1, h.2 ▸ Ext.refl _ _⟩)))))
  refine wpQuiet_nil ?_
  rintro _ ⟨x, rfl⟩
  have HX3 := Lib.hid (HX.out.trans x.ext)
  clear HX d0 d1
  go_wp2_with fail
  go_ret
  exact ⟨rfl, HX3.out⟩
set_option maxRecDepth 100000 in
set_option maxHeartbeats 8000000 in
theorem guess3_far (bs n i : Nat) (R U : Nat → UInt8) (cb rb ro rc ab ao ac : Nat) (w : World)
    (hc : w.heap[cb]? = some (coderO bs n ab ao ac)) (hR : w.cell? ⟨rb, ro + (i - bs), none⟩ = some (c8 (R (i - bs)))) (hU : w.cell? ⟨ab, ao + i, none⟩ = some (c8 (U i))) (hU2 : w.cell? ⟨ab, ao + (i - bs), none⟩ = some (c8 (U (i - bs))))
    (hi : i < n) (hn : n ≤ 1048576) (hbs : 1 ≤ bs) (hbi : bs ≤ i) :
    Calls Try.prog 23 #[.pointer (some ⟨cb, 0, none⟩), .int .u8 3, .slice (some ⟨rb, ro, none⟩) n rc, .int .i64 i] w fun e w' => e = .returned (c8 (guessV 3 bs R U i)) ∧ Ext [] w w' := by
  have hv : guessV 3 bs R U i = gv 3 (R (i - bs)) (U i) (U (i - bs)) := if_pos hbi
  rw [hv]
  have hcall := gcall3 (R (i - bs)) (U i) (U (i - bs))
  generalize gv 3 (R (i - bs)) (U i) (U (i - bs)) = Z at hcall ⊢
  generalize R (i - bs) = A at hcall hR
  generalize U (i - bs) = D at hcall hU2
  generalize U i = B at hcall hU
  have hf : ∀ w, (Instr.index 59 gFn (.int .u8 3)).run Try.prog w = .ok (.func (.func 37) #[] #[]) w := fun _ => by kernel_rfl
  unfold coderO at hc
  have c0 := cellOf hc 0
  have c1 := cellOf hc 1
  have HG := Lib.hid hcall
  have HC := Lib.hid hc
  have HU := Lib.hid hU
  clear hc hcall hv
  have e4 : (0 : Int) ≤ (i : Int) := by omega
  have e5 : (i : Int) < (n : Int) := by omega
  have e1 : (0 : Int) ≤ (i : Int) - (bs : Int) := by omega
  have e2 : (i : Int) - (bs : Int) < (n : Int) := by omega
  have e3 : ((i : Int) - (bs : Int)).toNat = i - bs := by omega
  unfold c8 at *
  go_enter Try.func23, Try.ntmps23
  go_wp2_with fail
  go_quiet (fail)
  go_wp2_with fail
  clear c0 c1
  obtain ⟨w2, hw2, hx2⟩ : ∃ w2, w.drewN nq = w2 ∧ Ext [] w w2 := ⟨_, rfl, (Ext.refl _ _).drewN _⟩
  rw [hw2]
  have hc2 := hx2.keep HC.out (by simp)
  have hu2 := Ext.cell hx2 HU.out
  have HX := Lib.hid hx2
  clear hw2 hx2
  refine wp_region_ext (by kernel_rfl) (by kernel_rfl) ?_
  have d0 : ∀ x : Ex w2, x.w.cell? ⟨cb, 1, none⟩ = some (.slice (some ⟨ab, ao, none⟩) n ac) := fun x => cellOf (x.heap hc2) 1
  have d1 : ∀ x : Ex w2, x.w.cell? ⟨ab, ao + i, none⟩ = some (.int .u8 ((B.toNat : Nat) : Int)) := fun x => x.cell hu2
  clear hc2 hu2
  repeat (go_big_quiet_step (first | (go_at_call 28; refine Calls.ext_of (guesses_walk _)) | (go_at_call 37; refine Calls.ext_of ((HG.out _).mono (fun _ _ h => ⟨h.1, h.2 ▸ Ext.refl _ _⟩)))))
  refine wpQuiet_nil ?_
  rintro _ ⟨x, rfl⟩
  have HX3 := Lib.hid (HX.out.trans x.ext)
  clear HX d0 d1
  go_wp2_with fail
  go_ret
  exact ⟨rfl, HX3.out⟩
set_option maxRecDepth 100000 in
set_option maxHeartbeats 8000000 in
theorem guess3_near (bs n i : Nat) (R U : Nat → UInt8) (cb rb ro rc ab ao ac : Nat) (w : World)
    (hc : w.heap[cb]? = some (coderO bs n ab ao ac)) (hU : w.cell? ⟨ab, ao + i, none⟩ = some (c8 (U i)))
    (hi : i < n) (_hn : n ≤ 1048576) (_hbs : 1 ≤ bs) (hbi : i < bs) :
    Calls Try.prog 23 #[.pointer (some ⟨cb, 0, none⟩), .int .u8 3, .slice (some ⟨rb, ro, none⟩) n rc, .int .i64 i] w fun e w' => e = .returned (c8 (guessV 3 bs R U i)) ∧ Ext [] w w' := by
  have hv : guessV 3 bs R U i = gv 3 0 (U i) 0 := if_neg (by omega)
  rw [hv]
  have hcall := gcall3 0 (U i) 0
  generalize gv 3 0 (U i) 0 = Z at hcall ⊢
  generalize U i = B at hcall hU
  have hf : ∀ w, (Instr.index 59 gFn (.int .u8 3)).run Try.prog w = .ok (.func (.func 37) #[] #[]) w := fun _ => by kernel_rfl
  unfold coderO at hc
  have c0 := cellOf hc 0
  have c1 := cellOf hc 1
  have HG := Lib.hid hcall
  have HC := Lib.hid hc
  have HU := Lib.hid hU
  clear hc hcall hv
  have e4 : (0 : Int) ≤ (i : Int) := by omega
  have e5 : (i : Int) < (n : Int) := by omega
  unfold c8 at *
  go_enter Try.func23, Try.ntmps23
  go_wp2_with fail
  clear c0 c1
  obtain ⟨w2, hw2, hx2⟩ : ∃ w2, w = w2 ∧ Ext [] w w2 := ⟨_, rfl, Ext.refl _ _⟩
  rw [hw2]
  have hc2 := hx2.keep HC.out (by simp)
  have hu2 := Ext.cell hx2 HU.out
  have HX := Lib.hid hx2
  clear hw2 hx2
  refine wp_region_ext (by kernel_rfl) (by kernel_rfl) ?_
  have d0 : ∀ x : Ex w2, x.w.cell? ⟨cb, 1, none⟩ = some (.slice (some ⟨ab, ao, none⟩) n ac) := fun x => cellOf (x.heap hc2) 1
  have d1 : ∀ x : Ex w2, x.w.cell? ⟨ab, ao + i, none⟩ = some (.int .u8 ((B.toNat : Nat) : Int)) := fun x => x.cell hu2
  clear hc2 hu2
  repeat (go_big_quiet_step (first | (go_at_call 28; refine Calls.ext_of (guesses_walk _)) | (go_at_call 37; refine Calls.ext_of ((HG.out _).mono (fun _ _ h => ⟨h.1, h.2 ▸ Ext.refl _ _⟩)))))
  refine wpQuiet_nil ?_
  rintro _ ⟨x, rfl⟩
  have HX3 := Lib.hid (HX.out.trans x.ext)
  clear HX d0 d1
  go_wp2_with fail
  go_ret
  exact ⟨rfl, HX3.out⟩
set_option maxRecDepth 100000 in
set_option maxHeartbeats 8000000 in
theorem guess4_far (bs n i : Nat) (R U : Nat → UInt8) (cb rb ro rc ab ao ac : Nat) (w : World)
    (hc : w.heap[cb]? = some (coderO bs n ab ao ac)) (hR : w.cell? ⟨rb, ro + (i - bs), none⟩ = some (c8 (R (i - bs)))) (hU : w.cell? ⟨ab, ao + i, none⟩ = some (c8 (U i))) (hU2 : w.cell? ⟨ab, ao + (i - bs), none⟩ = some (c8 (U (i - bs))))
    (hi : i < n) (hn : n ≤ 1048576) (hbs : 1 ≤ bs) (hbi : bs ≤ i) :
    Calls Try.prog 23 #[.pointer (some ⟨cb, 0, none⟩), .int .u8 4, .slice (some ⟨rb, ro, none⟩) n rc, .int .i64 i] w fun e w' => e = .returned (c8 (guessV 4 bs R U i)) ∧ Ext [] w w' := by
  have hv : guessV 4 bs R U i = gv 4 (R (i - bs)) (U i) (U (i - bs)) := if_pos hbi
  rw [hv]
  have hcall := gcall4 (R (i - bs)) (U i) (U (i - bs))
  generalize gv 4 (R (i - bs)) (U i) (U (i - bs)) = Z at hcall ⊢
  generalize R (i - bs) = A at hcall hR
  generalize U (i - bs) = D at hcall hU2
  generalize U i = B at hcall hU
  have hf : ∀ w, (Instr.index 59 gFn (.int .u8 4)).run Try.prog w = .ok (.func (.func 12) #[] #[]) w := fun _ => by kernel_rfl
  unfold coderO at hc
  have c0 := cellOf hc 0
  have c1 := cellOf hc 1
  have HG := Lib.hid hcall
  have HC := Lib.hid hc
  have HU := Lib.hid hU
  clear hc hcall hv
  have e4 : (0 : Int) ≤ (i : Int) := by omega
  have e5 : (i : Int) < (n : Int) := by omega
  have e1 : (0 : Int) ≤ (i : Int) - (bs : Int) := by omega
  have e2 : (i : Int) - (bs : Int) < (n : Int) := by omega
  have e3 : ((i : Int) - (bs : Int)).toNat = i - bs := by omega
  unfold c8 at *
  go_enter Try.func23, Try.ntmps23
  go_wp2_with fail
  go_quiet (fail)
  go_wp2_with fail
  clear c0 c1
  obtain ⟨w2, hw2, hx2⟩ : ∃ w2, w.drewN nq = w2 ∧ Ext [] w w2 := ⟨_, rfl, (Ext.refl _ _).drewN _⟩
  rw [hw2]
  have hc2 := hx2.keep HC.out (by simp)
  have hu2 := Ext.cell hx2 HU.out
  have HX := Lib.hid hx2
  clear hw2 hx2
  refine wp_region_ext (by kernel_rfl) (by kernel_rfl) ?_
  have d0 : ∀ x : Ex w2, x.w.cell? ⟨cb, 1, none⟩ = some (.slice (some ⟨ab, ao, none⟩) n ac) := fun x => cellOf (x.heap hc2) 1
  have d1 : ∀ x : Ex w2, x.w.cell? ⟨ab, ao + i, none⟩ = some (.int .u8 ((B.toNat : Nat) : Int)) := fun x => x.cell hu2
  clear hc2 hu2
  repeat (go_big_quiet_step (first | (go_at_call 28; refine Calls.ext_of (guesses_walk _)) | (go_at_call 12; refine Calls.ext_of ((HG.out _).mono (fun _ _ h => ⟨h.1, h.2 ▸ Ext.refl _ _⟩)))))
  refine wpQuiet_nil ?_
  rintro _ ⟨x, rfl⟩
  have HX3 := Lib.hid (HX.out.trans x.ext)
  clear HX d0 d1
  go_wp2_with fail
  go_ret
  exact ⟨rfl, HX3.out⟩
set_option maxRecDepth 100000 in
set_option maxHeartbeats 8000000 in
theorem guess4_near (bs n i : Nat) (R U : Nat → UInt8) (cb rb ro rc ab ao ac : Nat) (w : World)
    (hc : w.heap[cb]? = some (coderO bs n ab ao ac)) (hU : w.cell? ⟨ab, ao + i, none⟩ = some (c8 (U i)))
    (hi : i < n) (_hn : n ≤ 1048576) (_hbs : 1 ≤ bs) (hbi : i < bs) :
    Calls Try.prog 23 #[.pointer (some ⟨cb, 0, none⟩), .int .u8 4, .slice (some ⟨rb, ro, none⟩) n rc, .int .i64 i] w fun e w' => e = .returned (c8 (guessV 4 bs R U i)) ∧ Ext [] w w' := by
  have hv : guessV 4 bs R U i = gv 4 0 (U i) 0 := if_neg (by omega)
  rw [hv]
  have hcall := gcall4 0 (U i) 0
  generalize gv 4 0 (U i) 0 = Z at hcall ⊢
  generalize U i = B at hcall hU
  have hf : ∀ w, (Instr.index 59 gFn (.int .u8 4)).run Try.prog w = .ok (.func (.func 12) #[] #[]) w := fun _ => by kernel_rfl
  unfold coderO at hc
  have c0 := cellOf hc 0
  have c1 := cellOf hc 1
  have HG := Lib.hid hcall
  have HC := Lib.hid hc
  have HU := Lib.hid hU
  clear hc hcall hv
  have e4 : (0 : Int) ≤ (i : Int) := by omega
  have e5 : (i : Int) < (n : Int) := by omega
  unfold c8 at *
  go_enter Try.func23, Try.ntmps23
  go_wp2_with fail
  clear c0 c1
  obtain ⟨w2, hw2, hx2⟩ : ∃ w2, w = w2 ∧ Ext [] w w2 := ⟨_, rfl, Ext.refl _ _⟩
  rw [hw2]
  have hc2 := hx2.keep HC.out (by simp)
  have hu2 := Ext.cell hx2 HU.out
  have HX := Lib.hid hx2
  clear hw2 hx2
  refine wp_region_ext (by kernel_rfl) (by kernel_rfl) ?_
  have d0 : ∀ x : Ex w2, x.w.cell? ⟨cb, 1, none⟩ = some (.slice (some ⟨ab, ao, none⟩) n ac) := fun x => cellOf (x.heap hc2) 1
  have d1 : ∀ x : Ex w2, x.w.cell? ⟨ab, ao + i, none⟩ = some (.int .u8 ((B.toNat : Nat) : Int)) := fun x => x.cell hu2
  clear hc2 hu2
  repeat (go_big_quiet_step (first | (go_at_call 28; refine Calls.ext_of (guesses_walk _)) | (go_at_call 12; refine Calls.ext_of ((HG.out _).mono (fun _ _ h => ⟨h.1, h.2 ▸ Ext.refl _ _⟩)))))
  refine wpQuiet_nil ?_
  rintro _ ⟨x, rfl⟩
  have HX3 := Lib.hid (HX.out.trans x.ext)
  clear HX d0 d1
  go_wp2_with fail
  go_ret
  exact ⟨rfl, HX3.out⟩
theorem guess_walk (way : Nat) (hw5 : way < 5) (bs n i : Nat) (R U : Nat → UInt8) (cb rb ro rc ab ao ac : Nat) (w : World) (hc : w.heap[cb]? = some (coderO bs n ab ao ac))
    (hR : ∀ j, j < n → w.cell? ⟨rb, ro + j, none⟩ = some (c8 (R j))) (hU : ∀ j, j < n → w.cell? ⟨ab, ao + j, none⟩ = some (c8 (U j))) (hi : i < n) (hn : n ≤ 1048576) (hbs : 1 ≤ bs) :
    Calls Try.prog 23 #[.pointer (some ⟨cb, 0, none⟩), .int .u8 way, .slice (some ⟨rb, ro, none⟩) n rc, .int .i64 i] w fun e w' => e = .returned (c8 (guessV way bs R U i)) ∧ Ext [] w w' := by
  have h := hU i hi
  by_cases hbi : bs ≤ i
  · have h1 := hR (i - bs) (by omega)
    have h2 := hU (i - bs) (by omega)
    match way, hw5 with
    | 0, _ => exact guess0_far bs n i R U cb rb ro rc ab ao ac w hc h1 h h2 hi hn hbs hbi
    | 1, _ => exact guess1_far bs n i R U cb rb ro rc ab ao ac w hc h1 h h2 hi hn hbs hbi
    | 2, _ => exact guess2_far bs n i R U cb rb ro rc ab ao ac w hc h1 h h2 hi hn hbs hbi
    | 3, _ => exact guess3_far bs n i R U cb rb ro rc ab ao ac w hc h1 h h2 hi hn hbs hbi
    | 4, _ => exact guess4_far bs n i R U cb rb ro rc ab ao ac w hc h1 h h2 hi hn hbs hbi
  · match way, hw5 with
    | 0, _ => exact guess0_near bs n i R U cb rb ro rc ab ao ac w hc h hi hn hbs (by omega)
    | 1, _ => exact guess1_near bs n i R U cb rb ro rc ab ao ac w hc h hi hn hbs (by omega)
    | 2, _ => exact guess2_near bs n i R U cb rb ro rc ab ao ac w hc h hi hn hbs (by omega)
    | 3, _ => exact guess3_near bs n i R U cb rb ro rc ab ao ac w hc h hi hn hbs (by omega)
    | 4, _ => exact guess4_near bs n i R U cb rb ro rc ab ao ac w hc h hi hn hbs (by omega)
end Go.Proofs.Ytoiegmdlbcbgoaa.Pr
