/-
  predict: a value got, a value put (fewer than sixteen bits): walked.
-/
import Derived.Test.YtoiegmdlbcbgoaaPrM
namespace Go.Proofs.Ytoiegmdlbcbgoaa.Pr
open Go.RowKit

def getP (b y x : Nat) : Nat := x / 2 ^ y % 2 ^ b
/-- the boxes of a row's values -/
structure Vals (b blk off n cap r0 r1 r2 r3 : Nat) (w : World) : Prop where
  h0 : w.heap[r0]? = some (bxS (.slice (some ⟨blk, off, none⟩) n cap))
  h1 : w.heap[r1]? = some (bxP b)
  h2 : w.heap[r2]? = some (.cells #[.int .i64 ((2 ^ b - 1 : Nat) : Int)] 3 (0, 0))
  h3 : w.heap[r3]? = some (.cells #[.func (.func 31) #[] #[.pointer (some ⟨r1, 0, none⟩)]] 61 (0, 0))
theorem Vals.ext {b blk off n cap r0 r1 r2 r3 : Nat} {w w' : World} (h : Vals b blk off n cap r0 r1 r2 r3 w) {S : List Nat} (hx : Ext S w w') (hS : r0 ∉ S ∧ r1 ∉ S ∧ r2 ∉ S ∧ r3 ∉ S) : Vals b blk off n cap r0 r1 r2 r3 w' :=
  ⟨hx.keep h.h0 hS.1, hx.keep h.h1 hS.2.1, hx.keep h.h2 hS.2.2.1, hx.keep h.h3 hS.2.2.2⟩
theorem byP_le (b i : Nat) : byP b i ≤ 8 := by unfold byP; omega
set_option maxRecDepth 100000 in
set_option maxHeartbeats 4000000 in
theorem get1_walk (blk off n cap r0 r1 r2 r3 i : Nat) (x : UInt8) (w : World) (hi : i ≤ 1048576) (h : Vals 1 blk off n cap r0 r1 r2 r3 w) (hat : atP 1 i < n) (hx : w.cell? ⟨blk, off + atP 1 i, none⟩ = some (c8 x)) :
    Calls Try.prog 32 #[.int .i64 i, .pointer (some ⟨r3, 0, none⟩), .pointer (some ⟨r0, 0, none⟩), .pointer (some ⟨r2, 0, none⟩)] w fun e w' => e = .returned (.int .i64 (getP 1 (byP 1 i) x.toNat : Nat)) ∧ Ext [] w w' := by
  have hsh := fun w h => shift_walk 1 i r1 w (by unfold small; omega) hi h
  have hy := byP_le 1 i
  have hget : ((getP 1 (byP 1 i) x.toNat : Nat) : Int) = (x.toNat : Int) / 2 ^ (byP 1 i) % 2 := by unfold getP; push_cast; rfl
  generalize byP 1 i = y at *
  generalize atP 1 i = A at *
  have H := Lib.hid h
  have HX := Lib.hid hx
  have HSH := Lib.hid hsh
  have HGET := Lib.hid hget
  have d3 := cellOf h.h3 0
  have x8 := x.toNat_lt
  clear h hx hsh hget
  go_enter Try.func32, Try.ntmps32
  go_wp2_with fail
  refine (HSH.out _ H.out.h1).mono ?_
  rintro e w1 ⟨rfl, hx1⟩
  have c0 := cellOf (hx1.keep H.out.h0 (by simp)) 0
  have c2 := cellOf (hx1.keep H.out.h2 (by simp)) 0
  have cx := Ext.cell hx1 HX.out
  have e1 := i64_and1 ((x.toNat : Int) / 2 ^ y)
  have HX1 := Lib.hid hx1
  have a1 : (0 : Int) ≤ (A : Int) := by omega
  have a2 : (A : Int) < (n : Int) := by omega
  clear hx1 d3
  unfold c8 at cx
  go_wp2_with fail
  go_quiet (fail)
  go_wp2_with fail
  go_ret
  exact ⟨by rw [HGET.out]; rfl, HX1.out.drewN _⟩
set_option maxRecDepth 100000 in
set_option maxHeartbeats 4000000 in
theorem get2_walk (blk off n cap r0 r1 r2 r3 i : Nat) (x : UInt8) (w : World) (hi : i ≤ 1048576) (h : Vals 2 blk off n cap r0 r1 r2 r3 w) (hat : atP 2 i < n) (hx : w.cell? ⟨blk, off + atP 2 i, none⟩ = some (c8 x)) :
    Calls Try.prog 32 #[.int .i64 i, .pointer (some ⟨r3, 0, none⟩), .pointer (some ⟨r0, 0, none⟩), .pointer (some ⟨r2, 0, none⟩)] w fun e w' => e = .returned (.int .i64 (getP 2 (byP 2 i) x.toNat : Nat)) ∧ Ext [] w w' := by
  have hsh := fun w h => shift_walk 2 i r1 w (by unfold small; omega) hi h
  have hy := byP_le 2 i
  have hget : ((getP 2 (byP 2 i) x.toNat : Nat) : Int) = (x.toNat : Int) / 2 ^ (byP 2 i) % 4 := by unfold getP; push_cast; rfl
  generalize byP 2 i = y at *
  generalize atP 2 i = A at *
  have H := Lib.hid h
  have HX := Lib.hid hx
  have HSH := Lib.hid hsh
  have HGET := Lib.hid hget
  have d3 := cellOf h.h3 0
  have x8 := x.toNat_lt
  clear h hx hsh hget
  go_enter Try.func32, Try.ntmps32
  go_wp2_with fail
  refine (HSH.out _ H.out.h1).mono ?_
  rintro e w1 ⟨rfl, hx1⟩
  have c0 := cellOf (hx1.keep H.out.h0 (by simp)) 0
  have c2 := cellOf (hx1.keep H.out.h2 (by simp)) 0
  have cx := Ext.cell hx1 HX.out
  have e1 := i64_and3 ((x.toNat : Int) / 2 ^ y)
  have HX1 := Lib.hid hx1
  have a1 : (0 : Int) ≤ (A : Int) := by omega
  have a2 : (A : Int) < (n : Int) := by omega
  clear hx1 d3
  unfold c8 at cx
  go_wp2_with fail
  go_quiet (fail)
  go_wp2_with fail
  go_ret
  exact ⟨by rw [HGET.out]; rfl, HX1.out.drewN _⟩
set_option maxRecDepth 100000 in
set_option maxHeartbeats 4000000 in
theorem get4_walk (blk off n cap r0 r1 r2 r3 i : Nat) (x : UInt8) (w : World) (hi : i ≤ 1048576) (h : Vals 4 blk off n cap r0 r1 r2 r3 w) (hat : atP 4 i < n) (hx : w.cell? ⟨blk, off + atP 4 i, none⟩ = some (c8 x)) :
    Calls Try.prog 32 #[.int .i64 i, .pointer (some ⟨r3, 0, none⟩), .pointer (some ⟨r0, 0, none⟩), .pointer (some ⟨r2, 0, none⟩)] w fun e w' => e = .returned (.int .i64 (getP 4 (byP 4 i) x.toNat : Nat)) ∧ Ext [] w w' := by
  have hsh := fun w h => shift_walk 4 i r1 w (by unfold small; omega) hi h
  have hy := byP_le 4 i
  have hget : ((getP 4 (byP 4 i) x.toNat : Nat) : Int) = (x.toNat : Int) / 2 ^ (byP 4 i) % 16 := by unfold getP; push_cast; rfl
  generalize byP 4 i = y at *
  generalize atP 4 i = A at *
  have H := Lib.hid h
  have HX := Lib.hid hx
  have HSH := Lib.hid hsh
  have HGET := Lib.hid hget
  have d3 := cellOf h.h3 0
  have x8 := x.toNat_lt
  clear h hx hsh hget
  go_enter Try.func32, Try.ntmps32
  go_wp2_with fail
  refine (HSH.out _ H.out.h1).mono ?_
  rintro e w1 ⟨rfl, hx1⟩
  have c0 := cellOf (hx1.keep H.out.h0 (by simp)) 0
  have c2 := cellOf (hx1.keep H.out.h2 (by simp)) 0
  have cx := Ext.cell hx1 HX.out
  have e1 := i64_and15 ((x.toNat : Int) / 2 ^ y)
  have HX1 := Lib.hid hx1
  have a1 : (0 : Int) ≤ (A : Int) := by omega
  have a2 : (A : Int) < (n : Int) := by omega
  clear hx1 d3
  unfold c8 at cx
  go_wp2_with fail
  go_quiet (fail)
  go_wp2_with fail
  go_ret
  exact ⟨by rw [HGET.out]; rfl, HX1.out.drewN _⟩
set_option maxRecDepth 100000 in
set_option maxHeartbeats 4000000 in
theorem get8_walk (blk off n cap r0 r1 r2 r3 i : Nat) (x : UInt8) (w : World) (hi : i ≤ 1048576) (h : Vals 8 blk off n cap r0 r1 r2 r3 w) (hat : atP 8 i < n) (hx : w.cell? ⟨blk, off + atP 8 i, none⟩ = some (c8 x)) :
    Calls Try.prog 32 #[.int .i64 i, .pointer (some ⟨r3, 0, none⟩), .pointer (some ⟨r0, 0, none⟩), .pointer (some ⟨r2, 0, none⟩)] w fun e w' => e = .returned (.int .i64 (getP 8 (byP 8 i) x.toNat : Nat)) ∧ Ext [] w w' := by
  have hsh := fun w h => shift_walk 8 i r1 w (by unfold small; omega) hi h
  have hy := byP_le 8 i
  have hget : ((getP 8 (byP 8 i) x.toNat : Nat) : Int) = (x.toNat : Int) / 2 ^ (byP 8 i) % 256 := by unfold getP; push_cast; rfl
  generalize byP 8 i = y at *
  generalize atP 8 i = A at *
  have H := Lib.hid h
  have HX := Lib.hid hx
  have HSH := Lib.hid hsh
  have HGET := Lib.hid hget
  have d3 := cellOf h.h3 0
  have x8 := x.toNat_lt
  clear h hx hsh hget
  go_enter Try.func32, Try.ntmps32
  go_wp2_with fail
  refine (HSH.out _ H.out.h1).mono ?_
  rintro e w1 ⟨rfl, hx1⟩
  have c0 := cellOf (hx1.keep H.out.h0 (by simp)) 0
  have c2 := cellOf (hx1.keep H.out.h2 (by simp)) 0
  have cx := Ext.cell hx1 HX.out
  have e1 := i64_and255 ((x.toNat : Int) / 2 ^ y)
  have HX1 := Lib.hid hx1
  have a1 : (0 : Int) ≤ (A : Int) := by omega
  have a2 : (A : Int) < (n : Int) := by omega
  clear hx1 d3
  unfold c8 at cx
  go_wp2_with fail
  go_quiet (fail)
  go_wp2_with fail
  go_ret
  exact ⟨by rw [HGET.out]; rfl, HX1.out.drewN _⟩
/-- a value put into a byte -/
def setP (b y x u : Nat) : Nat := (x &&& (255 - (2 ^ b - 1) * 2 ^ y)) ||| (u * 2 ^ y)
theorem byP_le2 (b i : Nat) (h : small b) : byP b i + b ≤ 8 := by
  unfold byP
  rcases h with rfl | rfl | rfl | rfl <;> omega
set_option maxRecDepth 100000 in
set_option maxHeartbeats 4000000 in
theorem put1_walk (blk off n cap r0 r1 r2 r3 i : Nat) (x : UInt8) (v : Int) (u : Nat) (hu : v % 2 = (u : Int)) (w : World) (hi : i ≤ 1048576) (h : Vals 1 blk off n cap r0 r1 r2 r3 w) (hat : atP 1 i < n) (hx : w.cell? ⟨blk, off + atP 1 i, none⟩ = some (c8 x)) (hf : w.frozen? ⟨blk, off + atP 1 i, none⟩ = false) :
    Calls Try.prog 33 #[.int .i64 i, .int .i64 v, .pointer (some ⟨r3, 0, none⟩), .pointer (some ⟨r0, 0, none⟩), .pointer (some ⟨r2, 0, none⟩)] w fun e w' => (∃ r, e = .returned r) ∧ ∃ w1, Ext [] w w1 ∧ w' = w1.setCell ⟨blk, off + atP 1 i, none⟩ (.int .u8 (setP 1 (byP 1 i) x.toNat u : Nat)) := by
  have hsh := fun w h => shift_walk 1 i r1 w (by unfold small; omega) hi h
  have hy := byP_le2 1 i (by unfold small; omega)
  have hset : setP 1 (byP 1 i) x.toNat u = (x.toNat &&& (255 - 1 * 2 ^ (byP 1 i))) ||| (u * 2 ^ (byP 1 i)) := rfl
  generalize byP 1 i = y at *
  generalize atP 1 i = A at *
  have hu4 : u ≤ 1 := by omega
  have x8 := x.toNat_lt
  have hp : 2 ^ y ≤ 2 ^ 7 := Nat.pow_le_pow_right (by omega) (by omega)
  obtain ⟨t, ht⟩ : ∃ t, 2 ^ y = t := ⟨_, rfl⟩
  have hti : (2 : Int) ^ y = (t : Int) := by rw [← ht]; push_cast; rfl
  rw [ht] at hset hp
  have hmu : u * t ≤ 1 * t := Nat.mul_le_mul_right t hu4
  obtain ⟨m, hm⟩ : ∃ m, u * t = m := ⟨_, rfl⟩
  have hmi : (u : Int) * (t : Int) = (m : Int) := by rw [← hm]; push_cast; rfl
  rw [hm] at hset hmu
  have e2 := u8_andNot_nat x.toNat (1 * t) (by omega) (by omega)
  rw [show ((1 * t : Nat) : Int) = (t : Int) by omega] at e2
  obtain ⟨z, hz⟩ : ∃ z, x.toNat &&& (255 - 1 * t) = z := ⟨_, rfl⟩
  have hzle : z ≤ x.toNat := by rw [← hz]; exact Nat.and_le_left
  rw [hz] at hset e2
  have e3 := u8_or_nat z m (by omega) (by omega)
  obtain ⟨q, hq⟩ : ∃ q, z ||| m = q := ⟨_, rfl⟩
  rw [hq] at hset e3
  have e1 := i64_and1 v
  rw [hu] at e1
  rw [hset]
  have H := Lib.hid h
  have HX := Lib.hid hx
  have HF := Lib.hid hf
  have HSH := Lib.hid hsh
  have d3 := cellOf h.h3 0
  have HTI := Lib.hid hti
  have HE := Lib.hid (⟨e1, e2, e3, hmi⟩ : _ ∧ _ ∧ _ ∧ _)
  clear h hx hf hsh hset hz hq hu ht hm e1 e2 e3 hti hmi
  go_enter Try.func33, Try.ntmps33
  go_wp2_with fail
  refine (HSH.out _ H.out.h1).mono ?_
  rintro e w1 ⟨rfl, hx1⟩
  go_wp2_with fail
  have c0 : ∀ x : Ex w1, x.w.cell? ⟨r0, 0, none⟩ = some (.slice (some ⟨blk, off, none⟩) n cap) := fun x => cellOf (x.heap (hx1.keep H.out.h0 (by simp))) 0
  have c2 : ∀ x : Ex w1, x.w.cell? ⟨r2, 0, none⟩ = some (.int .i64 1) := fun x => cellOf (x.heap (hx1.keep H.out.h2 (by simp))) 0
  have cx : ∀ z : Ex w1, z.w.cell? ⟨blk, off + A, none⟩ = some (.int .u8 (x.toNat : Int)) := fun z => z.cell (Ext.cell hx1 HX.out)
  have g0 : w1.drew.frozen? ⟨blk, off + A, none⟩ = false := (World.frozen?_of_block (hx1.block blk (World.block_lt_of_cell? w _ HX.out) (by simp))).trans HF.out
  have g1 : w1.drew.cell? ⟨blk, off + A, none⟩ = some (.int .u8 (x.toNat : Int)) := Ext.cell hx1 HX.out
  have a1 : (0 : Int) ≤ (A : Int) := by omega
  have a2 : (A : Int) < (n : Int) := by omega
  have hti := HTI.out
  obtain ⟨e1, e2, e3, hmi⟩ := HE.out
  refine wp_region_mid (C := fun w' => ∃ x : Ex w1, w' = x.w) 19 0 (by kernel_rfl) (by kernel_rfl) ⟨Ex.mk _ ((Ext.refl _ w1).drew), rfl⟩ ?_
  simp only [List.take_succ_cons, List.take_zero, List.drop_succ_cons, List.drop_zero]
  repeat (go_big_quiet_step (fail))
  refine wpQuiet_nil ?_
  refine midW_nil ?_
  clear c0 c2 cx hti e1 e2 e3 hmi
  go_wp2_with fail
  refine NoPanic.normal ?_
  go_wp2_with fail
  go_end0
  exact ⟨⟨_, rfl⟩, w1.drew, hx1.drew, rfl⟩
set_option maxRecDepth 100000 in
set_option maxHeartbeats 4000000 in
theorem put2_walk (blk off n cap r0 r1 r2 r3 i : Nat) (x : UInt8) (v : Int) (u : Nat) (hu : v % 4 = (u : Int)) (w : World) (hi : i ≤ 1048576) (h : Vals 2 blk off n cap r0 r1 r2 r3 w) (hat : atP 2 i < n) (hx : w.cell? ⟨blk, off + atP 2 i, none⟩ = some (c8 x)) (hf : w.frozen? ⟨blk, off + atP 2 i, none⟩ = false) :
    Calls Try.prog 33 #[.int .i64 i, .int .i64 v, .pointer (some ⟨r3, 0, none⟩), .pointer (some ⟨r0, 0, none⟩), .pointer (some ⟨r2, 0, none⟩)] w fun e w' => (∃ r, e = .returned r) ∧ ∃ w1, Ext [] w w1 ∧ w' = w1.setCell ⟨blk, off + atP 2 i, none⟩ (.int .u8 (setP 2 (byP 2 i) x.toNat u : Nat)) := by
  have hsh := fun w h => shift_walk 2 i r1 w (by unfold small; omega) hi h
  have hy := byP_le2 2 i (by unfold small; omega)
  have hset : setP 2 (byP 2 i) x.toNat u = (x.toNat &&& (255 - 3 * 2 ^ (byP 2 i))) ||| (u * 2 ^ (byP 2 i)) := rfl
  generalize byP 2 i = y at *
  generalize atP 2 i = A at *
  have hu4 : u ≤ 3 := by omega
  have x8 := x.toNat_lt
  have hp : 2 ^ y ≤ 2 ^ 6 := Nat.pow_le_pow_right (by omega) (by omega)
  obtain ⟨t, ht⟩ : ∃ t, 2 ^ y = t := ⟨_, rfl⟩
  have hti : (2 : Int) ^ y = (t : Int) := by rw [← ht]; push_cast; rfl
  rw [ht] at hset hp
  have hmu : u * t ≤ 3 * t := Nat.mul_le_mul_right t hu4
  obtain ⟨m, hm⟩ : ∃ m, u * t = m := ⟨_, rfl⟩
  have hmi : (u : Int) * (t : Int) = (m : Int) := by rw [← hm]; push_cast; rfl
  rw [hm] at hset hmu
  have e2 := u8_andNot_nat x.toNat (3 * t) (by omega) (by omega)
  rw [show ((3 * t : Nat) : Int) = 3 * (t : Int) by omega] at e2
  obtain ⟨z, hz⟩ : ∃ z, x.toNat &&& (255 - 3 * t) = z := ⟨_, rfl⟩
  have hzle : z ≤ x.toNat := by rw [← hz]; exact Nat.and_le_left
  rw [hz] at hset e2
  have e3 := u8_or_nat z m (by omega) (by omega)
  obtain ⟨q, hq⟩ : ∃ q, z ||| m = q := ⟨_, rfl⟩
  rw [hq] at hset e3
  have e1 := i64_and3 v
  rw [hu] at e1
  rw [hset]
  have H := Lib.hid h
  have HX := Lib.hid hx
  have HF := Lib.hid hf
  have HSH := Lib.hid hsh
  have d3 := cellOf h.h3 0
  have HTI := Lib.hid hti
  have HE := Lib.hid (⟨e1, e2, e3, hmi⟩ : _ ∧ _ ∧ _ ∧ _)
  clear h hx hf hsh hset hz hq hu ht hm e1 e2 e3 hti hmi
  go_enter Try.func33, Try.ntmps33
  go_wp2_with fail
  refine (HSH.out _ H.out.h1).mono ?_
  rintro e w1 ⟨rfl, hx1⟩
  go_wp2_with fail
  have c0 : ∀ x : Ex w1, x.w.cell? ⟨r0, 0, none⟩ = some (.slice (some ⟨blk, off, none⟩) n cap) := fun x => cellOf (x.heap (hx1.keep H.out.h0 (by simp))) 0
  have c2 : ∀ x : Ex w1, x.w.cell? ⟨r2, 0, none⟩ = some (.int .i64 3) := fun x => cellOf (x.heap (hx1.keep H.out.h2 (by simp))) 0
  have cx : ∀ z : Ex w1, z.w.cell? ⟨blk, off + A, none⟩ = some (.int .u8 (x.toNat : Int)) := fun z => z.cell (Ext.cell hx1 HX.out)
  have g0 : w1.drew.frozen? ⟨blk, off + A, none⟩ = false := (World.frozen?_of_block (hx1.block blk (World.block_lt_of_cell? w _ HX.out) (by simp))).trans HF.out
  have g1 : w1.drew.cell? ⟨blk, off + A, none⟩ = some (.int .u8 (x.toNat : Int)) := Ext.cell hx1 HX.out
  have a1 : (0 : Int) ≤ (A : Int) := by omega
  have a2 : (A : Int) < (n : Int) := by omega
  have hti := HTI.out
  obtain ⟨e1, e2, e3, hmi⟩ := HE.out
  refine wp_region_mid (C := fun w' => ∃ x : Ex w1, w' = x.w) 19 0 (by kernel_rfl) (by kernel_rfl) ⟨Ex.mk _ ((Ext.refl _ w1).drew), rfl⟩ ?_
  simp only [List.take_succ_cons, List.take_zero, List.drop_succ_cons, List.drop_zero]
  repeat (go_big_quiet_step (fail))
  refine wpQuiet_nil ?_
  refine midW_nil ?_
  clear c0 c2 cx hti e1 e2 e3 hmi
  go_wp2_with fail
  refine NoPanic.normal ?_
  go_wp2_with fail
  go_end0
  exact ⟨⟨_, rfl⟩, w1.drew, hx1.drew, rfl⟩
set_option maxRecDepth 100000 in
set_option maxHeartbeats 4000000 in
theorem put4_walk (blk off n cap r0 r1 r2 r3 i : Nat) (x : UInt8) (v : Int) (u : Nat) (hu : v % 16 = (u : Int)) (w : World) (hi : i ≤ 1048576) (h : Vals 4 blk off n cap r0 r1 r2 r3 w) (hat : atP 4 i < n) (hx : w.cell? ⟨blk, off + atP 4 i, none⟩ = some (c8 x)) (hf : w.frozen? ⟨blk, off + atP 4 i, none⟩ = false) :
    Calls Try.prog 33 #[.int .i64 i, .int .i64 v, .pointer (some ⟨r3, 0, none⟩), .pointer (some ⟨r0, 0, none⟩), .pointer (some ⟨r2, 0, none⟩)] w fun e w' => (∃ r, e = .returned r) ∧ ∃ w1, Ext [] w w1 ∧ w' = w1.setCell ⟨blk, off + atP 4 i, none⟩ (.int .u8 (setP 4 (byP 4 i) x.toNat u : Nat)) := by
  have hsh := fun w h => shift_walk 4 i r1 w (by unfold small; omega) hi h
  have hy := byP_le2 4 i (by unfold small; omega)
  have hset : setP 4 (byP 4 i) x.toNat u = (x.toNat &&& (255 - 15 * 2 ^ (byP 4 i))) ||| (u * 2 ^ (byP 4 i)) := rfl
  generalize byP 4 i = y at *
  generalize atP 4 i = A at *
  have hu4 : u ≤ 15 := by omega
  have x8 := x.toNat_lt
  have hp : 2 ^ y ≤ 2 ^ 4 := Nat.pow_le_pow_right (by omega) (by omega)
  obtain ⟨t, ht⟩ : ∃ t, 2 ^ y = t := ⟨_, rfl⟩
  have hti : (2 : Int) ^ y = (t : Int) := by rw [← ht]; push_cast; rfl
  rw [ht] at hset hp
  have hmu : u * t ≤ 15 * t := Nat.mul_le_mul_right t hu4
  obtain ⟨m, hm⟩ : ∃ m, u * t = m := ⟨_, rfl⟩
  have hmi : (u : Int) * (t : Int) = (m : Int) := by rw [← hm]; push_cast; rfl
  rw [hm] at hset hmu
  have e2 := u8_andNot_nat x.toNat (15 * t) (by omega) (by omega)
  rw [show ((15 * t : Nat) : Int) = 15 * (t : Int) by omega] at e2
  obtain ⟨z, hz⟩ : ∃ z, x.toNat &&& (255 - 15 * t) = z := ⟨_, rfl⟩
  have hzle : z ≤ x.toNat := by rw [← hz]; exact Nat.and_le_left
  rw [hz] at hset e2
  have e3 := u8_or_nat z m (by omega) (by omega)
  obtain ⟨q, hq⟩ : ∃ q, z ||| m = q := ⟨_, rfl⟩
  rw [hq] at hset e3
  have e1 := i64_and15 v
  rw [hu] at e1
  rw [hset]
  have H := Lib.hid h
  have HX := Lib.hid hx
  have HF := Lib.hid hf
  have HSH := Lib.hid hsh
  have d3 := cellOf h.h3 0
  have HTI := Lib.hid hti
  have HE := Lib.hid (⟨e1, e2, e3, hmi⟩ : _ ∧ _ ∧ _ ∧ _)
  clear h hx hf hsh hset hz hq hu ht hm e1 e2 e3 hti hmi
  go_enter Try.func33, Try.ntmps33
  go_wp2_with fail
  refine (HSH.out _ H.out.h1).mono ?_
  rintro e w1 ⟨rfl, hx1⟩
  go_wp2_with fail
  have c0 : ∀ x : Ex w1, x.w.cell? ⟨r0, 0, none⟩ = some (.slice (some ⟨blk, off, none⟩) n cap) := fun x => cellOf (x.heap (hx1.keep H.out.h0 (by simp))) 0
  have c2 : ∀ x : Ex w1, x.w.cell? ⟨r2, 0, none⟩ = some (.int .i64 15) := fun x => cellOf (x.heap (hx1.keep H.out.h2 (by simp))) 0
  have cx : ∀ z : Ex w1, z.w.cell? ⟨blk, off + A, none⟩ = some (.int .u8 (x.toNat : Int)) := fun z => z.cell (Ext.cell hx1 HX.out)
  have g0 : w1.drew.frozen? ⟨blk, off + A, none⟩ = false := (World.frozen?_of_block (hx1.block blk (World.block_lt_of_cell? w _ HX.out) (by simp))).trans HF.out
  have g1 : w1.drew.cell? ⟨blk, off + A, none⟩ = some (.int .u8 (x.toNat : Int)) := Ext.cell hx1 HX.out
  have a1 : (0 : Int) ≤ (A : Int) := by omega
  have a2 : (A : Int) < (n : Int) := by omega
  have hti := HTI.out
  obtain ⟨e1, e2, e3, hmi⟩ := HE.out
  refine wp_region_mid (C := fun w' => ∃ x : Ex w1, w' = x.w) 19 0 (by kernel_rfl) (by kernel_rfl) ⟨Ex.mk _ ((Ext.refl _ w1).drew), rfl⟩ ?_
  simp only [List.take_succ_cons, List.take_zero, List.drop_succ_cons, List.drop_zero]
  repeat (go_big_quiet_step (fail))
  refine wpQuiet_nil ?_
  refine midW_nil ?_
  clear c0 c2 cx hti e1 e2 e3 hmi
  go_wp2_with fail
  refine NoPanic.normal ?_
  go_wp2_with fail
  go_end0
  exact ⟨⟨_, rfl⟩, w1.drew, hx1.drew, rfl⟩
set_option maxRecDepth 100000 in
set_option maxHeartbeats 4000000 in
theorem put8_walk (blk off n cap r0 r1 r2 r3 i : Nat) (x : UInt8) (v : Int) (u : Nat) (hu : v % 256 = (u : Int)) (w : World) (hi : i ≤ 1048576) (h : Vals 8 blk off n cap r0 r1 r2 r3 w) (hat : atP 8 i < n) (hx : w.cell? ⟨blk, off + atP 8 i, none⟩ = some (c8 x)) (hf : w.frozen? ⟨blk, off + atP 8 i, none⟩ = false) :
    Calls Try.prog 33 #[.int .i64 i, .int .i64 v, .pointer (some ⟨r3, 0, none⟩), .pointer (some ⟨r0, 0, none⟩), .pointer (some ⟨r2, 0, none⟩)] w fun e w' => (∃ r, e = .returned r) ∧ ∃ w1, Ext [] w w1 ∧ w' = w1.setCell ⟨blk, off + atP 8 i, none⟩ (.int .u8 (setP 8 (byP 8 i) x.toNat u : Nat)) := by
  have hsh := fun w h => shift_walk 8 i r1 w (by unfold small; omega) hi h
  have hy := byP_le2 8 i (by unfold small; omega)
  have hset : setP 8 (byP 8 i) x.toNat u = (x.toNat &&& (255 - 255 * 2 ^ (byP 8 i))) ||| (u * 2 ^ (byP 8 i)) := rfl
  generalize byP 8 i = y at *
  generalize atP 8 i = A at *
  have hu4 : u ≤ 255 := by omega
  have x8 := x.toNat_lt
  have hp : 2 ^ y ≤ 2 ^ 0 := Nat.pow_le_pow_right (by omega) (by omega)
  obtain ⟨t, ht⟩ : ∃ t, 2 ^ y = t := ⟨_, rfl⟩
  have hti : (2 : Int) ^ y = (t : Int) := by rw [← ht]; push_cast; rfl
  rw [ht] at hset hp
  have hmu : u * t ≤ 255 * t := Nat.mul_le_mul_right t hu4
  obtain ⟨m, hm⟩ : ∃ m, u * t = m := ⟨_, rfl⟩
  have hmi : (u : Int) * (t : Int) = (m : Int) := by rw [← hm]; push_cast; rfl
  rw [hm] at hset hmu
  have e2 := u8_andNot_nat x.toNat (255 * t) (by omega) (by omega)
  rw [show ((255 * t : Nat) : Int) = 255 * (t : Int) by omega] at e2
  obtain ⟨z, hz⟩ : ∃ z, x.toNat &&& (255 - 255 * t) = z := ⟨_, rfl⟩
  have hzle : z ≤ x.toNat := by rw [← hz]; exact Nat.and_le_left
  rw [hz] at hset e2
  have e3 := u8_or_nat z m (by omega) (by omega)
  obtain ⟨q, hq⟩ : ∃ q, z ||| m = q := ⟨_, rfl⟩
  rw [hq] at hset e3
  have e1 := i64_and255 v
  rw [hu] at e1
  rw [hset]
  have H := Lib.hid h
  have HX := Lib.hid hx
  have HF := Lib.hid hf
  have HSH := Lib.hid hsh
  have d3 := cellOf h.h3 0
  have HTI := Lib.hid hti
  have HE := Lib.hid (⟨e1, e2, e3, hmi⟩ : _ ∧ _ ∧ _ ∧ _)
  clear h hx hf hsh hset hz hq hu ht hm e1 e2 e3 hti hmi
  go_enter Try.func33, Try.ntmps33
  go_wp2_with fail
  refine (HSH.out _ H.out.h1).mono ?_
  rintro e w1 ⟨rfl, hx1⟩
  go_wp2_with fail
  have c0 : ∀ x : Ex w1, x.w.cell? ⟨r0, 0, none⟩ = some (.slice (some ⟨blk, off, none⟩) n cap) := fun x => cellOf (x.heap (hx1.keep H.out.h0 (by simp))) 0
  have c2 : ∀ x : Ex w1, x.w.cell? ⟨r2, 0, none⟩ = some (.int .i64 255) := fun x => cellOf (x.heap (hx1.keep H.out.h2 (by simp))) 0
  have cx : ∀ z : Ex w1, z.w.cell? ⟨blk, off + A, none⟩ = some (.int .u8 (x.toNat : Int)) := fun z => z.cell (Ext.cell hx1 HX.out)
  have g0 : w1.drew.frozen? ⟨blk, off + A, none⟩ = false := (World.frozen?_of_block (hx1.block blk (World.block_lt_of_cell? w _ HX.out) (by simp))).trans HF.out
  have g1 : w1.drew.cell? ⟨blk, off + A, none⟩ = some (.int .u8 (x.toNat : Int)) := Ext.cell hx1 HX.out
  have a1 : (0 : Int) ≤ (A : Int) := by omega
  have a2 : (A : Int) < (n : Int) := by omega
  have hti := HTI.out
  obtain ⟨e1, e2, e3, hmi⟩ := HE.out
  refine wp_region_mid (C := fun w' => ∃ x : Ex w1, w' = x.w) 19 0 (by kernel_rfl) (by kernel_rfl) ⟨Ex.mk _ ((Ext.refl _ w1).drew), rfl⟩ ?_
  simp only [List.take_succ_cons, List.take_zero, List.drop_succ_cons, List.drop_zero]
  repeat (go_big_quiet_step (fail))
  refine wpQuiet_nil ?_
  refine midW_nil ?_
  clear c0 c2 cx hti e1 e2 e3 hmi
  go_wp2_with fail
  refine NoPanic.normal ?_
  go_wp2_with fail
  go_end0
  exact ⟨⟨_, rfl⟩, w1.drew, hx1.drew, rfl⟩
end Go.Proofs.Ytoiegmdlbcbgoaa.Pr
