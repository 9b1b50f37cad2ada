/-
  predict: a value got, a value put (sixteen bits); values: walked.
-/
import Derived.Test.YtoiegmdlbcbgoaaPrN
namespace Go.Proofs.Ytoiegmdlbcbgoaa.Pr
open Go.RowKit

theorem i64_or_byte (x y : Nat) (hx : x < 256) (hy : y < 256) : bits .or .i64 ((x : Int) * 256) (y : Int) = (x : Int) * 256 + (y : Int) := by
  have key : (BitVec.ofInt 64 ((x : Int) * 256) ||| BitVec.ofInt 64 (y : Int)).toNat = 2 ^ 8 * x + y := by
    rw [BitVec.toNat_or, BitVec.toNat_ofInt, BitVec.toNat_ofInt, Nat.two_pow_add_eq_or_of_lt (by omega : y < 2 ^ 8)]
    congr 1 <;> omega
  show IntKind.i64.wrap ((BitVec.ofInt 64 ((x : Int) * 256) ||| BitVec.ofInt 64 (y : Int)).toNat : Nat) = _
  rw [key, IntKind.wrap_i64]
  omega
set_option maxRecDepth 100000 in
set_option maxHeartbeats 4000000 in
theorem get16_walk (blk off n cap r0 i : Nat) (x y : UInt8) (w : World) (hi : 2 * i + 1 < n) (hn : n ≤ 1048576) (h : w.heap[r0]? = some (bxS (.slice (some ⟨blk, off, none⟩) n cap))) (hx : w.cell? ⟨blk, off + 2 * i, none⟩ = some (c8 x)) (hy : w.cell? ⟨blk, off + (2 * i + 1), none⟩ = some (c8 y)) :
    Calls Try.prog 29 #[.int .i64 i, .pointer (some ⟨r0, 0, none⟩)] w fun e w' => e = .returned (.int .i64 (x.toNat * 256 + y.toNat : Nat)) ∧ Ext [] w w' := by
  have c0 := cellOf h 0
  have x8 := x.toNat_lt
  have y8 := y.toNat_lt
  have e1 := i64_or_byte x.toNat y.toNat (by omega) (by omega)
  have e2 : ((x.toNat * 256 + y.toNat : Nat) : Int) = (x.toNat : Int) * 256 + (y.toNat : Int) := by omega
  rw [e2]
  have a1 : (0 : Int) ≤ 2 * (i : Int) := by omega
  have a2 : 2 * (i : Int) < (n : Int) := by omega
  have a3 : (0 : Int) ≤ 2 * (i : Int) + 1 := by omega
  have a4 : 2 * (i : Int) + 1 < (n : Int) := by omega
  have a5 : (2 * (i : Int)).toNat = 2 * i := by omega
  have a6 : (2 * (i : Int) + 1).toNat = 2 * i + 1 := by omega
  unfold c8 at hx hy
  clear h e2
  go_enter Try.func29, Try.ntmps29
  go_wp2_with fail
  go_quiet (fail)
  go_wp2_with fail
  go_ret
  exact ⟨rfl, (Ext.refl _ _).drewN _⟩
set_option maxRecDepth 100000 in
set_option maxHeartbeats 4000000 in
theorem put16_walk (blk off n cap r0 i : Nat) (x y : UInt8) (v : Int) (w : World) (hi : 2 * i + 1 < n) (hn : n ≤ 1048576) (h : w.heap[r0]? = some (bxS (.slice (some ⟨blk, off, none⟩) n cap))) (hb : r0 ≠ blk) (hx : w.cell? ⟨blk, off + 2 * i, none⟩ = some (c8 x)) (hy : w.cell? ⟨blk, off + (2 * i + 1), none⟩ = some (c8 y)) (hf : ∀ j, w.frozen? ⟨blk, j, none⟩ = false) :
    Calls Try.prog 30 #[.int .i64 i, .int .i64 v, .pointer (some ⟨r0, 0, none⟩)] w fun e w' => (∃ r, e = .returned r) ∧ ∃ w1, Ext [] w w1 ∧ w' = (w1.setCell ⟨blk, off + 2 * i, none⟩ (.int .u8 (v / 256 % 256))).setCell ⟨blk, off + (2 * i + 1), none⟩ (.int .u8 (v % 256)) := by
  have a1 : (0 : Int) ≤ 2 * (i : Int) := by omega
  have a2 : 2 * (i : Int) < (n : Int) := by omega
  have a3 : (0 : Int) ≤ 2 * (i : Int) + 1 := by omega
  have a4 : 2 * (i : Int) + 1 < (n : Int) := by omega
  have a5 : (2 * (i : Int)).toNat = 2 * i := by omega
  have a6 : (2 * (i : Int) + 1).toNat = 2 * i + 1 := by omega
  have H := Lib.hid h
  have HX := Lib.hid (⟨hx, hy⟩ : _ ∧ _)
  have f1 := hf (off + 2 * i)
  have f2 := hf (off + (2 * i + 1))
  clear h hx hy hf
  go_enter Try.func30, Try.ntmps30
  go_wp2_with fail
  refine wp_region_perm (C := fun w' => ∃ x : ExS [blk] w, w' = x.w) [0, 1, 2, 3, 4, 5, 6, 7, 8, 9, 10, 11, 12] 14 (by kernel_rfl) (by kernel_rfl) ⟨ExS.mk _ ((Ext.refl _ w).drew), rfl⟩ ?_
  have c0 : ∀ x : ExS [blk] w, x.w.cell? ⟨r0, 0, none⟩ = some (.slice (some ⟨blk, off, none⟩) n cap) := fun x => cellOf (x.heap H.out (by simp [hb])) 0
  simp only [pick, List.getElem?_toArray, List.getElem?_cons_zero, List.getElem?_cons_succ, List.drop_succ_cons, List.drop_zero]
  repeat (go_big_quiet_step (fail))
  refine wpQuiet_nil ?_
  clear c0
  obtain ⟨hx, hy⟩ := HX.out
  have g1 : w.drew.cell? ⟨blk, off + 2 * i, none⟩ = some (c8 x) := hx
  have g2 : w.drew.cell? ⟨blk, off + (2 * i + 1), none⟩ = some (c8 y) := hy
  have g3 : w.drew.frozen? ⟨blk, off + 2 * i, none⟩ = false := f1
  have g4 : w.drew.frozen? ⟨blk, off + (2 * i + 1), none⟩ = false := f2
  unfold c8 at g1 g2 hx hy
  refine anyC_one (f := 0) (i := 13) (by kernel_rfl) (by decide) rfl rfl (fun K hK => ?_)
  go_wp2_with fail
  refine hK _ _ ⟨ExS.mk _ (((Ext.refl _ w).drew).setCell _ _ (.inl (by simp))), rfl⟩ ?_
  clear hK K
  refine anyC_end (by kernel_rfl) ?_
  go_wp2_with fail
  refine NoPanic.normal ?_
  go_wp2_with fail
  go_end0
  exact ⟨⟨_, rfl⟩, w.drew, (Ext.refl _ _).drew, rfl⟩

/-! ### values -/
def oVals (b blk off n cap r0 r1 r2 r3 : Nat) : Ob where
  F := [r0, r1, r2, r3]
  P := fun w => Vals b blk off n cap r0 r1 r2 r3 w
  ok := fun h hx hS => h.ext hx ⟨hS _ (by simp), hS _ (by simp), hS _ (by simp), hS _ (by simp)⟩
  lt := fun h k hk => by
    simp at hk
    rcases hk with rfl | rfl | rfl | rfl
    · exact lt_of_block h.h0
    · exact lt_of_block h.h1
    · exact lt_of_block h.h2
    · exact lt_of_block h.h3
set_option maxHeartbeats 4000000 in
theorem values_lo (blk off n cap b : Nat) (w : World) (hb : small b) :
    Calls Try.prog 26 #[.slice (some ⟨blk, off, none⟩) n cap, .int .i64 b] w fun e w' => ∃ r0 r1 r2 r3, e = .returned (.tuple #[.func (.func 32) #[] #[.pointer (some ⟨r3, 0, none⟩), .pointer (some ⟨r0, 0, none⟩), .pointer (some ⟨r2, 0, none⟩)], .func (.func 33) #[] #[.pointer (some ⟨r3, 0, none⟩), .pointer (some ⟨r0, 0, none⟩), .pointer (some ⟨r2, 0, none⟩)]]) ∧
      Sep w w' [oVals b blk off n cap r0 r1 r2 r3] := by
  have fin : ∀ b, Sep w ((((w.alloc (bxS (.slice (some ⟨blk, off, none⟩) n cap))).alloc (bxP b)).alloc (.cells #[.int .i64 ((2 ^ b - 1 : Nat) : Int)] 3 (0, 0))).alloc (.cells #[.func (.func 31) #[] #[.pointer (some ⟨w.heap.size + 1, 0, none⟩)]] 61 (0, 0))) [oVals b blk off n cap w.heap.size (w.heap.size + 1) (w.heap.size + 2) (w.heap.size + 3)] := fun b => by
    refine (Sep.start w).new ((((Ext.refl _ w).alloc _).alloc _).alloc _ |>.alloc _) (oVals b blk off n cap w.heap.size (w.heap.size + 1) (w.heap.size + 2) (w.heap.size + 3)) ⟨?_, ?_, ?_, ?_⟩ (fun k hk => by simp [oVals] at hk; omega)
    · exact heap_alloc_old _ (heap_alloc_old _ (heap_alloc_old _ (heap_alloc_at _)))
    · exact heap_alloc_old _ (heap_alloc_old _ (alloc2 _ _ _))
    · refine heap_alloc_old _ ?_
      have h := heap_alloc_at (w := (w.alloc (bxS (.slice (some ⟨blk, off, none⟩) n cap))).alloc (bxP b)) (.cells #[.int .i64 ((2 ^ b - 1 : Nat) : Int)] 3 (0, 0))
      rw [show ((w.alloc (bxS (.slice (some ⟨blk, off, none⟩) n cap))).alloc (bxP b)).heap.size = w.heap.size + 2 from by simp] at h
      exact h
    · have h := heap_alloc_at (w := ((w.alloc (bxS (.slice (some ⟨blk, off, none⟩) n cap))).alloc (bxP b)).alloc (.cells #[.int .i64 ((2 ^ b - 1 : Nat) : Int)] 3 (0, 0))) (.cells #[.func (.func 31) #[] #[.pointer (some ⟨w.heap.size + 1, 0, none⟩)]] 61 (0, 0))
      rw [show (((w.alloc (bxS (.slice (some ⟨blk, off, none⟩) n cap))).alloc (bxP b)).alloc (.cells #[.int .i64 ((2 ^ b - 1 : Nat) : Int)] 3 (0, 0))).heap.size = w.heap.size + 3 from by simp] at h
      exact h
  rcases hb with rfl | rfl | rfl | rfl
  · have F := Lib.hid (fin 1)
    clear fin
    go_enter Try.func26, Try.ntmps26
    go_wp2_with fail
    go_ret2
    exact ⟨_, _, _, _, rfl, F.out⟩
  · have F := Lib.hid (fin 2)
    clear fin
    go_enter Try.func26, Try.ntmps26
    go_wp2_with fail
    go_ret2
    exact ⟨_, _, _, _, rfl, F.out⟩
  · have F := Lib.hid (fin 4)
    clear fin
    go_enter Try.func26, Try.ntmps26
    go_wp2_with fail
    go_ret2
    exact ⟨_, _, _, _, rfl, F.out⟩
  · have F := Lib.hid (fin 8)
    clear fin
    go_enter Try.func26, Try.ntmps26
    go_wp2_with fail
    go_ret2
    exact ⟨_, _, _, _, rfl, F.out⟩
set_option maxHeartbeats 4000000 in
theorem values_16 (blk off n cap : Nat) (w : World) :
    Calls Try.prog 26 #[.slice (some ⟨blk, off, none⟩) n cap, .int .i64 16] w fun e w' => ∃ r0, e = .returned (.tuple #[.func (.func 29) #[] #[.pointer (some ⟨r0, 0, none⟩)], .func (.func 30) #[] #[.pointer (some ⟨r0, 0, none⟩)]]) ∧
      Sep w w' [Ob.one r0 (bxS (.slice (some ⟨blk, off, none⟩) n cap))] := by
  have F := Lib.hid ((Sep.start w).new (((Ext.refl _ w).alloc _).alloc _) (Ob.one w.heap.size (bxS (.slice (some ⟨blk, off, none⟩) n cap))) (heap_alloc_old (bxP 16) (heap_alloc_at (w := w) (bxS (.slice (some ⟨blk, off, none⟩) n cap)))) (fun k hk => by rw [List.mem_singleton.1 hk]; exact Nat.le_refl _))
  go_enter Try.func26, Try.ntmps26
  go_wp2_with fail
  go_ret2
  exact ⟨_, rfl, F.out⟩
/-! ### of whatever bits -/
theorem get_lo (b blk off n cap r0 r1 r2 r3 i : Nat) (x : UInt8) (w : World) (hb : small b) (hi : i ≤ 1048576) (h : Vals b blk off n cap r0 r1 r2 r3 w) (hat : atP b i < n) (hx : w.cell? ⟨blk, off + atP b i, none⟩ = some (c8 x)) :
    Calls Try.prog 32 #[.int .i64 i, .pointer (some ⟨r3, 0, none⟩), .pointer (some ⟨r0, 0, none⟩), .pointer (some ⟨r2, 0, none⟩)] w fun e w' => e = .returned (.int .i64 (getP b (byP b i) x.toNat : Nat)) ∧ Ext [] w w' := by
  rcases hb with rfl | rfl | rfl | rfl
  · exact get1_walk blk off n cap r0 r1 r2 r3 i x w hi h hat hx
  · exact get2_walk blk off n cap r0 r1 r2 r3 i x w hi h hat hx
  · exact get4_walk blk off n cap r0 r1 r2 r3 i x w hi h hat hx
  · exact get8_walk blk off n cap r0 r1 r2 r3 i x w hi h hat hx
theorem put_lo (b blk off n cap r0 r1 r2 r3 i : Nat) (x : UInt8) (v : Int) (w : World) (hb : small b) (hi : i ≤ 1048576) (h : Vals b blk off n cap r0 r1 r2 r3 w) (hat : atP b i < n) (hx : w.cell? ⟨blk, off + atP b i, none⟩ = some (c8 x)) (hf : w.frozen? ⟨blk, off + atP b i, none⟩ = false) :
    Calls Try.prog 33 #[.int .i64 i, .int .i64 v, .pointer (some ⟨r3, 0, none⟩), .pointer (some ⟨r0, 0, none⟩), .pointer (some ⟨r2, 0, none⟩)] w fun e w' => (∃ r, e = .returned r) ∧ ∃ w1, Ext [] w w1 ∧ w' = w1.setCell ⟨blk, off + atP b i, none⟩ (.int .u8 (setP b (byP b i) x.toNat (v % 2 ^ b).toNat : Nat)) := by
  rcases hb with rfl | rfl | rfl | rfl
  · exact put1_walk blk off n cap r0 r1 r2 r3 i x v _ (by show v % 2 = (((v % 2).toNat : Nat) : Int); omega) w hi h hat hx hf
  · exact put2_walk blk off n cap r0 r1 r2 r3 i x v _ (by show v % 4 = (((v % 4).toNat : Nat) : Int); omega) w hi h hat hx hf
  · exact put4_walk blk off n cap r0 r1 r2 r3 i x v _ (by show v % 16 = (((v % 16).toNat : Nat) : Int); omega) w hi h hat hx hf
  · exact put8_walk blk off n cap r0 r1 r2 r3 i x v _ (by show v % 256 = (((v % 256).toNat : Nat) : Int); omega) w hi h hat hx hf
end Go.Proofs.Ytoiegmdlbcbgoaa.Pr
