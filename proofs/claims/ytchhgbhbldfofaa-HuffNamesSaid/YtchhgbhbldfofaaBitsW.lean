/-
  What the bit writer's functions do, function by function (bits.NewWriter, one, Put, Align, Len, Text).
-/
import Derived.Test.YtchhgbhbldfofaaBitsR
import Derived.Test.YtchhgbhbldfofaaBitsPack
import Derived.Test.YtchhgbhbldfofaaReg
import Derived.Test.YtchhgbhbldfofaaSep
import Derived.Deep.AppendLies
namespace Go.Proofs.Ytchhgbhbldfofaa.Bt
open Go.RowKit

def b8 (x : Nat) : Value := .int .u8 x
def wtr (v : Value) (n : Nat) (hi : Bool) : Obj := .cells #[v, .int .i64 n, endv hi] 80
/-- block b is a writer with the bits l; it owns the blocks F -/
def Wtr (w : World) (b : Nat) (F : List Nat) (hi : Bool) (l : List Nat) : Prop :=
  ∃ v, w.heap[b]? = some (wtr v l.length hi) ∧ w.ownsRow 0 5 1 v (packB hi l).length ((packB hi l).map b8) ∧ F = b :: v.ownBlock.toList ∧ v.ownBlock ≠ some b ∧ Bin l

theorem infoByte : (Try.prog.info? 5).map (fun i => (i.zero, i.size, i.bytes)) = some (some (.int .u8 0), 1, 1) := by kernel_rfl

theorem put_hi (bit r : Nat) (hb : bit ≤ 1) : IntKind.u64.wrap ((bit : Int) * 2 ^ (7 - r)) % 256 = ((bit * wt true r : Nat) : Int) := by
  have hp : 2 ^ (7 - r) ≤ 2 ^ 7 := Nat.pow_le_pow_right (by omega) (by omega)
  have h1 : bit * 2 ^ (7 - r) ≤ 128 := by have := Nat.mul_le_mul hb hp; omega
  have e : ((bit : Int) * 2 ^ (7 - r)) = ((bit * 2 ^ (7 - r) : Nat) : Int) := by push_cast; rfl
  rw [e, IntWalk.u64_in _ (by omega)]
  simp only [wt, if_true]
  omega
theorem put_lo (bit r : Nat) (hb : bit ≤ 1) (hr : r < 8) : IntKind.u64.wrap ((bit : Int) * 2 ^ r) % 256 = ((bit * wt false r : Nat) : Int) := by
  have hp : 2 ^ r ≤ 2 ^ 7 := Nat.pow_le_pow_right (by omega) (by omega)
  have h1 : bit * 2 ^ r ≤ 128 := by have := Nat.mul_le_mul hb hp; omega
  have e : ((bit : Int) * 2 ^ r) = ((bit * 2 ^ r : Nat) : Int) := by push_cast; rfl
  rw [e, IntWalk.u64_in _ (by omega)]
  simp only [wt, Bool.false_eq_true, if_false]
  omega
theorem wt_le (hi : Bool) (r bit : Nat) (hb : bit ≤ 1) (hr : r < 8) : bit * wt hi r < 256 := by
  have : wt hi r ≤ 2 ^ 7 := by unfold wt; split <;> exact Nat.pow_le_pow_right (by omega) (by omega)
  have := Nat.mul_le_mul hb this
  omega

/-- the end of 'one', on plain facts -/
theorem one_done {w wr : World} {b g n cap : Nat} {v : Value} {hi : Bool} {l : List Nat} {bit : Nat} {x : Ex wr} (hbin : Bin l) (hbit : bit ≤ 1) (hgb : g ≠ b) (hn : n = l.length / 8 + 1)
    (hbr : wr.heap[b]? = some (wtr (.slice (some ⟨g, 0, none⟩) n cap) l.length hi)) (hrow : wr.ownsRow 0 5 1 (.slice (some ⟨g, 0, none⟩) n cap) n ((baseB hi l).map b8))
    (hext : Ext (b :: v.ownBlock.toList) w wr) (hfr : v.ownBlock = some g ∨ w.heap.size ≤ g) :
    ∃ F', Wtr ((x.w.setCell ⟨g, l.length / 8, none⟩ (.int .u8 ((byteOf hi l (l.length / 8) ||| bit * wt hi (l.length % 8) : Nat) : Int))).setCell ⟨b, 1, none⟩ (.int .i64 ((l.length : Int) + 1))) b F' hi (l ++ [bit]) ∧
      Ext (b :: v.ownBlock.toList) w ((x.w.setCell ⟨g, l.length / 8, none⟩ (.int .u8 ((byteOf hi l (l.length / 8) ||| bit * wt hi (l.length % 8) : Nat) : Int))).setCell ⟨b, 1, none⟩ (.int .i64 ((l.length : Int) + 1))) ∧ Fr w (b :: v.ownBlock.toList) F' := by
  have hgS : g ∈ b :: v.ownBlock.toList ∨ w.heap.size ≤ g := hfr.elim (fun h => .inl (by simp [h])) .inr
  refine ⟨[b, g], ⟨.slice (some ⟨g, 0, none⟩) n cap, ?_, ?_, rfl, fun e => hgb (by simpa [Value.ownBlock] using e), hbin.append (Bin.one hbit)⟩, ?_, ?_⟩
  · have h1 := heap_setCell_same (i := 1) (w := x.w.setCell ⟨g, l.length / 8, none⟩ (.int .u8 ((byteOf hi l (l.length / 8) ||| bit * wt hi (l.length % 8) : Nat) : Int))) (b := b)
      ((heap_setCell_ne _ (by simpa using Ne.symm hgb)).trans (x.heap hbr)) (.int .i64 ((l.length : Int) + 1))
    rw [h1]
    simp [wtr]
  · have h1 := ownsRow_store (i := l.length / 8) (ownsRow_ext hrow x.ext (by simp)) (.int .u8 ((byteOf hi l (l.length / 8) ||| bit * wt hi (l.length % 8) : Nat) : Int))
    have h2 := ownsRow_setCell_other h1 (a := ⟨b, 1, none⟩) (fun e => hgb (by simpa [Value.ownBlock] using e)) (.int .i64 ((l.length : Int) + 1))
    rw [packB_snoc hi l bit hbin hbit, List.length_set, baseB_length, List.map_set, ← hn]
    exact h2
  · exact ((hext.trans x.ext.weak).setCell _ _ hgS).setCell _ _ (by simp)
  · intro k hk
    rcases List.mem_cons.1 hk with rfl | hk
    · exact .inl (by simp)
    · obtain rfl : k = g := by simpa using hk
      exact hgS

set_option maxHeartbeats 4000000 in
theorem one_hi (b : Nat) (F : List Nat) (l : List Nat) (bit : Nat) (w : World) (hl : l.length < 2 ^ 40) (hbit : bit ≤ 1) (hW : Wtr w b F true l) :
    Calls Try.prog 54 #[.pointer (some ⟨b, 0, none⟩), .int .u64 bit] w fun e w' => e = .returned (.tuple #[]) ∧ ∃ F', Wtr w' b F' true (l ++ [bit]) ∧ Ext F w w' ∧ Fr w F F' := by
  obtain ⟨v, hb, hown, rfl, hne, hbin⟩ := hW
  have hpl := packB_length true l
  have c1 : w.cell? ⟨b, 1, none⟩ = some (.int .i64 ((l.length : Nat) : Int)) := cellOf hb 1
  have bb : (bit : Int) ≤ 1 := by omega
  by_cases h8 : l.length % 8 = 0
  · obtain ⟨i0, hi, hz0, hz1, hz2⟩ := info_parts infoByte
    have hm : (((l.length : Nat) : Int) % 8 == 0) = true := by simp; omega
    have c0 : w.cell? ⟨b, 0, none⟩ = some v := cellOf hb 0
    have f0 := freeOf hb 0
    have hsz := lt_of_block hb
    generalize hnn : (packB true l).length = n0 at hown hpl
    have Hnn := Lib.hid hnn
    have H8 := Lib.hid h8
    have Hpl := Lib.hid hpl
    have hn0 : n0 ≤ 2 ^ 40 := by omega
    clear hnn h8 hpl
    go_enter Try.func54, Try.ntmps54
    go_wp2_with (first | (at_builtin; refine wpList_append_lies _ rfl _ _ 54 rfl 0 5 i0 _ 1 1 Try.underlying54 hi hz0 hz1 hz2 rfl (by decide) v n0 _ rfl (hown.alloc _) ⟨w.heap.size, 0, none⟩ 1 1 [.int .u8 0] rfl rfl (cell_one_new _ _ _) (by simp [Value.oneCell']) (by decide) (by unfold maxLen; omega) (by omega) (by omega) (w.heap.size + 1) (by simp) ?_; intro g cap w1 hown1 hgrow hat hlt; have b1 : w1.heap[b]? = some (wtr v l.length true) := grown_keep hgrow (heap_alloc_old _ hb) hne; have k0 := cellOf b1 0; have k1 := freeOf b1 0; clear c0 f0 c1))
    have hgb : g ≠ b := fun e => by
      rcases hat with h | h
      · exact hne (by rw [h, e])
      · omega
    have hfr : v.ownBlock = some g ∨ w.heap.size ≤ g := hat.elim .inl (fun h => .inr (by omega))
    have hn : n0 + 1 = l.length / 8 + 1 := by have := Hpl.out; have := H8.out; omega
    have hbr : (w1.setCell ⟨b, 0, none⟩ (.slice (some ⟨g, 0, none⟩) (n0 + 1) cap)).heap[b]? = some (wtr (.slice (some ⟨g, 0, none⟩) (n0 + 1) cap) l.length true) := by
      rw [heap_setCell_same b1]; simp [wtr]
    have hrow : (w1.setCell ⟨b, 0, none⟩ (.slice (some ⟨g, 0, none⟩) (n0 + 1) cap)).ownsRow 0 5 1 (.slice (some ⟨g, 0, none⟩) (n0 + 1) cap) (n0 + 1) ((baseB true l).map b8) := by
      have h1 := ownsRow_setCell_other hown1 (a := ⟨b, 0, none⟩) (fun e => hgb (by simpa [Value.ownBlock] using e)) (.slice (some ⟨g, 0, none⟩) (n0 + 1) cap)
      rw [show baseB true l = packB true l ++ [0] by unfold baseB; rw [if_pos H8.out], List.map_append]
      exact h1
    have hext : Ext (b :: v.ownBlock.toList) w (w1.setCell ⟨b, 0, none⟩ (.slice (some ⟨g, 0, none⟩) (n0 + 1) cap)) :=
      (((Ext.refl _ w).alloc _).grown hgrow (fun k hk => .inl (by simp [hk]))).setCell _ _ (by simp)
    generalize w1.setCell ⟨b, 0, none⟩ (.slice (some ⟨g, 0, none⟩) (n0 + 1) cap) = wr at *
    generalize n0 + 1 = n at *
    clear hown1 hgrow hat hlt b1 k0 k1 hown hm hb hsz hi hz0 hz1 hz2
    have Hn := Lib.hid hn
    have Hext := Lib.hid hext
    have Hfr := Lib.hid hfr
    have Hrow := Lib.hid hrow
    have hcur : wr.cell? ⟨g, l.length / 8, none⟩ = some (.int .u8 ((byteOf true l (l.length / 8) : Nat) : Int)) := ownsRow_at hrow (by rw [List.getElem?_map, baseB_get _ _ _ (by omega)]; rfl)
    have hgr := ownsRow_free hrow
    have i0 : (0:Int) ≤ (l.length : Int) / 8 := by omega
    have i1 : (l.length : Int) / 8 < (n : Int) := by omega
    clear hn hext hfr hrow
    refine wp_region_quiet_tail (C := fun w' => ∃ x : Ex wr, w' = x.w) 27 (by kernel_rfl) (by kernel_rfl) ⟨Ex.mk _ ((Ext.refl [] wr).drew), rfl⟩ ?_
    simp only [List.take_succ_cons, List.take_zero, List.drop_succ_cons, List.drop_zero]
    have c0 : ∀ x : Ex wr, x.w.cell? ⟨b, 0, none⟩ = some (.slice (some ⟨g, 0, none⟩) n cap) := fun x => cellOf (x.heap hbr) 0
    have c1 : ∀ x : Ex wr, x.w.cell? ⟨b, 1, none⟩ = some (.int .i64 ((l.length : Nat) : Int)) := fun x => cellOf (x.heap hbr) 1
    have c2 : ∀ x : Ex wr, x.w.cell? ⟨b, 2, none⟩ = some (.iface 106 (.agg #[])) := fun x => cellOf (x.heap hbr) 2
    have c3 : ∀ x : Ex wr, x.w.cell? ⟨g, l.length / 8, none⟩ = some (.int .u8 ((byteOf true l (l.length / 8) : Nat) : Int)) := fun x => x.cell hcur
    repeat (go_big_quiet_step ((go_at_call 90; refine Calls.ext_of (shift_hi _ _ (by omega) (by omega)))))
    refine wpQuiet_nil ?_
    rintro _ ⟨x, rfl⟩
    clear c0 c1 c2 c3
    have e1 := put_hi bit (l.length % 8) hbit
    have e2 := u8_or_nat (byteOf true l (l.length / 8)) (bit * wt true (l.length % 8)) (byteOf_lt _ _ hbin _) (wt_le _ _ _ hbit (by omega))
    simp only [e1, e2]
    clear e1 e2
    have d1 : x.w.cell? ⟨b, 1, none⟩ = some (.int .i64 ((l.length : Nat) : Int)) := cellOf (x.heap hbr) 1
    have d2 : x.w.frozen? ⟨b, 1, none⟩ = false := freeOf (x.heap hbr) 1
    have d3 : x.w.cell? ⟨g, l.length / 8, none⟩ = some (.int .u8 ((byteOf true l (l.length / 8) : Nat) : Int)) := x.cell hcur
    have d4 : x.w.frozen? ⟨g, l.length / 8, none⟩ = false := x.free hcur (hgr _)
    have Hbr := Lib.hid hbr
    clear hcur hgr hbr
    go_wp2_with fail
    go_end0
    exact ⟨rfl, one_done (x := x) hbin hbit hgb Hn.out Hbr.out Hrow.out Hext.out Hfr.out⟩
  · have hm : (((l.length : Nat) : Int) % 8 == 0) = false := by simp; omega
    obtain ⟨g, cap, rfl, _, hg⟩ := hown.form (by omega)
    generalize hnn : (packB true l).length = n at hown hpl hb hne
    have hgb : g ≠ b := fun e => hne (by rw [e]; rfl)
    have hfr : (Value.slice (some ⟨g, 0, none⟩) n cap).ownBlock = some g ∨ w.heap.size ≤ g := .inl rfl
    have hn : n = l.length / 8 + 1 := by omega
    have hrow : w.ownsRow 0 5 1 (.slice (some ⟨g, 0, none⟩) n cap) n ((baseB true l).map b8) := by
      rw [show baseB true l = packB true l by unfold baseB; rw [if_neg h8]]; exact hown
    have hext : Ext (b :: (Value.slice (some ⟨g, 0, none⟩) n cap).ownBlock.toList) w w := Ext.refl _ _
    have Hnn := Lib.hid hnn
    have H8 := Lib.hid h8
    clear hown hnn h8 hpl
    have hbr := hb
    have H := Lib.hid (And.intro hn (And.intro hrow (And.intro hext hfr)))
    clear hn hrow hext hfr
    go_enter Try.func54, Try.ntmps54
    go_wp2_with fail
    obtain ⟨hn, hrow, hext, hfr⟩ := H.out
    clear H c1 hb hm hg
    obtain ⟨wr, hwr⟩ : ∃ wr, wr = w := ⟨_, rfl⟩
    rw [← hwr] at hbr hrow
    rw [← hwr]
    have hext' : Ext (b :: (Value.slice (some ⟨g, 0, none⟩) n cap).ownBlock.toList) w wr := hwr ▸ hext
    clear hext
    have hext := hext'
    clear hext'
    have Hwr := Lib.hid hwr
    clear hwr
    have Hn := Lib.hid hn
    have Hext := Lib.hid hext
    have Hfr := Lib.hid hfr
    have Hrow := Lib.hid hrow
    have hcur : wr.cell? ⟨g, l.length / 8, none⟩ = some (.int .u8 ((byteOf true l (l.length / 8) : Nat) : Int)) := ownsRow_at hrow (by rw [List.getElem?_map, baseB_get _ _ _ (by omega)]; rfl)
    have hgr := ownsRow_free hrow
    have i0 : (0:Int) ≤ (l.length : Int) / 8 := by omega
    have i1 : (l.length : Int) / 8 < (n : Int) := by omega
    clear hn hext hfr hrow
    refine wp_region_quiet_tail (C := fun w' => ∃ x : Ex wr, w' = x.w) 27 (by kernel_rfl) (by kernel_rfl) ⟨Ex.mk _ ((Ext.refl [] wr).drew), rfl⟩ ?_
    simp only [List.take_succ_cons, List.take_zero, List.drop_succ_cons, List.drop_zero]
    have c0 : ∀ x : Ex wr, x.w.cell? ⟨b, 0, none⟩ = some (.slice (some ⟨g, 0, none⟩) n cap) := fun x => cellOf (x.heap hbr) 0
    have c1 : ∀ x : Ex wr, x.w.cell? ⟨b, 1, none⟩ = some (.int .i64 ((l.length : Nat) : Int)) := fun x => cellOf (x.heap hbr) 1
    have c2 : ∀ x : Ex wr, x.w.cell? ⟨b, 2, none⟩ = some (.iface 106 (.agg #[])) := fun x => cellOf (x.heap hbr) 2
    have c3 : ∀ x : Ex wr, x.w.cell? ⟨g, l.length / 8, none⟩ = some (.int .u8 ((byteOf true l (l.length / 8) : Nat) : Int)) := fun x => x.cell hcur
    repeat (go_big_quiet_step ((go_at_call 90; refine Calls.ext_of (shift_hi _ _ (by omega) (by omega)))))
    refine wpQuiet_nil ?_
    rintro _ ⟨x, rfl⟩
    clear c0 c1 c2 c3
    have e1 := put_hi bit (l.length % 8) hbit
    have e2 := u8_or_nat (byteOf true l (l.length / 8)) (bit * wt true (l.length % 8)) (byteOf_lt _ _ hbin _) (wt_le _ _ _ hbit (by omega))
    simp only [e1, e2]
    clear e1 e2
    have d1 : x.w.cell? ⟨b, 1, none⟩ = some (.int .i64 ((l.length : Nat) : Int)) := cellOf (x.heap hbr) 1
    have d2 : x.w.frozen? ⟨b, 1, none⟩ = false := freeOf (x.heap hbr) 1
    have d3 : x.w.cell? ⟨g, l.length / 8, none⟩ = some (.int .u8 ((byteOf true l (l.length / 8) : Nat) : Int)) := x.cell hcur
    have d4 : x.w.frozen? ⟨g, l.length / 8, none⟩ = false := x.free hcur (hgr _)
    have Hbr := Lib.hid hbr
    clear hcur hgr hbr
    go_wp2_with fail
    go_end0
    exact ⟨rfl, one_done (x := x) hbin hbit hgb Hn.out Hbr.out Hrow.out Hext.out Hfr.out⟩

set_option maxHeartbeats 4000000 in
theorem one_lo (b : Nat) (F : List Nat) (l : List Nat) (bit : Nat) (w : World) (hl : l.length < 2 ^ 40) (hbit : bit ≤ 1) (hW : Wtr w b F false l) :
    Calls Try.prog 54 #[.pointer (some ⟨b, 0, none⟩), .int .u64 bit] w fun e w' => e = .returned (.tuple #[]) ∧ ∃ F', Wtr w' b F' false (l ++ [bit]) ∧ Ext F w w' ∧ Fr w F F' := by
  obtain ⟨v, hb, hown, rfl, hne, hbin⟩ := hW
  have hpl := packB_length false l
  have c1 : w.cell? ⟨b, 1, none⟩ = some (.int .i64 ((l.length : Nat) : Int)) := cellOf hb 1
  have bb : (bit : Int) ≤ 1 := by omega
  by_cases h8 : l.length % 8 = 0
  · obtain ⟨i0, hi, hz0, hz1, hz2⟩ := info_parts infoByte
    have hm : (((l.length : Nat) : Int) % 8 == 0) = true := by simp; omega
    have c0 : w.cell? ⟨b, 0, none⟩ = some v := cellOf hb 0
    have f0 := freeOf hb 0
    have hsz := lt_of_block hb
    generalize hnn : (packB false l).length = n0 at hown hpl
    have Hnn := Lib.hid hnn
    have H8 := Lib.hid h8
    have Hpl := Lib.hid hpl
    have hn0 : n0 ≤ 2 ^ 40 := by omega
    clear hnn h8 hpl
    go_enter Try.func54, Try.ntmps54
    go_wp2_with (first | (at_builtin; refine wpList_append_lies _ rfl _ _ 54 rfl 0 5 i0 _ 1 1 Try.underlying54 hi hz0 hz1 hz2 rfl (by decide) v n0 _ rfl (hown.alloc _) ⟨w.heap.size, 0, none⟩ 1 1 [.int .u8 0] rfl rfl (cell_one_new _ _ _) (by simp [Value.oneCell']) (by decide) (by unfold maxLen; omega) (by omega) (by omega) (w.heap.size + 1) (by simp) ?_; intro g cap w1 hown1 hgrow hat hlt; have b1 : w1.heap[b]? = some (wtr v l.length false) := grown_keep hgrow (heap_alloc_old _ hb) hne; have k0 := cellOf b1 0; have k1 := freeOf b1 0; clear c0 f0 c1))
    have hgb : g ≠ b := fun e => by
      rcases hat with h | h
      · exact hne (by rw [h, e])
      · omega
    have hfr : v.ownBlock = some g ∨ w.heap.size ≤ g := hat.elim .inl (fun h => .inr (by omega))
    have hn : n0 + 1 = l.length / 8 + 1 := by have := Hpl.out; have := H8.out; omega
    have hbr : (w1.setCell ⟨b, 0, none⟩ (.slice (some ⟨g, 0, none⟩) (n0 + 1) cap)).heap[b]? = some (wtr (.slice (some ⟨g, 0, none⟩) (n0 + 1) cap) l.length false) := by
      rw [heap_setCell_same b1]; simp [wtr]
    have hrow : (w1.setCell ⟨b, 0, none⟩ (.slice (some ⟨g, 0, none⟩) (n0 + 1) cap)).ownsRow 0 5 1 (.slice (some ⟨g, 0, none⟩) (n0 + 1) cap) (n0 + 1) ((baseB false l).map b8) := by
      have h1 := ownsRow_setCell_other hown1 (a := ⟨b, 0, none⟩) (fun e => hgb (by simpa [Value.ownBlock] using e)) (.slice (some ⟨g, 0, none⟩) (n0 + 1) cap)
      rw [show baseB false l = packB false l ++ [0] by unfold baseB; rw [if_pos H8.out], List.map_append]
      exact h1
    have hext : Ext (b :: v.ownBlock.toList) w (w1.setCell ⟨b, 0, none⟩ (.slice (some ⟨g, 0, none⟩) (n0 + 1) cap)) :=
      (((Ext.refl _ w).alloc _).grown hgrow (fun k hk => .inl (by simp [hk]))).setCell _ _ (by simp)
    generalize w1.setCell ⟨b, 0, none⟩ (.slice (some ⟨g, 0, none⟩) (n0 + 1) cap) = wr at *
    generalize n0 + 1 = n at *
    clear hown1 hgrow hat hlt b1 k0 k1 hown hm hb hsz hi hz0 hz1 hz2
    have Hn := Lib.hid hn
    have Hext := Lib.hid hext
    have Hfr := Lib.hid hfr
    have Hrow := Lib.hid hrow
    have hcur : wr.cell? ⟨g, l.length / 8, none⟩ = some (.int .u8 ((byteOf false l (l.length / 8) : Nat) : Int)) := ownsRow_at hrow (by rw [List.getElem?_map, baseB_get _ _ _ (by omega)]; rfl)
    have hgr := ownsRow_free hrow
    have i0 : (0:Int) ≤ (l.length : Int) / 8 := by omega
    have i1 : (l.length : Int) / 8 < (n : Int) := by omega
    clear hn hext hfr hrow
    refine wp_region_quiet_tail (C := fun w' => ∃ x : Ex wr, w' = x.w) 27 (by kernel_rfl) (by kernel_rfl) ⟨Ex.mk _ ((Ext.refl [] wr).drew), rfl⟩ ?_
    simp only [List.take_succ_cons, List.take_zero, List.drop_succ_cons, List.drop_zero]
    have c0 : ∀ x : Ex wr, x.w.cell? ⟨b, 0, none⟩ = some (.slice (some ⟨g, 0, none⟩) n cap) := fun x => cellOf (x.heap hbr) 0
    have c1 : ∀ x : Ex wr, x.w.cell? ⟨b, 1, none⟩ = some (.int .i64 ((l.length : Nat) : Int)) := fun x => cellOf (x.heap hbr) 1
    have c2 : ∀ x : Ex wr, x.w.cell? ⟨b, 2, none⟩ = some (.iface 107 (.agg #[])) := fun x => cellOf (x.heap hbr) 2
    have c3 : ∀ x : Ex wr, x.w.cell? ⟨g, l.length / 8, none⟩ = some (.int .u8 ((byteOf false l (l.length / 8) : Nat) : Int)) := fun x => x.cell hcur
    repeat (go_big_quiet_step ((go_at_call 93; refine Calls.ext_of (shift_lo _ _))))
    refine wpQuiet_nil ?_
    rintro _ ⟨x, rfl⟩
    clear c0 c1 c2 c3
    have e1 := put_lo bit (l.length % 8) hbit (by omega)
    have e2 := u8_or_nat (byteOf false l (l.length / 8)) (bit * wt false (l.length % 8)) (byteOf_lt _ _ hbin _) (wt_le _ _ _ hbit (by omega))
    simp only [e1, e2]
    clear e1 e2
    have d1 : x.w.cell? ⟨b, 1, none⟩ = some (.int .i64 ((l.length : Nat) : Int)) := cellOf (x.heap hbr) 1
    have d2 : x.w.frozen? ⟨b, 1, none⟩ = false := freeOf (x.heap hbr) 1
    have d3 : x.w.cell? ⟨g, l.length / 8, none⟩ = some (.int .u8 ((byteOf false l (l.length / 8) : Nat) : Int)) := x.cell hcur
    have d4 : x.w.frozen? ⟨g, l.length / 8, none⟩ = false := x.free hcur (hgr _)
    have Hbr := Lib.hid hbr
    clear hcur hgr hbr
    go_wp2_with fail
    go_end0
    exact ⟨rfl, one_done (x := x) hbin hbit hgb Hn.out Hbr.out Hrow.out Hext.out Hfr.out⟩
  · have hm : (((l.length : Nat) : Int) % 8 == 0) = false := by simp; omega
    obtain ⟨g, cap, rfl, _, hg⟩ := hown.form (by omega)
    generalize hnn : (packB false l).length = n at hown hpl hb hne
    have hgb : g ≠ b := fun e => hne (by rw [e]; rfl)
    have hfr : (Value.slice (some ⟨g, 0, none⟩) n cap).ownBlock = some g ∨ w.heap.size ≤ g := .inl rfl
    have hn : n = l.length / 8 + 1 := by omega
    have hrow : w.ownsRow 0 5 1 (.slice (some ⟨g, 0, none⟩) n cap) n ((baseB false l).map b8) := by
      rw [show baseB false l = packB false l by unfold baseB; rw [if_neg h8]]; exact hown
    have hext : Ext (b :: (Value.slice (some ⟨g, 0, none⟩) n cap).ownBlock.toList) w w := Ext.refl _ _
    have Hnn := Lib.hid hnn
    have H8 := Lib.hid h8
    clear hown hnn h8 hpl
    have hbr := hb
    have H := Lib.hid (And.intro hn (And.intro hrow (And.intro hext hfr)))
    clear hn hrow hext hfr
    go_enter Try.func54, Try.ntmps54
    go_wp2_with fail
    obtain ⟨hn, hrow, hext, hfr⟩ := H.out
    clear H c1 hb hm hg
    obtain ⟨wr, hwr⟩ : ∃ wr, wr = w := ⟨_, rfl⟩
    rw [← hwr] at hbr hrow
    rw [← hwr]
    have hext' : Ext (b :: (Value.slice (some ⟨g, 0, none⟩) n cap).ownBlock.toList) w wr := hwr ▸ hext
    clear hext
    have hext := hext'
    clear hext'
    have Hwr := Lib.hid hwr
    clear hwr
    have Hn := Lib.hid hn
    have Hext := Lib.hid hext
    have Hfr := Lib.hid hfr
    have Hrow := Lib.hid hrow
    have hcur : wr.cell? ⟨g, l.length / 8, none⟩ = some (.int .u8 ((byteOf false l (l.length / 8) : Nat) : Int)) := ownsRow_at hrow (by rw [List.getElem?_map, baseB_get _ _ _ (by omega)]; rfl)
    have hgr := ownsRow_free hrow
    have i0 : (0:Int) ≤ (l.length : Int) / 8 := by omega
    have i1 : (l.length : Int) / 8 < (n : Int) := by omega
    clear hn hext hfr hrow
    refine wp_region_quiet_tail (C := fun w' => ∃ x : Ex wr, w' = x.w) 27 (by kernel_rfl) (by kernel_rfl) ⟨Ex.mk _ ((Ext.refl [] wr).drew), rfl⟩ ?_
    simp only [List.take_succ_cons, List.take_zero, List.drop_succ_cons, List.drop_zero]
    have c0 : ∀ x : Ex wr, x.w.cell? ⟨b, 0, none⟩ = some (.slice (some ⟨g, 0, none⟩) n cap) := fun x => cellOf (x.heap hbr) 0
    have c1 : ∀ x : Ex wr, x.w.cell? ⟨b, 1, none⟩ = some (.int .i64 ((l.length : Nat) : Int)) := fun x => cellOf (x.heap hbr) 1
    have c2 : ∀ x : Ex wr, x.w.cell? ⟨b, 2, none⟩ = some (.iface 107 (.agg #[])) := fun x => cellOf (x.heap hbr) 2
    have c3 : ∀ x : Ex wr, x.w.cell? ⟨g, l.length / 8, none⟩ = some (.int .u8 ((byteOf false l (l.length / 8) : Nat) : Int)) := fun x => x.cell hcur
    repeat (go_big_quiet_step ((go_at_call 93; refine Calls.ext_of (shift_lo _ _))))
    refine wpQuiet_nil ?_
    rintro _ ⟨x, rfl⟩
    clear c0 c1 c2 c3
    have e1 := put_lo bit (l.length % 8) hbit (by omega)
    have e2 := u8_or_nat (byteOf false l (l.length / 8)) (bit * wt false (l.length % 8)) (byteOf_lt _ _ hbin _) (wt_le _ _ _ hbit (by omega))
    simp only [e1, e2]
    clear e1 e2
    have d1 : x.w.cell? ⟨b, 1, none⟩ = some (.int .i64 ((l.length : Nat) : Int)) := cellOf (x.heap hbr) 1
    have d2 : x.w.frozen? ⟨b, 1, none⟩ = false := freeOf (x.heap hbr) 1
    have d3 : x.w.cell? ⟨g, l.length / 8, none⟩ = some (.int .u8 ((byteOf false l (l.length / 8) : Nat) : Int)) := x.cell hcur
    have d4 : x.w.frozen? ⟨g, l.length / 8, none⟩ = false := x.free hcur (hgr _)
    have Hbr := Lib.hid hbr
    clear hcur hgr hbr
    go_wp2_with fail
    go_end0
    exact ⟨rfl, one_done (x := x) hbin hbit hgb Hn.out Hbr.out Hrow.out Hext.out Hfr.out⟩

end Go.Proofs.Ytchhgbhbldfofaa.Bt
