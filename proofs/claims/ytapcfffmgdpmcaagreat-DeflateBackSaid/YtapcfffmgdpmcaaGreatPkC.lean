/-
  BitsLives, BitsBytes, BitsRef, BitsRefW, BitsRefT, in one text.
-/
import Derived.Test.YtapcfffmgdpmcaaGreatPkB
import Derived.Test.YtapcfffmgdpmcaaGreatPkA
/-! BitsLives: The chapter's examples come out as the statements' 'lives' asks (layer 6, bits). -/
namespace Go.Proofs.YtapcfffmgdpmcaaGreat.Bt
open Go.RowKit

theorem g3lo : getv ⟨#[180]⟩ false 0 3 = 4 := by decide
theorem g3hi : getv ⟨#[180]⟩ true 0 3 = 5 := by decide
theorem t3lo : txt (packB false ([] ++ bitsOf false 1 1 ++ bitsOf false 2 2)) = ⟨#[5]⟩ := by decide
theorem t3hi : txt (packB true ([] ++ bitsOf true 1 1 ++ bitsOf true 2 2)) = ⟨#[192]⟩ := by decide

end Go.Proofs.YtapcfffmgdpmcaaGreat.Bt

/-! BitsBytes: The walk of BitsBytes: bytes that are put as numbers of eight bits are those bytes, from either end; so they are read. -/
namespace Go.Proofs.YtapcfffmgdpmcaaGreat.Bt
open Go.RowKit

def allBits (s : ByteArray) (hi : Bool) (n : Nat) : List Nat := (List.range n).map (bit s hi)
theorem allBits_length (s : ByteArray) (hi : Bool) (n : Nat) : (allBits s hi n).length = n := by simp [allBits]
theorem allBits_bin (s : ByteArray) (hi : Bool) (n : Nat) : Bin (allBits s hi n) := fun x hx => by
  obtain ⟨i, _, rfl⟩ := List.mem_map.1 hx
  exact bit_le _ _ _
theorem allBits_getD (s : ByteArray) (hi : Bool) (n i : Nat) (h : i < n) : (allBits s hi n).getD i 0 = bit s hi i := by
  simp [allBits, List.getD_eq_getElem?_getD, h]
theorem bit_at (s : ByteArray) (hi : Bool) (k i : Nat) (h : i < 8) : bit s hi (8 * k + i) = bitOf hi (byteAt s k) i := by
  unfold bit; rw [show (8 * k + i) / 8 = k by omega, show (8 * k + i) % 8 = i by omega]
theorem allBits_byte (s : ByteArray) (hi : Bool) (k : Nat) : allBits s hi (8 * (k + 1)) = allBits s hi (8 * k) ++ bitsOf hi (byteAt s k) 8 := by
  have e : 8 * (k + 1) = 8 * k + 8 := by omega
  unfold allBits bitsOf
  rw [e, List.range_add, List.map_append, List.map_map]
  congr 1
  refine List.map_congr_left fun i hi' => ?_
  have hi8 : i < 8 := List.mem_range.1 hi'
  show bit s hi (8 * k + i) = _
  rw [bit_at _ _ _ _ hi8]
  unfold bitOf
  rfl
theorem getv_byte (s : ByteArray) (hi : Bool) (k : Nat) : getv s hi (8 * k) 8 = byteAt s k := by
  have hx := byteAt_lt s k
  have b0 := bit_at s hi k 0 (by omega); have b1 := bit_at s hi k 1 (by omega); have b2 := bit_at s hi k 2 (by omega); have b3 := bit_at s hi k 3 (by omega)
  have b4 := bit_at s hi k 4 (by omega); have b5 := bit_at s hi k 5 (by omega); have b6 := bit_at s hi k 6 (by omega); have b7 := bit_at s hi k 7 (by omega)
  simp only [getv, b0, b1, b2, b3, b4, b5, b6, b7]
  generalize byteAt s k = x at *
  clear b0 b1 b2 b3 b4 b5 b6 b7
  cases hi <;> simp [bitOf] <;> omega
theorem byteOf_all (s : ByteArray) (hi : Bool) (n j : Nat) (h : j < n) : byteOf hi (allBits s hi (8 * n)) j = byteAt s j := by
  have hx := byteAt_lt s j
  have b0 := bit_at s hi j 0 (by omega); have b1 := bit_at s hi j 1 (by omega); have b2 := bit_at s hi j 2 (by omega); have b3 := bit_at s hi j 3 (by omega)
  have b4 := bit_at s hi j 4 (by omega); have b5 := bit_at s hi j 5 (by omega); have b6 := bit_at s hi j 6 (by omega); have b7 := bit_at s hi j 7 (by omega)
  unfold byteOf
  rw [allBits_getD _ _ _ _ (by omega), allBits_getD _ _ _ _ (by omega), allBits_getD _ _ _ _ (by omega), allBits_getD _ _ _ _ (by omega), allBits_getD _ _ _ _ (by omega), allBits_getD _ _ _ _ (by omega), allBits_getD _ _ _ _ (by omega), allBits_getD _ _ _ _ (by omega)]
  rw [Nat.add_zero] at b0
  rw [b0, b1, b2, b3, b4, b5, b6, b7]
  generalize byteAt s j = x at *
  clear b0 b1 b2 b3 b4 b5 b6 b7
  cases hi <;> simp [bitOf, wt] <;> omega
theorem txt_all (s : ByteArray) (hi : Bool) : txt (packB hi (allBits s hi (8 * s.size))) = s := by
  have e : packB hi (allBits s hi (8 * s.size)) = (List.range s.size).map (byteAt s) := by
    unfold packB
    rw [allBits_length, show (8 * s.size + 7) / 8 = s.size by omega]
    exact List.map_congr_left fun j hj => byteOf_all s hi s.size j (List.mem_range.1 hj)
  rw [e]
  have e2 : ((List.range s.size).map (byteAt s)).map UInt8.ofNat = s.data.toList := by
    apply List.ext_getElem?
    intro i
    rw [List.map_map, List.getElem?_map]
    rcases Nat.lt_or_ge i s.size with h | h
    · rw [List.getElem?_range h, List.getElem?_eq_getElem (by simpa using h)]
      simp only [Option.map_some, Function.comp_apply, byteAt]
      rw [List.getD_eq_getElem?_getD, List.getElem?_eq_getElem (by simpa using h)]
      simp
    · rw [List.getElem?_eq_none (by simpa using h), List.getElem?_eq_none (by simpa using h)]
      rfl
  unfold txt
  rw [e2]

end Go.Proofs.YtapcfffmgdpmcaaGreat.Bt

/-! BitsRef: What the reference's bit reader does, function by function (pagemenderref06: NewReader, Left, Align, value, Get). -/
namespace Go.Proofs.YtapcfffmgdpmcaaGreat.Bt
open Go.RowKit

def rfr (v : Value) (n : Nat) : Obj := .cells #[v, .int .i64 n] 76
/-- block b is a reference's reader of the bits L, n of which were read; it owns the blocks F -/
def RfR (w : World) (b : Nat) (F : List Nat) (L : List Nat) (n : Nat) : Prop :=
  ∃ v, w.heap[b]? = some (rfr v n) ∧ w.ownsRow 0 5 1 v L.length (L.map b8) ∧ F = b :: v.ownBlock.toList ∧ v.ownBlock ≠ some b
def oRf (b : Nat) (F : List Nat) (L : List Nat) (n : Nat) : Ob where
  F := F
  P := fun w => RfR w b F L n
  ok := fun h hx hS => by
    obtain ⟨v, hb, hown, rfl, hne⟩ := h
    exact ⟨v, hx.keep hb (hS b (by simp)), ownsRow_ext hown hx (fun g hg => hS g (by simp [hg])), rfl, hne⟩
  lt := fun h => by
    obtain ⟨v, hb, hown, rfl, hne⟩ := h
    intro k hk
    rcases List.mem_cons.1 hk with rfl | hk
    · exact lt_of_block hb
    · exact (hown.lt k (by simpa using hk)).2

theorem rfleft (b : Nat) (F : List Nat) (L : List Nat) (n : Nat) (w : World) (hL : L.length < 2 ^ 40) (hn : n ≤ L.length) (h : RfR w b F L n) :
    Calls Tryz.prog 81 #[.pointer (some ⟨b, 0, none⟩)] w fun e w' => e = .returned (.int .i64 ((L.length : Int) - n)) ∧ Ext [] w w' := by
  obtain ⟨v, hb, hown, _⟩ := h
  have h0 := cellOf hb 0
  have h1 := cellOf hb 1
  rcases hown.2 with ⟨rfl, h00⟩ | ⟨g, cap, cur, rfl, _, _, hnc, hcm, _⟩
  · have h00' : (L.length : Int) = 0 := by omega
    have hn0 : n = 0 := by omega
    subst hn0
    have H := Lib.hid h00'
    clear h00 h00'
    go_enter Tryz.func81, Tryz.ntmps81
    go_wp2
    go_quiet (fail)
    go_wp2
    go_ret
    exact ⟨by rw [H.out]; rfl, (Ext.refl _ _).drewN _⟩
  · unfold maxLen at hcm
    go_enter Tryz.func81, Tryz.ntmps81
    go_wp2
    go_quiet (fail)
    go_wp2
    go_ret
    exact ⟨rfl, (Ext.refl _ _).drewN _⟩
theorem rfalign (b : Nat) (F : List Nat) (L : List Nat) (n : Nat) (w : World) (hn : n < 2 ^ 40) (h : RfR w b F L n) :
    Calls Tryz.prog 54 #[.pointer (some ⟨b, 0, none⟩)] w fun e w' => e = .returned (.int .i64 (gap n)) ∧ RfR w' b F L (n + gap n) ∧ Ext F w w' := by
  obtain ⟨v, hb, hown, rfl, hne⟩ := h
  have h1 := cellOf hb 1
  have f1 := freeOf hb 1
  have hg : (8 - (n : Int) % 8) % 8 = (gap n : Int) := by unfold gap; omega
  have hg2 := gap_lt n
  have hfin : RfR (w.setCell ⟨b, 1, none⟩ (.int .i64 ((n : Int) + (gap n : Int)))) b (b :: v.ownBlock.toList) L (n + gap n) := by
    refine ⟨v, ?_, ownsRow_setCell_other hown (fun e => hne (by simpa using e)) _, rfl, hne⟩
    rw [heap_setCell_same hb]
    simp [rfr]
  have Hfin := Lib.hid hfin
  clear hfin
  go_enter Tryz.func54, Tryz.ntmps54
  go_wp2
  go_ret
  exact ⟨congrArg (fun z => Ending.returned (.int .i64 z)) hg, Hfin.out, (Ext.refl _ _).setCell _ _ (by simp)⟩

theorem bit8_hi (s : ByteArray) (i k : Nat) (h : i < s.size) (hk : k < 8) : bits BinOp.and IntKind.u8 (((s[i]'h).toNat : Int) / 2 ^ (7 - k)) 1 = ((bit s true (8 * i + k) : Nat) : Int) := by
  have hx : (s[i]'h).toNat < 256 := (s[i]'h).toNat_lt
  have h1 := u8_and_nat ((s[i]'h).toNat / 2 ^ (7 - k)) 1 (Nat.lt_of_le_of_lt (Nat.div_le_self _ _) hx) (by omega)
  rw [Nat.and_one_is_mod] at h1
  have h2 : ((((s[i]'h).toNat / 2 ^ (7 - k) : Nat)) : Int) = ((s[i]'h).toNat : Int) / 2 ^ (7 - k) := by push_cast; rfl
  rw [h2] at h1
  refine h1.trans ?_
  rw [bit_at _ _ _ _ hk, byteAt_eq]
  simp [bitOf]
theorem bit8_lo (s : ByteArray) (i k : Nat) (h : i < s.size) (hk : k < 8) : bits BinOp.and IntKind.u8 (((s[i]'h).toNat : Int) / 2 ^ k) 1 = ((bit s false (8 * i + k) : Nat) : Int) := by
  have hx : (s[i]'h).toNat < 256 := (s[i]'h).toNat_lt
  have h1 := u8_and_nat ((s[i]'h).toNat / 2 ^ k) 1 (Nat.lt_of_le_of_lt (Nat.div_le_self _ _) hx) (by omega)
  rw [Nat.and_one_is_mod] at h1
  have h2 : ((((s[i]'h).toNat / 2 ^ k : Nat)) : Int) = ((s[i]'h).toNat : Int) / 2 ^ k := by push_cast; rfl
  rw [h2] at h1
  refine h1.trans ?_
  rw [bit_at _ _ _ _ hk, byteAt_eq]
  simp [bitOf]
theorem allBits_succ (s : ByteArray) (hi : Bool) (n : Nat) : allBits s hi (n + 1) = allBits s hi n ++ [bit s hi n] := by
  simp [allBits, List.range_succ]

set_option maxRecDepth 100000 in
set_option maxHeartbeats 8000000 in
set_option maxRecDepth 100000 in
theorem rfnew_hi (s : ByteArray) (w : World) (hs : s.size ≤ 1048576) : Calls Tryz.prog 24 #[.string s, .bool true] w fun e w' =>
    ∃ b F, e = .returned (.pointer (some ⟨b, 0, none⟩)) ∧ RfR w' b F (allBits s true (8 * s.size)) 0 ∧ Fr w [] F ∧ Ext [] w w' := by
  obtain ⟨i0, hi, hz0, hz1, hz2⟩ := info_parts infoByte
  have S0 : Sep w (w.alloc (rfr (.slice none 0 0) 0)) [oRf w.heap.size [w.heap.size] (allBits s true (8 * 0)) 0] :=
    (Sep.start w).new ((Ext.refl _ w).alloc _) (oRf w.heap.size [w.heap.size] (allBits s true (8 * 0)) 0) ⟨.slice none 0 0, heap_alloc_at _, World.ownsRow_nil _ _ _ _, rfl, by simp [Value.ownBlock]⟩ (fun k hk => by rw [List.mem_singleton.1 hk]; exact Nat.le_refl _)
  have H0 := Lib.hid S0
  clear S0
  go_enter Tryz.func24, Tryz.ntmps24
  go_wp2_with fail
  go_loopg [6] s.size (fun g i wr => ∃ k : Nat, g + k = s.size ∧ i = .int .i64 k ∧ ∃ F, Sep w wr [oRf w.heap.size F (allBits s true (8 * k)) 0])
  case atStart => exact ⟨0, by omega, rfl, _, H0.out⟩
  case round =>
    clear H0
    obtain ⟨i, hi8, rfl, F, S⟩ := hrel
    by_cases hlt : i < s.size
    · go_wp2_with fail
      go_loopg [7] 8 (fun g i' wr => ∃ k : Nat, g + k = 8 ∧ i' = .int .i64 k ∧ ∃ F, Sep w wr [oRf w.heap.size F (allBits s true (8 * i + k)) 0])
      case atStart => exact ⟨0, by omega, rfl, _, S⟩
      case round =>
        clear S
        obtain ⟨k, hk8, rfl, F, S⟩ := hrel
        by_cases hk : k < 8
        · have eb := bit8_hi s i k hlt hk
          have hbit := bit_le s true (8 * i + k)
          have hll := allBits_length s true (8 * i + k)
          obtain ⟨v, hb, hown, hF, hne⟩ := S.get 0 rfl
          generalize hn0 : (allBits s true (8 * i + k)).length = n0 at hown hll
          have Hn0 := Lib.hid hn0
          have HS := Lib.hid S
          have HF := Lib.hid hF
          have hb255 : ((s[i]'hlt).toNat : Int) ≤ 255 := by have := (s[i]'hlt).toNat_lt; omega
          clear hn0 S hF
          have hn1 : n0 ≤ 16777216 := by omega
          have Hll := Lib.hid hll
          clear hll
          have Heb := Lib.hid eb
          clear eb
          go_wp2_with fail
          have eb := Heb.out
          refine wp_region_mid (C := fun w' => ∃ x : ExS v.ownBlock.toList wr, w' = x.w) 13 2 (by kernel_rfl) (by kernel_rfl) ⟨ExS.mk _ ((Ext.refl _ wr).drew), rfl⟩ ?_
          simp only [List.take_succ_cons, List.take_zero, List.drop_succ_cons, List.drop_zero]
          have c0 : ∀ x : ExS v.ownBlock.toList wr, x.w.cell? ⟨w.heap.size, 0, none⟩ = some v := fun x => cellOf (x.heap hb (by simpa using hne)) 0
          have i1 : (0 : Int) ≤ (i : Int) := by omega
          have i2 : (i : Int) < (s.size : Int) := by omega
          repeat (go_big_quiet_step (fail))
          refine wpQuiet_nil ?_
          refine midW_step rfl (fun K hK => ?_)
          go_wp2_with fail
          refine ⟨⟨ExS.mk _ ((Ext.refl _ wr).drew.alloc _), rfl⟩, ?_⟩
          refine midW_step rfl (fun K hK => ?_)
          refine wp_append_lies _ _ _ 29 rfl 0 5 i0 _ 1 1 Tryz.underlying29 hi hz0 hz1 hz2 rfl (by decide) v n0 _ rfl ((hown.alloc _).drew) ⟨wr.heap.size, 0, none⟩ 1 1 [.int .u8 ((bit s true (8 * i + k) : Nat) : Int)] rfl rfl (cell_one_new _ _ _) (by simp [Value.oneCell']) (by decide) (by unfold maxLen; omega) (by omega) (by omega) (wr.heap.size + 1) (by simp) ?_
          intro g cap w1 hown1 hgrow hat hlt
          have hg2 : (wr.alloc (.cells #[.int .u8 ((bit s true (8 * i + k) : Nat) : Int)] 5)).grownBy w1 v.ownBlock := ⟨hgrow.os, hgrow.tape, hgrow.output, hgrow.size, hgrow.block⟩
          have hb1 : w1.heap[w.heap.size]? = some (rfr v 0) := grown_keep hg2 (heap_alloc_old _ hb) hne
          have P := push_field hb hne hown1 hg2 hat 0
          have HP := Lib.hid P
          refine hK _ _ ⟨⟨ExS.mk w1 (((Ext.refl _ wr).alloc _).grown hg2 (fun q hq => .inl (by simp [hq]))), rfl⟩, ?_⟩
          clear hK K c0 P hgrow hat hlt hown hg2
          refine midW_nil ?_
          have d0 := cellOf hb1 0
          have d1 := freeOf hb1 0
          clear hb1
          go_wp2_with fail
          refine NoPanic.normal ?_
          go_wp2_with fail
          go_roundg (8 - (k + 1))
          case measure => omega
          case rel =>
            obtain ⟨p1, p2, p3, p4, p5⟩ := HP.out
            have e := HF.out
            subst e
            refine ⟨k + 1, by omega, by go_num, [w.heap.size, g], HS.out.upd 0 (oRf w.heap.size [w.heap.size, g] (allBits s true (8 * i + (k + 1))) 0) rfl p3 p5 ⟨.slice (some ⟨g, 0, none⟩) (n0 + 1) cap, p1, ?_, rfl, fun e => p4 (by simpa [Value.ownBlock] using e)⟩⟩
            rw [show 8 * i + (k + 1) = (8 * i + k) + 1 by omega, allBits_succ, List.length_append, Hn0.out, List.map_append]
            exact p2
        · have hk' : k = 8 := by omega
          subst hk'
          go_wp2_with fail
          go_roundg (s.size - (i + 1))
          case measure => omega
          case rel => exact ⟨i + 1, by omega, by go_num, F, S⟩
    · have e : i = s.size := by omega
      subst e
      obtain HS := Lib.hid S
      clear S
      go_wp2_with fail
      go_ret
      have S := HS.out
      exact ⟨w.heap.size, F, rfl, S.get 0 rfl, fun q hq => .inr (S.base (oRf w.heap.size F (allBits s true (8 * s.size)) 0) (by simp) q hq), S.ext⟩

set_option maxRecDepth 100000 in
set_option maxHeartbeats 8000000 in
set_option maxRecDepth 100000 in
theorem rfnew_lo (s : ByteArray) (w : World) (hs : s.size ≤ 1048576) : Calls Tryz.prog 24 #[.string s, .bool false] w fun e w' =>
    ∃ b F, e = .returned (.pointer (some ⟨b, 0, none⟩)) ∧ RfR w' b F (allBits s false (8 * s.size)) 0 ∧ Fr w [] F ∧ Ext [] w w' := by
  obtain ⟨i0, hi, hz0, hz1, hz2⟩ := info_parts infoByte
  have S0 : Sep w (w.alloc (rfr (.slice none 0 0) 0)) [oRf w.heap.size [w.heap.size] (allBits s false (8 * 0)) 0] :=
    (Sep.start w).new ((Ext.refl _ w).alloc _) (oRf w.heap.size [w.heap.size] (allBits s false (8 * 0)) 0) ⟨.slice none 0 0, heap_alloc_at _, World.ownsRow_nil _ _ _ _, rfl, by simp [Value.ownBlock]⟩ (fun k hk => by rw [List.mem_singleton.1 hk]; exact Nat.le_refl _)
  have H0 := Lib.hid S0
  clear S0
  go_enter Tryz.func24, Tryz.ntmps24
  go_wp2_with fail
  go_loopg [6] s.size (fun g i wr => ∃ k : Nat, g + k = s.size ∧ i = .int .i64 k ∧ ∃ F, Sep w wr [oRf w.heap.size F (allBits s false (8 * k)) 0])
  case atStart => exact ⟨0, by omega, rfl, _, H0.out⟩
  case round =>
    clear H0
    obtain ⟨i, hi8, rfl, F, S⟩ := hrel
    by_cases hlt : i < s.size
    · go_wp2_with fail
      go_loopg [7] 8 (fun g i' wr => ∃ k : Nat, g + k = 8 ∧ i' = .int .i64 k ∧ ∃ F, Sep w wr [oRf w.heap.size F (allBits s false (8 * i + k)) 0])
      case atStart => exact ⟨0, by omega, rfl, _, S⟩
      case round =>
        clear S
        obtain ⟨k, hk8, rfl, F, S⟩ := hrel
        by_cases hk : k < 8
        · have eb := bit8_lo s i k hlt hk
          have hbit := bit_le s false (8 * i + k)
          have hll := allBits_length s false (8 * i + k)
          obtain ⟨v, hb, hown, hF, hne⟩ := S.get 0 rfl
          generalize hn0 : (allBits s false (8 * i + k)).length = n0 at hown hll
          have Hn0 := Lib.hid hn0
          have HS := Lib.hid S
          have HF := Lib.hid hF
          have hb255 : ((s[i]'hlt).toNat : Int) ≤ 255 := by have := (s[i]'hlt).toNat_lt; omega
          clear hn0 S hF
          have hn1 : n0 ≤ 16777216 := by omega
          have Hll := Lib.hid hll
          clear hll
          have Heb := Lib.hid eb
          clear eb
          go_wp2_with fail
          have eb := Heb.out
          refine wp_region_mid (C := fun w' => ∃ x : ExS v.ownBlock.toList wr, w' = x.w) 12 2 (by kernel_rfl) (by kernel_rfl) ⟨ExS.mk _ ((Ext.refl _ wr).drew), rfl⟩ ?_
          simp only [List.take_succ_cons, List.take_zero, List.drop_succ_cons, List.drop_zero]
          have c0 : ∀ x : ExS v.ownBlock.toList wr, x.w.cell? ⟨w.heap.size, 0, none⟩ = some v := fun x => cellOf (x.heap hb (by simpa using hne)) 0
          have i1 : (0 : Int) ≤ (i : Int) := by omega
          have i2 : (i : Int) < (s.size : Int) := by omega
          repeat (go_big_quiet_step (fail))
          refine wpQuiet_nil ?_
          refine midW_step rfl (fun K hK => ?_)
          go_wp2_with fail
          refine ⟨⟨ExS.mk _ ((Ext.refl _ wr).drew.alloc _), rfl⟩, ?_⟩
          refine midW_step rfl (fun K hK => ?_)
          refine wp_append_lies _ _ _ 29 rfl 0 5 i0 _ 1 1 Tryz.underlying29 hi hz0 hz1 hz2 rfl (by decide) v n0 _ rfl ((hown.alloc _).drew) ⟨wr.heap.size, 0, none⟩ 1 1 [.int .u8 ((bit s false (8 * i + k) : Nat) : Int)] rfl rfl (cell_one_new _ _ _) (by simp [Value.oneCell']) (by decide) (by unfold maxLen; omega) (by omega) (by omega) (wr.heap.size + 1) (by simp) ?_
          intro g cap w1 hown1 hgrow hat hlt
          have hg2 : (wr.alloc (.cells #[.int .u8 ((bit s false (8 * i + k) : Nat) : Int)] 5)).grownBy w1 v.ownBlock := ⟨hgrow.os, hgrow.tape, hgrow.output, hgrow.size, hgrow.block⟩
          have hb1 : w1.heap[w.heap.size]? = some (rfr v 0) := grown_keep hg2 (heap_alloc_old _ hb) hne
          have P := push_field hb hne hown1 hg2 hat 0
          have HP := Lib.hid P
          refine hK _ _ ⟨⟨ExS.mk w1 (((Ext.refl _ wr).alloc _).grown hg2 (fun q hq => .inl (by simp [hq]))), rfl⟩, ?_⟩
          clear hK K c0 P hgrow hat hlt hown hg2
          refine midW_nil ?_
          have d0 := cellOf hb1 0
          have d1 := freeOf hb1 0
          clear hb1
          go_wp2_with fail
          refine NoPanic.normal ?_
          go_wp2_with fail
          go_roundg (8 - (k + 1))
          case measure => omega
          case rel =>
            obtain ⟨p1, p2, p3, p4, p5⟩ := HP.out
            have e := HF.out
            subst e
            refine ⟨k + 1, by omega, by go_num, [w.heap.size, g], HS.out.upd 0 (oRf w.heap.size [w.heap.size, g] (allBits s false (8 * i + (k + 1))) 0) rfl p3 p5 ⟨.slice (some ⟨g, 0, none⟩) (n0 + 1) cap, p1, ?_, rfl, fun e => p4 (by simpa [Value.ownBlock] using e)⟩⟩
            rw [show 8 * i + (k + 1) = (8 * i + k) + 1 by omega, allBits_succ, List.length_append, Hn0.out, List.map_append]
            exact p2
        · have hk' : k = 8 := by omega
          subst hk'
          go_wp2_with fail
          go_roundg (s.size - (i + 1))
          case measure => omega
          case rel => exact ⟨i + 1, by omega, by go_num, F, S⟩
    · have e : i = s.size := by omega
      subst e
      obtain HS := Lib.hid S
      clear S
      go_wp2_with fail
      go_ret
      have S := HS.out
      exact ⟨w.heap.size, F, rfl, S.get 0 rfl, fun q hq => .inr (S.base (oRf w.heap.size F (allBits s false (8 * s.size)) 0) (by simp) q hq), S.ext⟩


theorem getv_u32 (s : ByteArray) (hi : Bool) (a n : Nat) (hn : n ≤ 32) : getv s hi a n < 2 ^ 32 :=
  Nat.lt_of_lt_of_le (getv_lt s hi a n) (Nat.pow_le_pow_right (by omega) hn)
/-- the bits l[a], l[a + 1] .. as a number -/
def valOf (hi : Bool) (f : Nat → Nat) : Nat → Nat
  | 0 => 0
  | n + 1 => if hi then 2 * valOf hi f n + f n else valOf hi f n + f n * 2 ^ n
theorem valOf_getv (s : ByteArray) (hi : Bool) (a : Nat) (f : Nat → Nat) : ∀ n, (∀ i, i < n → f i = bit s hi (a + i)) → valOf hi f n = getv s hi a n
  | 0, _ => rfl
  | n + 1, h => by
    unfold valOf getv
    rw [valOf_getv s hi a f n (fun i hi' => h i (by omega)), h n (by omega)]
theorem valOf_lt (hi : Bool) (f : Nat → Nat) (h : ∀ i, f i ≤ 1) : ∀ n, valOf hi f n < 2 ^ n
  | 0 => by simp [valOf]
  | n + 1 => by
    have ih := valOf_lt hi f h n
    have hb := h n
    have h2 : 2 ^ (n + 1) = 2 * 2 ^ n := by rw [Nat.pow_succ]; omega
    have : f n * 2 ^ n ≤ 1 * 2 ^ n := Nat.mul_le_mul_right _ hb
    unfold valOf
    split <;> omega

set_option maxRecDepth 100000 in
set_option maxHeartbeats 4000000 in
theorem rfvalue_hi (g off n cap : Nat) (f : Nat → Nat) (w : World) (hf : ∀ i, f i ≤ 1) (hn : n ≤ 32) (hc : ∀ i, i < n → w.cell? ⟨g, off + i, none⟩ = some (.int .u8 (f i : Int))) :
    Calls Tryz.prog 82 #[.slice (some ⟨g, off, none⟩) n cap, .bool true] w fun e w' => e = .returned (.int .u32 (valOf true f n)) ∧ w = w' := by
  go_enter Tryz.func82, Tryz.ntmps82
  go_wp2_with fail
  go_loopg [5, 6] n (fun g v i wr => ∃ k : Nat, g + k = n ∧ i = .int .i64 k ∧ v = .int .u32 (valOf true f k) ∧ wr = w)
  case atStart => exact ⟨0, by omega, rfl, rfl, rfl⟩
  case round =>
    obtain ⟨k, hk, rfl, rfl, rfl⟩ := hrel
    by_cases hkn : k < n
    · have hck := hc k hkn
      have hfk := hf k
      have hv := valOf_lt true f hf k
      have hp : 2 ^ k ≤ 2 ^ 31 := Nat.pow_le_pow_right (by omega) (by omega)
      clear hc
      go_wp2_with fail
      go_roundg (n - (k + 1))
      case measure => omega
      case rel => exact ⟨k + 1, by omega, by go_num, by rw [valOf, if_pos rfl]; go_num, rfl⟩
    · have e : k = n := by omega
      subst e
      clear hc
      go_wp2_with fail
      go_ret
      exact ⟨rfl, rfl⟩

set_option maxRecDepth 100000 in
set_option maxHeartbeats 4000000 in
theorem rfvalue_lo (g off n cap : Nat) (f : Nat → Nat) (w : World) (hf : ∀ i, f i ≤ 1) (hn : n ≤ 32) (hc : ∀ i, i < n → w.cell? ⟨g, off + i, none⟩ = some (.int .u8 (f i : Int))) :
    Calls Tryz.prog 82 #[.slice (some ⟨g, off, none⟩) n cap, .bool false] w fun e w' => e = .returned (.int .u32 (valOf false f n)) ∧ w = w' := by
  go_enter Tryz.func82, Tryz.ntmps82
  go_wp2_with fail
  go_loopg [5, 6] n (fun g v i wr => ∃ k : Nat, g + k = n ∧ i = .int .i64 k ∧ v = .int .u32 (valOf false f k) ∧ wr = w)
  case atStart => exact ⟨0, by omega, rfl, rfl, rfl⟩
  case round =>
    obtain ⟨k, hk, rfl, rfl, rfl⟩ := hrel
    by_cases hkn : k < n
    · have hck := hc k hkn
      have hfk := hf k
      have hv := valOf_lt false f hf k
      have hp : 2 ^ k ≤ 2 ^ 31 := Nat.pow_le_pow_right (by omega) (by omega)
      have hm : f k * 2 ^ k ≤ 1 * 2 ^ k := Nat.mul_le_mul_right _ hfk
      have e : ((f k * 2 ^ k : Nat) : Int) = (f k : Int) * 2 ^ k := by push_cast; rfl
      have m0 : 0 ≤ (f k : Int) * 2 ^ k := by omega
      have m1 : (f k : Int) * 2 ^ k ≤ 2147483648 := by omega
      have m2 : (valOf false f k : Int) + (f k : Int) * 2 ^ k ≤ 4294967295 := by omega
      have E := Lib.hid e
      clear e hm hp hc
      go_wp2_with fail
      go_roundg (n - (k + 1))
      case measure => omega
      case rel => exact ⟨k + 1, by omega, by go_num, by rw [valOf, if_neg (by decide)]; rw [← E.out]; go_num, rfl⟩
    · have e : k = n := by omega
      subst e
      clear hc
      go_wp2_with fail
      go_ret
      exact ⟨rfl, rfl⟩

theorem rfget_arg (b : Nat) (n : Int) (hi : Bool) (w : World) (hn : n < 0 ∨ 32 < n) :
    Calls Tryz.prog 53 #[.pointer (some ⟨b, 0, none⟩), .int .i64 n, .bool hi] w fun e w' => e = .returned (.tuple #[.int .u32 0, .int .i64 2]) ∧ w = w' := by
  rcases hn with hn | hn
  · go_enter Tryz.func53, Tryz.ntmps53
    go_wp2_with fail
    go_ret2
    exact ⟨rfl, rfl⟩
  · have hn' : ¬ n < 0 := by omega
    go_enter Tryz.func53, Tryz.ntmps53
    go_wp2_with fail
    go_ret2
    exact ⟨rfl, rfl⟩
theorem rfget_more (b : Nat) (F L : List Nat) (N n : Nat) (hi : Bool) (w : World) (hL : L.length < 2 ^ 40) (hN : N ≤ L.length) (hn : n ≤ 32) (hm : L.length < N + n) (h : RfR w b F L N) :
    Calls Tryz.prog 53 #[.pointer (some ⟨b, 0, none⟩), .int .i64 n, .bool hi] w fun e w' => e = .returned (.tuple #[.int .u32 0, .int .i64 8]) ∧ Ext [] w w' := by
  go_enter Tryz.func53, Tryz.ntmps53
  go_wp2_with (first | (go_at_call 81; refine (rfleft b F L N _ hL hN h).mono ?_; rintro e w1 ⟨rfl, hx⟩))
  go_ret2
  exact ⟨rfl, hx⟩
theorem rfvalue_zero (ao : Option Addr) (cap : Nat) (hi : Bool) (w : World) :
    Calls Tryz.prog 82 #[.slice ao 0 cap, .bool hi] w fun e w' => e = .returned (.int .u32 0) ∧ w = w' := by
  go_enter Tryz.func82, Tryz.ntmps82
  go_wp2_with fail
  refine wp_loop_once ?_
  go_wp2_with fail
  go_ret
  exact ⟨rfl, rfl⟩
theorem Calls.same_ext {P : Program} {f : FuncId} {args : Array Value} {w : World} {v : Value} (h : Calls P f args w fun e w' => e = .returned v ∧ w = w') : Calls P f args w fun e w' => e = .returned v ∧ Ext [] w w' :=
  h.mono fun _ _ ⟨he, hw⟩ => ⟨he, hw ▸ Ext.refl _ _⟩
theorem rfvalue_zero_x (ao : Option Addr) (cap : Nat) (hi : Bool) (w : World) : Calls Tryz.prog 82 #[.slice ao 0 cap, .bool hi] w fun e w' => e = .returned (.int .u32 0) ∧ Ext [] w w' :=
  Calls.same_ext (rfvalue_zero ao cap hi w)
theorem rfvalue_hi_x (g off n cap : Nat) (f : Nat → Nat) (w : World) (hf : ∀ i, f i ≤ 1) (hn : n ≤ 32) (hc : ∀ i, i < n → w.cell? ⟨g, off + i, none⟩ = some (.int .u8 (f i : Int))) :
    Calls Tryz.prog 82 #[.slice (some ⟨g, off, none⟩) n cap, .bool true] w fun e w' => e = .returned (.int .u32 (valOf true f n)) ∧ Ext [] w w' :=
  Calls.same_ext (rfvalue_hi g off n cap f w hf hn hc)
theorem rfvalue_lo_x (g off n cap : Nat) (f : Nat → Nat) (w : World) (hf : ∀ i, f i ≤ 1) (hn : n ≤ 32) (hc : ∀ i, i < n → w.cell? ⟨g, off + i, none⟩ = some (.int .u8 (f i : Int))) :
    Calls Tryz.prog 82 #[.slice (some ⟨g, off, none⟩) n cap, .bool false] w fun e w' => e = .returned (.int .u32 (valOf false f n)) ∧ Ext [] w w' :=
  Calls.same_ext (rfvalue_lo g off n cap f w hf hn hc)
theorem RfR.set {w : World} {b : Nat} {v : Value} {L : List Nat} {N : Nat} (m : Nat) (hb : w.heap[b]? = some (rfr v N)) (hown : w.ownsRow 0 5 1 v L.length (L.map b8)) (hne : v.ownBlock ≠ some b) :
    RfR (w.setCell ⟨b, 1, none⟩ (.int .i64 (m : Int))) b (b :: v.ownBlock.toList) L m := by
  refine ⟨v, ?_, ownsRow_setCell_other hown (fun e => hne (by simpa using e)) _, rfl, hne⟩
  rw [heap_setCell_same hb]
  simp [rfr]

set_option maxRecDepth 100000 in
set_option maxHeartbeats 4000000 in
theorem rfget_ok_hi (b : Nat) (F L : List Nat) (N n : Nat) (w : World) (hL : L.length < 2 ^ 40) (hB : Bin L) (hn : n ≤ 32) (hm : N + n ≤ L.length) (h : RfR w b F L N) :
    Calls Tryz.prog 53 #[.pointer (some ⟨b, 0, none⟩), .int .i64 n, .bool true] w fun e w' => e = .returned (.tuple #[.int .u32 (valOf true (fun i => L.getD (N + i) 0) n), .int .i64 0]) ∧ RfR w' b F L (N + n) ∧ Ext F w w' := by
  go_enter Tryz.func53, Tryz.ntmps53
  go_wp2_with (first | (go_at_call 81; refine (rfleft b F L N _ hL (by omega) h).mono ?_; rintro e w1 ⟨rfl, hx⟩))
  have h1 := (oRf b F L N).ok h hx (by simp)
  obtain ⟨v, hb, hown, hF, hne⟩ := h1
  have c1 : ∀ x : Ex w1, x.w.cell? ⟨b, 1, none⟩ = some (.int .i64 (N : Int)) := fun x => cellOf (x.heap hb) 1
  have e1 : IntKind.i64.wrap ((N : Int) + (n : Int)) = (N : Int) + (n : Int) := IntWalk.i64_in _ (by omega)
  by_cases hn0 : n = 0
  · have hz : ∃ ao cap, v = .slice ao L.length cap ∧ N ≤ cap ∧ cap ≤ 9223372036854775807 := by
      rcases hown.2 with ⟨rfl, h00⟩ | ⟨g, cap, cur, rfl, _, hg, hnc, hcm, hcs, htake⟩
      · exact ⟨none, 0, by rw [h00], by omega, by omega⟩
      · unfold maxLen at hcm
        exact ⟨_, cap, rfl, by omega, by omega⟩
    obtain ⟨ao, cap, hv, hNc, hcc⟩ := hz
    have c0 : ∀ x : Ex w1, x.w.cell? ⟨b, 0, none⟩ = some (.slice ao L.length cap) := fun x => by rw [← hv]; exact cellOf (x.heap hb) 0
    have HT := Lib.hid (And.intro hF (And.intro hown (And.intro hb (And.intro hne hx))))
    clear hF hown hb hne hx h hv
    subst hn0
    have e2 : IntKind.i64.wrap ((N : Int) + 0) = (N : Int) := by rw [Int.add_zero]; exact IntWalk.i64_in _ (by omega)
    refine wp_region_ext (by kernel_rfl) (by kernel_rfl) ?_
    repeat (go_big_quiet_step ((go_at_call 82; refine Calls.ext_of (rfvalue_zero_x _ _ _ _))))
    refine wpQuiet_nil ?_
    rintro _ ⟨x, rfl⟩
    clear c0 c1 e1
    obtain ⟨hF, hown, hb, hne, hx⟩ := HT.out
    have d1 : x.w.cell? ⟨b, 1, none⟩ = some (.int .i64 (N : Int)) := cellOf (x.heap hb) 1
    have d2 : x.w.frozen? ⟨b, 1, none⟩ = false := freeOf (x.heap hb) 1
    have H2 := Lib.hid (RfR.set (N + 0) (x.heap hb) (ownsRow_ext hown x.ext (by simp)) hne)
    have HX := Lib.hid ((hx.weak (S := F)).trans x.ext.weak)
    clear hF hown hb hne hx
    go_wp2_with fail
    all_goals
      go_ret2
      obtain ⟨hF, hown, hb, hne, hx⟩ := HT.out
      subst hF
      exact ⟨rfl, H2.out, HX.out.setCell _ _ (by simp)⟩
  · obtain ⟨g, cap, rfl, _, hg⟩ := hown.form (by omega)
    obtain ⟨cur, _, hnc, hcm, _, _⟩ := ownsRow_open hown
    unfold maxLen at hcm
    have hcN : ¬ cap = N := by omega
    have c0 : ∀ x : Ex w1, x.w.cell? ⟨b, 0, none⟩ = some (.slice (some ⟨g, 0, none⟩) L.length cap) := fun x => cellOf (x.heap hb) 0
    have hcell : ∀ (x : Ex w1) (i : Nat), i < n → x.w.cell? ⟨g, N + i, none⟩ = some (.int .u8 (L.getD (N + i) 0 : Int)) := fun x i hi => by
      refine x.cell (ownsRow_at (i := N + i) (u := b8 (L.getD (N + i) 0)) hown ?_)
      rw [List.getElem?_map, List.getElem?_eq_getElem (by omega), List.getD_eq_getElem?_getD, List.getElem?_eq_getElem (by omega)]
      rfl
    have Hcell := Lib.hid hcell
    have hbit : ∀ i, L.getD (N + i) 0 ≤ 1 := fun i => hB.getD _
    have HT := Lib.hid (And.intro hF (And.intro hown (And.intro hb (And.intro hne (And.intro hx hbit)))))
    clear hF hown hb hne hx h hcell hbit
    refine wp_region_ext (by kernel_rfl) (by kernel_rfl) ?_
    repeat (go_big_quiet_step ((go_at_call 82; refine Calls.ext_of (rfvalue_hi_x g N n _ (fun i => L.getD (N + i) 0) _ HT.out.2.2.2.2.2 hn (fun i hi => Hcell.out _ i hi)))))
    refine wpQuiet_nil ?_
    rintro _ ⟨x, rfl⟩
    clear c0 c1 e1
    obtain ⟨hF, hown, hb, hne, hx, hbit⟩ := HT.out
    have d1 : x.w.cell? ⟨b, 1, none⟩ = some (.int .i64 (N : Int)) := cellOf (x.heap hb) 1
    have d2 : x.w.frozen? ⟨b, 1, none⟩ = false := freeOf (x.heap hb) 1
    have H2 := Lib.hid (RfR.set (N + n) (x.heap hb) (ownsRow_ext hown x.ext (by simp)) hne)
    have HX := Lib.hid ((hx.weak (S := F)).trans x.ext.weak)
    have hvl : valOf true (fun i => L.getD (N + i) 0) n < 2 ^ n := valOf_lt _ _ hbit n
    have hp : 2 ^ n ≤ 2 ^ 32 := Nat.pow_le_pow_right (by omega) (by omega)
    clear hF hown hb hne hx hbit
    go_wp2_with fail
    go_ret2
    obtain ⟨hF, hown, hb, hne, hx, hbit⟩ := HT.out
    subst hF
    exact ⟨rfl, H2.out, HX.out.setCell _ _ (by simp)⟩

set_option maxRecDepth 100000 in
set_option maxHeartbeats 4000000 in
theorem rfget_ok_lo (b : Nat) (F L : List Nat) (N n : Nat) (w : World) (hL : L.length < 2 ^ 40) (hB : Bin L) (hn : n ≤ 32) (hm : N + n ≤ L.length) (h : RfR w b F L N) :
    Calls Tryz.prog 53 #[.pointer (some ⟨b, 0, none⟩), .int .i64 n, .bool false] w fun e w' => e = .returned (.tuple #[.int .u32 (valOf false (fun i => L.getD (N + i) 0) n), .int .i64 0]) ∧ RfR w' b F L (N + n) ∧ Ext F w w' := by
  go_enter Tryz.func53, Tryz.ntmps53
  go_wp2_with (first | (go_at_call 81; refine (rfleft b F L N _ hL (by omega) h).mono ?_; rintro e w1 ⟨rfl, hx⟩))
  have h1 := (oRf b F L N).ok h hx (by simp)
  obtain ⟨v, hb, hown, hF, hne⟩ := h1
  have c1 : ∀ x : Ex w1, x.w.cell? ⟨b, 1, none⟩ = some (.int .i64 (N : Int)) := fun x => cellOf (x.heap hb) 1
  have e1 : IntKind.i64.wrap ((N : Int) + (n : Int)) = (N : Int) + (n : Int) := IntWalk.i64_in _ (by omega)
  by_cases hn0 : n = 0
  · have hz : ∃ ao cap, v = .slice ao L.length cap ∧ N ≤ cap ∧ cap ≤ 9223372036854775807 := by
      rcases hown.2 with ⟨rfl, h00⟩ | ⟨g, cap, cur, rfl, _, hg, hnc, hcm, hcs, htake⟩
      · exact ⟨none, 0, by rw [h00], by omega, by omega⟩
      · unfold maxLen at hcm
        exact ⟨_, cap, rfl, by omega, by omega⟩
    obtain ⟨ao, cap, hv, hNc, hcc⟩ := hz
    have c0 : ∀ x : Ex w1, x.w.cell? ⟨b, 0, none⟩ = some (.slice ao L.length cap) := fun x => by rw [← hv]; exact cellOf (x.heap hb) 0
    have HT := Lib.hid (And.intro hF (And.intro hown (And.intro hb (And.intro hne hx))))
    clear hF hown hb hne hx h hv
    subst hn0
    have e2 : IntKind.i64.wrap ((N : Int) + 0) = (N : Int) := by rw [Int.add_zero]; exact IntWalk.i64_in _ (by omega)
    refine wp_region_ext (by kernel_rfl) (by kernel_rfl) ?_
    repeat (go_big_quiet_step ((go_at_call 82; refine Calls.ext_of (rfvalue_zero_x _ _ _ _))))
    refine wpQuiet_nil ?_
    rintro _ ⟨x, rfl⟩
    clear c0 c1 e1
    obtain ⟨hF, hown, hb, hne, hx⟩ := HT.out
    have d1 : x.w.cell? ⟨b, 1, none⟩ = some (.int .i64 (N : Int)) := cellOf (x.heap hb) 1
    have d2 : x.w.frozen? ⟨b, 1, none⟩ = false := freeOf (x.heap hb) 1
    have H2 := Lib.hid (RfR.set (N + 0) (x.heap hb) (ownsRow_ext hown x.ext (by simp)) hne)
    have HX := Lib.hid ((hx.weak (S := F)).trans x.ext.weak)
    clear hF hown hb hne hx
    go_wp2_with fail
    all_goals
      go_ret2
      obtain ⟨hF, hown, hb, hne, hx⟩ := HT.out
      subst hF
      exact ⟨rfl, H2.out, HX.out.setCell _ _ (by simp)⟩
  · obtain ⟨g, cap, rfl, _, hg⟩ := hown.form (by omega)
    obtain ⟨cur, _, hnc, hcm, _, _⟩ := ownsRow_open hown
    unfold maxLen at hcm
    have hcN : ¬ cap = N := by omega
    have c0 : ∀ x : Ex w1, x.w.cell? ⟨b, 0, none⟩ = some (.slice (some ⟨g, 0, none⟩) L.length cap) := fun x => cellOf (x.heap hb) 0
    have hcell : ∀ (x : Ex w1) (i : Nat), i < n → x.w.cell? ⟨g, N + i, none⟩ = some (.int .u8 (L.getD (N + i) 0 : Int)) := fun x i hi => by
      refine x.cell (ownsRow_at (i := N + i) (u := b8 (L.getD (N + i) 0)) hown ?_)
      rw [List.getElem?_map, List.getElem?_eq_getElem (by omega), List.getD_eq_getElem?_getD, List.getElem?_eq_getElem (by omega)]
      rfl
    have Hcell := Lib.hid hcell
    have hbit : ∀ i, L.getD (N + i) 0 ≤ 1 := fun i => hB.getD _
    have HT := Lib.hid (And.intro hF (And.intro hown (And.intro hb (And.intro hne (And.intro hx hbit)))))
    clear hF hown hb hne hx h hcell hbit
    refine wp_region_ext (by kernel_rfl) (by kernel_rfl) ?_
    repeat (go_big_quiet_step ((go_at_call 82; refine Calls.ext_of (rfvalue_lo_x g N n _ (fun i => L.getD (N + i) 0) _ HT.out.2.2.2.2.2 hn (fun i hi => Hcell.out _ i hi)))))
    refine wpQuiet_nil ?_
    rintro _ ⟨x, rfl⟩
    clear c0 c1 e1
    obtain ⟨hF, hown, hb, hne, hx, hbit⟩ := HT.out
    have d1 : x.w.cell? ⟨b, 1, none⟩ = some (.int .i64 (N : Int)) := cellOf (x.heap hb) 1
    have d2 : x.w.frozen? ⟨b, 1, none⟩ = false := freeOf (x.heap hb) 1
    have H2 := Lib.hid (RfR.set (N + n) (x.heap hb) (ownsRow_ext hown x.ext (by simp)) hne)
    have HX := Lib.hid ((hx.weak (S := F)).trans x.ext.weak)
    have hvl : valOf false (fun i => L.getD (N + i) 0) n < 2 ^ n := valOf_lt _ _ hbit n
    have hp : 2 ^ n ≤ 2 ^ 32 := Nat.pow_le_pow_right (by omega) (by omega)
    clear hF hown hb hne hx hbit
    go_wp2_with fail
    go_ret2
    obtain ⟨hF, hown, hb, hne, hx, hbit⟩ := HT.out
    subst hF
    exact ⟨rfl, H2.out, HX.out.setCell _ _ (by simp)⟩

end Go.Proofs.YtapcfffmgdpmcaaGreat.Bt

/-! BitsRefW: What the reference's bit writer does, function by function (pagemenderref06: Put, Align, Text). -/
namespace Go.Proofs.YtapcfffmgdpmcaaGreat.Bt
open Go.RowKit

end Go.Proofs.YtapcfffmgdpmcaaGreat.Bt

/-! BitsRefT: What the reference's bit writer tells as its text (pagemenderref06: Writer.Text). -/
namespace Go.Proofs.YtapcfffmgdpmcaaGreat.Bt
open Go.RowKit

theorem cut_getD (L : List Nat) (a k i : Nat) : ((L.drop a).take k).getD i 0 = if i < k then L.getD (a + i) 0 else 0 := by
  simp only [List.getD_eq_getElem?_getD, List.getElem?_take, List.getElem?_drop]
  split <;> rfl
def part (hi : Bool) (L : List Nat) (j k : Nat) : Nat := byteOf hi ((L.drop (8 * j)).take k) 0
theorem part_zero (hi : Bool) (L : List Nat) (j : Nat) : part hi L j 0 = 0 := by simp [part, byteOf]
theorem part_succ (hi : Bool) (L : List Nat) (j k : Nat) (hB : Bin L) (hk : k < 8) (h : 8 * j + k < L.length) : part hi L j (k + 1) = part hi L j k ||| L.getD (8 * j + k) 0 * wt hi k := by
  have hl : ((L.drop (8 * j)).take k).length = k := by simp; omega
  have e : (L.drop (8 * j)).take (k + 1) = (L.drop (8 * j)).take k ++ [L.getD (8 * j + k) 0] := by
    rw [List.take_succ_eq_append_getElem (by simp; omega)]
    simp [List.getD_eq_getElem?_getD, h]
  have h1 := byteOf_snoc_new hi ((L.drop (8 * j)).take k) (L.getD (8 * j + k) 0) (fun x hx => hB x (List.mem_of_mem_drop (List.mem_of_mem_take hx))) (hB.getD _)
  rw [hl, show k / 8 = 0 by omega, show k % 8 = k by omega] at h1
  unfold part
  rw [e, h1]
theorem part_end (hi : Bool) (L : List Nat) (j k : Nat) (h : 8 ≤ k ∨ L.length ≤ 8 * j + k) : part hi L j k = byteOf hi L j := by
  have hz : ∀ i, i < 8 → ((L.drop (8 * j)).take k).getD (8 * 0 + i) 0 = L.getD (8 * j + i) 0 := fun i hi8 => by
    rw [cut_getD]
    split
    · rw [Nat.mul_zero, Nat.zero_add]
    · rw [getD_ge _ _ (by omega)]
  have h0 := hz 0 (by omega)
  rw [Nat.add_zero, Nat.add_zero] at h0
  unfold part byteOf
  rw [h0, hz 1 (by omega), hz 2 (by omega), hz 3 (by omega), hz 4 (by omega), hz 5 (by omega), hz 6 (by omega), hz 7 (by omega)]
theorem part_lt (hi : Bool) (L : List Nat) (j k : Nat) (hB : Bin L) : part hi L j k < 256 := byteOf_lt _ _ (fun x hx => hB x (List.mem_of_mem_drop (List.mem_of_mem_take hx))) _
theorem packB_take (hi : Bool) (L : List Nat) (j : Nat) (h : 8 * j < L.length) : (packB hi L).take (j + 1) = (packB hi L).take j ++ [byteOf hi L j] := by
  rw [List.take_succ_eq_append_getElem (by rw [packB_length]; omega)]
  have := packB_get hi L j (by omega)
  rw [List.getElem?_eq_getElem (by rw [packB_length]; omega)] at this
  rw [Option.some.inj this]

theorem shl_hi (x r : Nat) (hb : x ≤ 1) : (x : Int) * 2 ^ (7 - r) % 256 = ((x * wt true r : Nat) : Int) := by
  have hp : 2 ^ (7 - r) ≤ 2 ^ 7 := Nat.pow_le_pow_right (by omega) (by omega)
  have h1 : x * 2 ^ (7 - r) ≤ 128 := by have := Nat.mul_le_mul hb hp; omega
  have e : ((x : Int) * 2 ^ (7 - r)) = ((x * 2 ^ (7 - r) : Nat) : Int) := by push_cast; rfl
  rw [e]
  simp only [wt, if_true]
  omega
theorem shl_lo (x r : Nat) (hb : x ≤ 1) (hr : r < 8) : (x : Int) * 2 ^ r % 256 = ((x * wt false r : Nat) : Int) := by
  have hp : 2 ^ r ≤ 2 ^ 7 := Nat.pow_le_pow_right (by omega) (by omega)
  have h1 : x * 2 ^ r ≤ 128 := by have := Nat.mul_le_mul hb hp; omega
  have e : ((x : Int) * 2 ^ r) = ((x * 2 ^ r : Nat) : Int) := by push_cast; rfl
  rw [e]
  simp only [wt, Bool.false_eq_true, if_false]
  omega
end Go.Proofs.YtapcfffmgdpmcaaGreat.Bt
