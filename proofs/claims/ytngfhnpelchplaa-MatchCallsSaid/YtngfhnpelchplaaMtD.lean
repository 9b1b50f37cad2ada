/-
  match: 'know' walked.
-/
import Derived.Test.YtngfhnpelchplaaMtC
import Derived.Laws.AppendOwn
namespace Go.Proofs.Ytngfhnpelchplaa.Mt
open Go.RowKit Go.Maps Go.WideElems Go.ChangeMaps Go.WideShapes Go.ChangeShapes
attribute [local go_sem] Oper.semAt_some

theorem infoInt : (Try.prog.info? 3).map (fun i => (i.zero, i.size, i.bytes)) = some (some (.int .i64 0), 1, 8) := by kernel_rfl
section
variable {P : Program} {Q : Exit → Go.Act → World → Prop}
theorem wp_entry_run {o : Oper} {a : Go.Act} {w w' : World} {K : Go.Act → World → Prop} (t : TypeId) (m k : Operand) (ho : o.op = .mapEntry t m k) {mv kv v : Value} (hm : a.eval m = mv) (hk : a.eval k = kv) (hr : (Instr.mapEntry t mv kv).run P w = .ok v w') (h : K (a.put o.dst v) w') : o.wp P a w K Q := by
  unfold Oper.wp
  simp [execOp, ho, hm, hk, hr, Result.andThen]
  exact h
theorem wp_store_run {o : Oper} {a : Go.Act} {w w' : World} {K : Go.Act → World → Prop} (t : TypeId) (m s x : Operand) (ho : o.op = .entryStore t m s x) {mv sv v : Value} (hm : a.eval m = mv) (hs : a.eval s = sv) (hx : a.eval x = v) (hr : (Instr.entryStore t mv sv v).run P w = .ok () w') (h : K (a.put o.dst undef) w') : o.wp P a w K Q := by
  unfold Oper.wp
  simp [execOp, ho, hm, hs, hx, hr, Result.andThen]
  exact h
end
def oFi (fb mb : Nat) (F : List Nat) (s : ByteArray) (i : Nat) : Ob where
  F := fb :: mb :: F
  P := fun w => w.heap[fb]? = some (finder s mb (i : Int)) ∧ (oPl mb F s i).P w ∧ fb ≠ mb ∧ fb ∉ F
  ok := fun h hx hS => ⟨hx.keep h.1 (hS _ (by simp)), (oPl mb F s i).ok h.2.1 hx (fun k hk => hS k (List.mem_cons_of_mem _ hk)), h.2.2⟩
  lt := fun h k hk => by
    rcases List.mem_cons.1 hk with rfl | hk
    · exact lt_of_block h.1
    · exact (oPl mb F s i).lt h.2.1 k hk
def TwoW (b : Nat) (o : Obj) (b' : Nat) (o' : Obj) : Type := { w : World // w.heap[b]? = some o ∧ w.heap[b']? = some o' }
def TwoW.w {b b' : Nat} {o o' : Obj} (x : TwoW b o b' o') : World := x.val
theorem TwoW.h1 {b b' : Nat} {o o' : Obj} (x : TwoW b o b' o') : x.w.heap[b]? = some o := x.property.1
theorem TwoW.h2 {b b' : Nat} {o o' : Obj} (x : TwoW b o b' o') : x.w.heap[b']? = some o' := x.property.2
def TwoW.mk {b b' : Nat} {o o' : Obj} (w : World) (h1 : w.heap[b]? = some o) (h2 : w.heap[b']? = some o') : TwoW b o b' o' := ⟨w, h1, h2⟩
set_option maxRecDepth 100000 in
set_option maxHeartbeats 8000000 in
theorem know_walk (fb mb nx tq : Nat) (F : List Nat) (s : ByteArray) (w : World) (hP : (oFi fb mb F s nx).P w) (hs : s.size ≤ 1048576) (h1 : nx ≤ tq) (h2 : tq ≤ s.size) :
    Calls Try.prog 25 #[.pointer (some ⟨fb, 0, none⟩), .int .i64 tq] w fun e w' => e = .returned (.tuple #[]) ∧ ∃ F', Ext (fb :: mb :: F) w w' ∧ Fr w (fb :: mb :: F) (fb :: mb :: F') ∧ (oFi fb mb F' s tq).P w' := by
  have HP := Lib.hid hP
  clear hP
  go_enter Try.func25, Try.ntmps25
  go_wp2_with fail
  go_loopg [6] (tq - nx) (fun g _ wr => ∃ (i : Nat) (F' : List Nat), g + i = tq ∧ i ≤ tq ∧ Ext (fb :: mb :: F) w wr ∧ Fr w (fb :: mb :: F) (fb :: mb :: F') ∧ (oFi fb mb F' s i).P wr)
  case atStart => exact ⟨nx, F, by omega, h1, Ext.refl _ _, Fr.refl _ _, HP.out⟩
  case round =>
    clear HP
    obtain ⟨i, F', hgi, hit, hx, hfr, hp⟩ := hrel
    have hf := hp.1
    have c2 : wr.cell? ⟨fb, 2, none⟩ = some (.int .i64 i) := cellOf hf 2
    have f2 : wr.frozen? ⟨fb, 2, none⟩ = false := freeOf hf 2
    by_cases hlt : i < tq
    · have j1 : (i : Int) < (tq : Int) := by omega
      by_cases h3 : i + 3 ≤ s.size
      · have HA := Lib.hid (at_yes fb mb i i s wr hf hs h3)
        have HX := Lib.hid (⟨hx, hfr, hp⟩ : _ ∧ _ ∧ _)
        clear hx hfr hp hf
        go_wp2_with fail
        refine HA.out.mono ?_
        clear c2 f2
        rintro e w1 ⟨rfl, hx1⟩
        have hp1 := (oFi fb mb F' s i).ok HX.out.2.2 hx1 (by simp)
        have hf := hp1.1
        unfold keyV kv
        obtain ⟨a, ha⟩ : ∃ a, byteF s i = a := ⟨_, rfl⟩
        obtain ⟨b, hb⟩ : ∃ b, byteF s (i + 1) = b := ⟨_, rfl⟩
        obtain ⟨c, hc⟩ : ∃ c, byteF s (i + 2) = c := ⟨_, rfl⟩
        rw [ha, hb, hc]
        have HB := Lib.hid (⟨ha, hb, hc⟩ : _ ∧ _ ∧ _)
        have HX1 := Lib.hid (⟨hx1, hp1⟩ : _ ∧ _)
        clear ha hb hc hx1 hp1 hf
        go_upto_region 4 with (fail)
        obtain ⟨kb, hkb⟩ : ∃ kb, w1.heap.size = kb := ⟨_, rfl⟩
        obtain ⟨W2, hW2⟩ : ∃ W2, w1.alloc (.cells #[.int .u8 a.toNat, .int .u8 b.toNat, .int .u8 c.toNat] 55) = W2 := ⟨_, rfl⟩
        have hx2 : Ext [] w1 W2 := by rw [← hW2]; exact (Ext.refl _ _).alloc _
        have hk : W2.heap[kb]? = some (.cells #[u8v a, u8v b, u8v c] 55 (0, 0)) := by rw [← hW2, ← hkb]; exact heap_alloc_at _
        have hp2 := (oFi fb mb F' s i).ok HX1.out.2 hx2 (by simp)
        have hkm : kb ≠ mb := fun e => by have := (oPl mb F' s i).lt HX1.out.2.2.1 mb (by simp [oPl]); omega
        have hkF : kb ∉ F' := fun h => by have := (oPl mb F' s i).lt HX1.out.2.2.1 kb (by simp [oPl, h]); omega
        have hf := hp2.1
        rw [hW2, hkb]
        refine wp_region_perm (C := fun w' => ∃ x : TwoW fb (finder s mb (i : Int)) kb (.cells #[u8v a, u8v b, u8v c] 55 (0, 0)), w' = x.w) [0, 1, 2, 3, 4, 5, 6, 7, 8] 14 (by kernel_rfl) (by kernel_rfl) ⟨TwoW.mk W2.drew hf hk, rfl⟩ ?_
        haveI : Nonempty (TwoW fb (finder s mb (i : Int)) kb (.cells #[u8v a, u8v b, u8v c] 55 (0, 0))) := ⟨TwoW.mk W2.drew hf hk⟩
        have c1 : ∀ x : TwoW fb (finder s mb (i : Int)) kb (.cells #[u8v a, u8v b, u8v c] 55 (0, 0)), x.w.cell? ⟨fb, 1, none⟩ = some (.map (some mb)) := fun x => cellOf x.h1 1
        have c2 : ∀ x : TwoW fb (finder s mb (i : Int)) kb (.cells #[u8v a, u8v b, u8v c] 55 (0, 0)), x.w.cell? ⟨fb, 2, none⟩ = some (.int .i64 i) := fun x => cellOf x.h1 2
        have k0 : ∀ x : TwoW fb (finder s mb (i : Int)) kb (.cells #[u8v a, u8v b, u8v c] 55 (0, 0)), x.w.cell? ⟨kb, 0, none⟩ = some (u8v a) := fun x => cellOf x.h2 0
        have k1 : ∀ x : TwoW fb (finder s mb (i : Int)) kb (.cells #[u8v a, u8v b, u8v c] 55 (0, 0)), x.w.cell? ⟨kb, 1, none⟩ = some (u8v b) := fun x => cellOf x.h2 1
        have k2 : ∀ x : TwoW fb (finder s mb (i : Int)) kb (.cells #[u8v a, u8v b, u8v c] 55 (0, 0)), x.w.cell? ⟨kb, 2, none⟩ = some (u8v c) := fun x => cellOf x.h2 2
        simp only [pick, List.getElem?_toArray, List.getElem?_cons_zero, List.getElem?_cons_succ, List.drop_succ_cons, List.drop_zero]
        repeat (go_big_quiet_step (fail))
        refine wpQuiet_nil ?_
        clear c1 c2 k0 k1 k2
        refine anyC_one (f := 4) (i := 9) (by kernel_rfl) (by decide) rfl rfl (fun K hK => ?_)
        go_wp2_with fail
        obtain ⟨ob, hob⟩ : ∃ ob, W2.heap.size = ob := ⟨_, rfl⟩
        obtain ⟨A1, hA1⟩ : ∃ A1, W2.drew.alloc (.cells #[.int .i64 (i : Int)] 3) = A1 := ⟨_, rfl⟩
        have hxa : Ext [] W2 A1 := by rw [← hA1]; exact ((Ext.refl _ W2).drew).alloc _
        have hoa : A1.heap[ob]? = some (.cells #[.int .i64 (i : Int)] 3 (0, 0)) := by rw [← hA1, ← hob]; exact heap_alloc_at _
        have hfa := hxa.keep hf (by simp)
        have hka := hxa.keep hk (by simp)
        have hfa' : (W2.drew.alloc (.cells #[.int .i64 (i : Int)] 3)).heap[fb]? = some (finder s mb (i : Int)) := by rw [hA1]; exact hfa
        have hka' : (W2.drew.alloc (.cells #[.int .i64 (i : Int)] 3)).heap[kb]? = some (.cells #[u8v a, u8v b, u8v c] 55 (0, 0)) := by rw [hA1]; exact hka
        refine hK _ (W2.drew.alloc (.cells #[.int .i64 (i : Int)] 3)) ⟨TwoW.mk _ hfa' hka', rfl⟩ ?_
        clear hK K
        rw [hA1]
        rw [hob]
        have hpa := (oFi fb mb F' s i).ok hp2 hxa (by simp)
        obtain ⟨v0, st, W3, n, xs, he, hx3, hv0, hmF, hn, hrow, hstore⟩ := oPl_entry hpa.2.1 h3 (by omega)
        unfold keyV kv at he
        rw [HB.out.1, HB.out.2.1, HB.out.2.2] at he
        have hf3 := hx3.keep hfa (by simp; exact hpa.2.2.1)
        have hk3 := hx3.keep hka (by simp; exact hkm)
        have hmlt : mb < W2.heap.size := (oPl mb F' s i).lt hp2.2.1 mb (by simp [oPl])
        have ho3 := hx3.keep hoa (by simp; omega)
        refine anyC_one (f := 3) (i := 10) (by kernel_rfl) (by decide) rfl rfl (fun K hK => ?_)
        refine wp_entry_run _ _ _ rfl rfl rfl he ?_
        refine hK _ _ ⟨TwoW.mk _ hf3 hk3, rfl⟩ ?_
        clear hK K he
        obtain ⟨i0, hif, hz0, hz1, hz2⟩ := info_parts infoInt
        obtain ⟨v', w4, hr4, hown4, hgr4, _, hloc4⟩ := run_append_own_at (P := Try.prog) W3 0 58 58 3 i0 (.int .i64 0) 1 8 Try.underlying58 hif hz0 hz1 hz2 rfl (by decide) v0 n xs hrow ⟨ob, 0, none⟩ 1 1 [iv i] rfl (fun j u hu => by
          match j with
          | 0 =>
            have e : (⟨ob, 0, none⟩ : Addr).add 0 = ⟨ob, 0, none⟩ := by unfold Addr.add; split <;> simp_all
            rw [e, cellOf ho3 0, ← hu]
            rfl
          | j + 1 => simp at hu) (by simp [Value.oneCell']) (by unfold maxLen; omega) (by omega) (Nat.zero_le _)
        have hx4 : Ext v0.ownBlock.toList W3 w4 := (Ext.refl _ W3).grown hgr4 (fun k hk => .inl (by simp [hk]))
        have hv0m : ∀ g, v0.ownBlock = some g → g ≠ mb ∧ g ≠ fb ∧ g ≠ kb := fun g hg => ⟨fun e => hmF (e ▸ hv0 g hg), fun e => hpa.2.2.2 (e ▸ hv0 g hg), fun e => hkF (e ▸ hv0 g hg)⟩
        have hf4 := hx4.keep hf3 (fun h => (hv0m fb (by simpa using h)).2.1 rfl)
        have hk4 := hx4.keep hk3 (fun h => (hv0m kb (by simpa using h)).2.2 rfl)
        obtain ⟨w5, hr5, hx5, hp5⟩ := hstore w4 v' (hx4.block mb (Nat.lt_of_lt_of_le hmlt (Nat.le_trans hxa.size hx3.size)) (fun h => (hv0m mb (by simpa using h)).1 rfl)) hx4 hown4 (hloc4.imp id (fun h => ⟨_, h, Nat.le_refl _⟩))
        have hf5 := hx5.keep hf4 (by simp; exact hpa.2.2.1)
        have hv'B : ∀ g, v'.ownBlock = some g → g ∈ F' ∨ W3.heap.size ≤ g := fun g hg => by
          rcases hloc4 with h | h
          · exact .inl (hv0 g (by rw [← h]; exact hg))
          · rw [hg] at h
            injection h with h
            exact .inr (by omega)
        have hwr : w.heap.size ≤ W3.heap.size := Nat.le_trans HX.out.1.size (Nat.le_trans HX1.out.1.size (Nat.le_trans hx2.size (Nat.le_trans hxa.size hx3.size)))
        have hfb3 := lt_of_block hf3
        have hFF : fb ∉ F' ++ v'.ownBlock.toList := fun h => by
          rcases List.mem_append.1 h with h | h
          · exact hpa.2.2.2 h
          · rcases hv'B fb (by simpa using h) with h | h
            · exact hpa.2.2.2 h
            · omega
        have hx6 : Ext [fb] w5 (w5.setCell ⟨fb, 2, none⟩ (.int .i64 ((i : Int) + 1))) := (Ext.refl [fb] w5).setCell _ _ (.inl (by simp))
        have hfin : Ext (fb :: mb :: F) w (w5.setCell ⟨fb, 2, none⟩ (.int .i64 ((i : Int) + 1))) ∧ Fr w (fb :: mb :: F) (fb :: mb :: (F' ++ v'.ownBlock.toList)) ∧ (oFi fb mb (F' ++ v'.ownBlock.toList) s (i + 1)).P (w5.setCell ⟨fb, 2, none⟩ (.int .i64 ((i : Int) + 1))) := by
          refine ⟨ext_fr HX.out.1 (G := fb :: mb :: F') ?_ HX.out.2.1, fun g hg => ?_, ?_, (oPl mb (F' ++ v'.ownBlock.toList) s (i + 1)).ok hp5 hx6 (fun k hk => ?_), hpa.2.2.1, hFF⟩
          · have e1 : Ext (fb :: mb :: F') wr A1 := ((HX1.out.1.trans hx2).trans hxa).mono (fun q _ hq => by simp at hq)
            have e2 : Ext (fb :: mb :: F') A1 W3 := hx3.mono (fun q _ hq => by simp at hq; simp [hq])
            have e3 : Ext (fb :: mb :: F') W3 w4 := hx4.mono (fun q _ hq => by simp [hv0 q (by simpa using hq)])
            have e4 : Ext (fb :: mb :: F') w4 w5 := hx5.mono (fun q _ hq => by simp at hq; simp [hq])
            have e5 : Ext (fb :: mb :: F') w5 _ := hx6.mono (fun q _ hq => by simp at hq; simp [hq])
            exact (((e1.trans e2).trans e3).trans e4).trans e5
          · have hfr := HX.out.2.1
            rcases List.mem_cons.1 hg with rfl | hg
            · exact .inl (by simp)
            · rcases List.mem_cons.1 hg with rfl | hg
              · exact .inl (by simp)
              · rcases List.mem_append.1 hg with hg | hg
                · exact hfr g (by simp [hg])
                · rcases hv'B g (by simpa using hg) with h | h
                  · exact hfr g (by simp [h])
                  · exact .inr (by omega)
          · have := heap_setCell_same hf5 (i := 2) (.int .i64 ((i : Int) + 1))
            rw [this]
            unfold finder
            push_cast
            rfl
          · rw [List.mem_singleton]
            rintro rfl
            rcases List.mem_cons.1 hk with h | h
            · exact hpa.2.2.1 h
            · exact hFF h
        have HFIN := Lib.hid hfin
        have c2 : w5.cell? ⟨fb, 2, none⟩ = some (.int .i64 i) := cellOf hf5 2
        have f2 : w5.frozen? ⟨fb, 2, none⟩ = false := freeOf hf5 2
        clear hfin hFF hx6 hfb3 hwr hv'B hf5 hp5 hx5 hx4 hv0m hgr4 hown4 hloc4 hif hz0 hz1 hz2 hstore hrow hv0 hmF hpa hx3 ho3 hmlt hfa hka hfa' hka' hxa hoa hA1 hob hp2 hf hk hx2 hW2 hkb hkm hkF hn
        refine anyC_two (f := 2) (i := 11) (j := 13) (by kernel_rfl) (by decide) (by decide) rfl rfl rfl rfl (fun K hK => ?_) (fun K hK => ?_)
        · go_wp2_with fail
          refine hK _ _ ⟨TwoW.mk _ hf3 hk3, rfl⟩ ?_
          clear hK K
          refine anyC_two (f := 1) (i := 12) (j := 13) (by kernel_rfl) (by decide) (by decide) rfl rfl rfl rfl (fun K hK => ?_) (fun K hK => ?_)
          · refine wp_append_run _ _ _ _ rfl rfl rfl hr4 ?_
            refine hK _ _ ⟨TwoW.mk _ hf4 hk4, rfl⟩ ?_
            clear hK K
            refine anyC_one (f := 0) (i := 13) (by kernel_rfl) (by decide) rfl rfl (fun K hK => ?_)
            go_wp2_with fail
            refine hK _ _ ⟨TwoW.mk _ hf4 hk4, rfl⟩ ?_
            clear hK K
            refine anyC_end (by kernel_rfl) ?_
            refine wpList_plain rfl (fun K hK => wp_store_run _ _ _ _ rfl rfl rfl rfl hr5 (hK _ _ ?_))
            clear hK K hf3 hk3 hf4 hk4 hr4 hr5
            go_wp2_with fail
            refine NoPanic.normal ?_
            go_wp2_with fail
            go_roundg (tq - (i + 1))
            case measure => omega
            case rel => exact ⟨i + 1, F' ++ v'.ownBlock.toList, by omega, by omega, HFIN.out.1, HFIN.out.2.1, HFIN.out.2.2⟩
          · go_wp2_with fail
            refine hK _ _ ⟨TwoW.mk _ hf3 hk3, rfl⟩ ?_
            clear hK K
            refine anyC_one (f := 0) (i := 12) (by kernel_rfl) (by decide) rfl rfl (fun K hK => ?_)
            refine wp_append_run _ _ _ _ rfl rfl rfl hr4 ?_
            refine hK _ _ ⟨TwoW.mk _ hf4 hk4, rfl⟩ ?_
            clear hK K
            refine anyC_end (by kernel_rfl) ?_
            refine wpList_plain rfl (fun K hK => wp_store_run _ _ _ _ rfl rfl rfl rfl hr5 (hK _ _ ?_))
            clear hK K hf3 hk3 hf4 hk4 hr4 hr5
            go_wp2_with fail
            refine NoPanic.normal ?_
            go_wp2_with fail
            go_roundg (tq - (i + 1))
            case measure => omega
            case rel => exact ⟨i + 1, F' ++ v'.ownBlock.toList, by omega, by omega, HFIN.out.1, HFIN.out.2.1, HFIN.out.2.2⟩
        · go_wp2_with fail
          refine hK _ _ ⟨TwoW.mk _ hf3 hk3, rfl⟩ ?_
          clear hK K
          refine anyC_one (f := 1) (i := 11) (by kernel_rfl) (by decide) rfl rfl (fun K hK => ?_)
          go_wp2_with fail
          refine hK _ _ ⟨TwoW.mk _ hf3 hk3, rfl⟩ ?_
          clear hK K
          refine anyC_one (f := 0) (i := 12) (by kernel_rfl) (by decide) rfl rfl (fun K hK => ?_)
          refine wp_append_run _ _ _ _ rfl rfl rfl hr4 ?_
          refine hK _ _ ⟨TwoW.mk _ hf4 hk4, rfl⟩ ?_
          clear hK K
          refine anyC_end (by kernel_rfl) ?_
          refine wpList_plain rfl (fun K hK => wp_store_run _ _ _ _ rfl rfl rfl rfl hr5 (hK _ _ ?_))
          clear hK K hf3 hk3 hf4 hk4 hr4 hr5
          go_wp2_with fail
          refine NoPanic.normal ?_
          go_wp2_with fail
          go_roundg (tq - (i + 1))
          case measure => omega
          case rel => exact ⟨i + 1, F' ++ v'.ownBlock.toList, by omega, by omega, HFIN.out.1, HFIN.out.2.1, HFIN.out.2.2⟩
      · have HA := Lib.hid (at_no fb mb i i s wr hf hs (by omega) (by omega))
        have HX := Lib.hid (⟨hx, hfr, hp⟩ : _ ∧ _ ∧ _)
        clear hx hfr hp hf
        go_wp2_with fail
        refine HA.out.mono ?_
        clear c2 f2
        rintro e w1 ⟨rfl, hx1⟩
        have hp1 := (oFi fb mb F' s i).ok HX.out.2.2 hx1 (by simp)
        unfold kv
        have HX1 := Lib.hid (⟨hx1, hp1⟩ : _ ∧ _)
        clear hx1 hp1
        go_upto_region 3 with (fail)
        obtain ⟨W2, hW2⟩ : ∃ W2, w1.alloc (.cells #[.int .u8 0, .int .u8 0, .int .u8 0] 55) = W2 := ⟨_, rfl⟩
        have hx2 : Ext [] w1 W2 := by rw [← hW2]; exact (Ext.refl _ _).alloc _
        have hp2 := (oFi fb mb F' s i).ok HX1.out.2 hx2 (by simp)
        try simp only [UInt8.toNat_zero, Int.natCast_zero, UInt8.reduceToNat, Nat.cast_ofNat_Int]
        rw [hW2]
        have hf5 := hp2.1
        have c2 : W2.cell? ⟨fb, 2, none⟩ = some (.int .i64 i) := cellOf hf5 2
        have f2 : W2.frozen? ⟨fb, 2, none⟩ = false := freeOf hf5 2
        have hx6 : Ext [fb] W2 (W2.setCell ⟨fb, 2, none⟩ (.int .i64 ((i : Int) + 1))) := (Ext.refl [fb] W2).setCell _ _ (.inl (by simp))
        have hfin : Ext (fb :: mb :: F) w (W2.setCell ⟨fb, 2, none⟩ (.int .i64 ((i : Int) + 1))) ∧ Fr w (fb :: mb :: F) (fb :: mb :: F') ∧ (oFi fb mb F' s (i + 1)).P (W2.setCell ⟨fb, 2, none⟩ (.int .i64 ((i : Int) + 1))) := by
          refine ⟨ext_fr HX.out.1 (G := fb :: mb :: F') ?_ HX.out.2.1, HX.out.2.1, ?_, (oPl mb F' s (i + 1)).ok (oPl_skip hp2.2.1 (by omega)) hx6 (fun k hk => ?_), hp2.2.2.1, hp2.2.2.2⟩
          · have e1 : Ext (fb :: mb :: F') wr W2 := (HX1.out.1.trans hx2).mono (fun q _ hq => by simp at hq)
            have e5 : Ext (fb :: mb :: F') W2 _ := hx6.mono (fun q _ hq => by simp at hq; simp [hq])
            exact e1.trans e5
          · have := heap_setCell_same hf5 (i := 2) (.int .i64 ((i : Int) + 1))
            rw [this]
            unfold finder
            push_cast
            rfl
          · rw [List.mem_singleton]
            rintro rfl
            rcases List.mem_cons.1 hk with h | h
            · exact hp2.2.2.1 h
            · exact hp2.2.2.2 h
        have HFIN := Lib.hid hfin
        clear hfin hx6 hf5 hp2 hx2 hW2
        go_wp2_with fail
        go_roundg (tq - (i + 1))
        case measure => omega
        case rel => exact ⟨i + 1, F', by omega, by omega, HFIN.out.1, HFIN.out.2.1, HFIN.out.2.2⟩
    · obtain rfl : i = tq := by omega
      have j1 : (i : Int) ≤ (i : Int) := Int.le_refl _
      have HX := Lib.hid (⟨hx, hfr, hp⟩ : _ ∧ _ ∧ _)
      clear hx hfr hp hf
      go_wp2_with fail
      go_end0
      exact ⟨rfl, F', HX.out.1, HX.out.2.1, HX.out.2.2⟩
end Go.Proofs.Ytngfhnpelchplaa.Mt
