/-
  huff: Pop and Push of nodes, container/heap's Pop and Push walked.
-/
import Derived.Test.YtchhgbhbldfofaaHuC
import Derived.Test.YtchhgbhbldfofaaHuR
import Derived.Test.YtchhgbhbldfofaaPerm
namespace Go.Proofs.Ytchhgbhbldfofaa.Hu
open Go.RowKit

theorem row_take {w : World} {e : TypeId} {g n cap m : Nat} {xs : List Value} (h : w.ownsRow 0 e 1 (.slice (some ⟨g, 0, none⟩) n cap) n xs) (hm : m ≤ n) : w.ownsRow 0 e 1 (.slice (some ⟨g, 0, none⟩) m cap) m (xs.take m) := by
  obtain ⟨cur, hg, h1, h2, h3, ht⟩ := ownsRow_open h
  have hl := h.1
  refine ⟨by rw [List.length_take]; omega, .inr ⟨g, cap, cur, rfl, Nat.zero_le _, hg, by omega, h2, by simpa using h3, ?_⟩⟩
  rw [← ht, Nat.mul_one, List.take_take, Nat.min_eq_left hm]
theorem mem_take {H : List Pn} {m : Nat} {p : Pn} (h : p ∈ H.take m) : p ∈ H := List.mem_of_mem_take h
set_option maxRecDepth 100000 in
set_option maxHeartbeats 8000000 in
theorem npop_walk (lb : Nat) (v : Value) (N : List Nat) (H : List Pn) (w : World) (hO : HpO w lb v N H) (h0 : 0 < H.length) (hz : H.length ≤ 1048576) :
    Calls Try.prog 87 #[ptr lb] w fun e w' => ∃ v', e = .returned (.iface 92 (ptr (at_ H (H.length - 1)).1)) ∧ v'.ownBlock = v.ownBlock ∧ Ext [lb] w w' ∧ HpO w' lb v' N (H.take (H.length - 1)) := by
  obtain ⟨g, cap, rfl, hc1, hc2⟩ := hO.row.form h0
  obtain ⟨m, hm⟩ : ∃ m, H.length - 1 = m := ⟨_, rfl⟩
  have hl : H.length = m + 1 := by omega
  have c0 : w.cell? ⟨lb, 0, none⟩ = some (.slice (some ⟨g, 0, none⟩) H.length cap) := cellOf hO.var 0
  have f0 : w.frozen? ⟨lb, 0, none⟩ = false := freeOf hO.var 0
  have ca : w.cell? ⟨g, m, none⟩ = some (ptr (at_ H m).1) := hO.row.cell (by omega)
  have hx2 : Ext [lb] w (w.setCell ⟨lb, 0, none⟩ (.slice (some ⟨g, 0, none⟩) m cap)) := (Ext.refl [lb] w).setCell _ _ (.inl (by simp))
  have hgl : g ≠ lb := fun e => hO.ne (by simp [Value.ownBlock, e])
  have hNl : ∀ k ∈ N, k ∉ [lb] := fun k hk h => by simp at h; subst h; exact hO.nN hk
  have htl : (H.take m).length = m := by rw [List.length_take]; omega
  have hfin : HpO (w.setCell ⟨lb, 0, none⟩ (.slice (some ⟨g, 0, none⟩) m cap)) lb (.slice (some ⟨g, 0, none⟩) m cap) N (H.take m) := by
    refine ⟨heap_setCell_same hO.var _, ⟨?_, hO.row.far, fun p hp => (hO.row.nds p (mem_take hp)).ext hx2 hNl, fun k hk => Nat.lt_of_lt_of_le (hO.row.lt k hk) hx2.size⟩, fun e => hgl (by simpa [Value.ownBlock] using e), hO.nN⟩
    rw [htl, List.map_take]
    exact ownsRow_ext (row_take hO.row.own (by omega)) hx2 (fun k hk h => by simp [Value.ownBlock] at hk h; omega)
  rw [hm]
  rw [hl] at c0 hc1
  have HF := Lib.hid (⟨hx2, hfin⟩ : _ ∧ _)
  have hm9 : m ≤ 1048576 := by omega
  unfold maxLen at hc2
  have q1 : (m : Int) ≤ (cap : Int) := by omega
  generalize (at_ H m).1 = x at *
  clear hm hl hO hx2 hfin hz h0 htl hNl
  go_enter Try.func87, Try.ntmps87
  go_wp2_with fail
  go_ret
  exact ⟨.slice (some ⟨g, 0, none⟩) m cap, rfl, rfl, HF.out.1, HF.out.2⟩
theorem infoNodeP : (Try.prog.info? 92).map (fun i => (i.zero, i.size, i.bytes)) = some (some (.pointer none), 1, 8) := by kernel_rfl
theorem assertNode (a : Nat) (w : World) : (Instr.typeAssert (.iface 92 (ptr a)) 20 92 false).run Try.prog w = .ok (ptr a) w := by kernel_rfl
set_option maxRecDepth 100000 in
set_option maxHeartbeats 8000000 in
theorem npush_walk (lb : Nat) (v : Value) (N : List Nat) (H : List Pn) (a : Nat) (x : Nd) (w : World) (hO : HpO w lb v N H) (ha : NdAt w N a x) (hz : H.length ≤ 1048576) :
    Calls Try.prog 88 #[ptr lb, .iface 92 (ptr a)] w fun e w' => ∃ v', e = .returned (.tuple #[]) ∧ (∀ g, v'.ownBlock = some g → v.ownBlock = some g ∨ w.heap.size ≤ g) ∧ Ext (lb :: v.ownBlock.toList) w w' ∧ HpO w' lb v' N (H ++ [(a, x)]) := by
  obtain ⟨i0, hi, hz0, hz1, hz2⟩ := info_parts infoNodeP
  have hne := hO.ne
  have hb := hO.var
  have hown := hO.row.own
  have c0 : ∀ z : ExS v.ownBlock.toList w, z.w.cell? ⟨lb, 0, none⟩ = some v := fun z => cellOf (z.heap hb (by simpa using hne)) 0
  have HA := Lib.hid ha
  have HO := Lib.hid hO
  clear ha hO
  go_enter Try.func88, Try.ntmps88
  go_wp2_with fail
  have hta := assertNode a
  refine wp_region_perm (C := fun w' => ∃ x : ExS v.ownBlock.toList w, w' = x.w) [0, 1, 2, 3, 4, 5] 8 (by kernel_rfl) (by kernel_rfl) ⟨ExS.mk _ ((Ext.refl _ w).drew), rfl⟩ ?_
  simp only [pick, List.getElem?_toArray, List.getElem?_cons_zero, List.getElem?_cons_succ, List.drop_succ_cons, List.drop_zero]
  repeat (go_big_quiet_step (fail))
  refine wpQuiet_nil ?_
  clear hta
  refine anyC_one (f := 1) (i := 6) (by kernel_rfl) (by decide) rfl rfl (fun K hK => ?_)
  go_wp2_with fail
  refine hK _ _ ⟨ExS.mk _ ((Ext.refl _ w).drew.alloc _), rfl⟩ ?_
  clear hK K
  refine anyC_one (f := 0) (i := 7) (by kernel_rfl) (by decide) rfl rfl (fun K hK => ?_)
  refine wp_append_lies _ _ _ 91 rfl 0 92 i0 _ 1 8 Try.underlying91 hi hz0 hz1 hz2 rfl (by decide) v H.length _ rfl ((hown.drew).alloc _) ⟨w.heap.size, 0, none⟩ 1 1 [ptr a] rfl rfl (World.news_of_block (heap_alloc_at (w := w.drew) _)) (by simp [Value.oneCell']) (by decide) (by unfold maxLen; omega) (by omega) (by omega) (w.heap.size + 1) (by simp) ?_
  intro g cap w1 hown1 hgrow hat hlt
  have hg2 : (w.alloc (.cells #[ptr a] 92)).grownBy w1 v.ownBlock := ⟨hgrow.os, hgrow.tape, hgrow.output, hgrow.size, hgrow.block⟩
  have hb1 : w1.heap[lb]? = some (.cells #[v] 91 (0, 0)) := grown_keep hg2 (heap_alloc_old _ hb) hne
  have P := push_field hb hne hown1 hg2 hat 0
  have HP := Lib.hid (⟨P, hat⟩ : _ ∧ _)
  refine hK _ _ ⟨ExS.mk w1 (((Ext.refl _ w).alloc _).grown hg2 (fun q hq => .inl (by simp [hq]))), rfl⟩ ?_
  clear hK K c0 P hgrow hat hlt hown hg2 hown1
  refine anyC_end (by kernel_rfl) ?_
  have d0 := cellOf hb1 0
  have d1 := freeOf hb1 0
  clear hb1
  go_wp2_with fail
  refine NoPanic.normal ?_
  go_wp2_with fail
  go_end0
  obtain ⟨⟨p1, p2, p3, p4, p5⟩, hat⟩ := HP.out
  have hO := HO.out
  have hNF : ∀ k ∈ N, k ∉ lb :: v.ownBlock.toList := fun k hk h => by
    rcases List.mem_cons.1 h with rfl | h
    · exact hO.nN hk
    · exact hO.row.far k (by simpa using h) hk
  have hgN : g ∉ N := fun hk => by
    rcases hat with h | h
    · exact hO.row.far g h hk
    · have := hO.row.lt g hk; omega
  have hlen : (H ++ [(a, x)]).length = H.length + 1 := by simp
  refine ⟨_, rfl, fun k hk => ?_, p3, ⟨p1, ⟨?_, fun k hk => ?_, fun p hp => ?_, fun k hk => Nat.lt_of_lt_of_le (hO.row.lt k hk) p3.size⟩, fun e => p4 (by simpa [Value.ownBlock] using e), hO.nN⟩⟩
  · obtain rfl : g = k := by simpa [Value.ownBlock] using hk
    rcases hat with h | h
    · exact .inl h
    · exact .inr (by omega)
  · rw [hlen, List.map_append]
    exact p2
  · obtain rfl : g = k := by simpa [Value.ownBlock] using hk
    exact hgN
  · rcases List.mem_append.1 hp with hp | hp
    · exact (hO.row.nds p hp).ext p3 hNF
    · rw [List.mem_singleton.1 hp]
      exact HA.out.ext p3 hNF
/-! ### container/heap.Pop, Push -/
set_option maxRecDepth 100000 in
set_option maxHeartbeats 8000000 in
theorem pop_walk (lb : Nat) (v : Value) (N : List Nat) (H : List Pn) (w : World) (hO : HpO w lb v N H) (h0 : 0 < H.length) (hz : H.length ≤ 1048576) :
    Calls Try.prog 50 #[.iface 96 (ptr lb)] w fun e w' => ∃ v', e = .returned (.iface 92 (ptr (at_ H 0).1)) ∧ v'.ownBlock = v.ownBlock ∧ Ext (lb :: v.ownBlock.toList) w w' ∧ HpO w' lb v' N (popL H) := by
  obtain ⟨g, cap, rfl, hc1, hc2⟩ := hO.row.form h0
  have hlast := pop_last H h0
  have hpl : popL H = (downF pnLt (H.length - 1) (swp H 0 (H.length - 1)) 0 (H.length - 1)).take (H.length - 1) := rfl
  rw [hpl, ← hlast]
  have m1 := m_len (cellOf hO.var 0)
  obtain ⟨n, hn⟩ : ∃ n, H.length = n := ⟨_, rfl⟩
  obtain ⟨m, hm⟩ : ∃ m, n - 1 = m := ⟨_, rfl⟩
  rw [hn] at hO m1 h0 hz
  simp only [hn, hm]
  have e1 : (n : Int) - 1 = (m : Int) := by omega
  have HN := Lib.hid (⟨hn, hm⟩ : _ ∧ _)
  have HO := Lib.hid hO
  have hmn : m < n := by omega
  clear hO hlast hpl hn hm hc1 hc2
  go_enter Try.func50, Try.ntmps50
  go_wp2_with fail
  refine (len_walk _ n cap w).mono ?_
  rintro e w1 ⟨rfl, rfl⟩
  have m2 := m_swap (cellOf HO.out.var 0)
  clear m1
  go_wp2_with fail
  clear e1
  refine (swap_walk _ N H 0 m w HO.out.row (by rw [HN.out.1]; omega) (by rw [HN.out.1]; omega)).mono ?_
  rintro e w2 ⟨rfl, hx, hr⟩
  have HO := Lib.hid (⟨hx, HO.out.turn hx hr⟩ : _ ∧ _)
  clear hx hr m2
  go_wp2_with fail
  refine (down_walk lb _ N (swp H 0 m) 0 m w2 HO.out.2 (by omega) (by rw [swp_len, HN.out.1]; omega) (by rw [swp_len, HN.out.1]; omega)).mono ?_
  rintro e w3 ⟨bb, rfl, hx, ho⟩
  have HO := Lib.hid (⟨HO.out.1.trans hx, ho⟩ : _ ∧ _)
  have m3 := m_pop w3 lb
  clear hx ho
  go_wp2_with fail
  have hlen : (downF pnLt m (swp H 0 m) 0 m).length = n := by rw [downF_len, swp_len, HN.out.1]
  have hp := npop_walk lb _ N (downF pnLt m (swp H 0 m) 0 m) w3 HO.out.2 (by rw [hlen]; omega) (by rw [hlen]; omega)
  rw [hlen, HN.out.2] at hp
  refine hp.mono ?_
  rintro e w4 ⟨v', rfl, hv, hx, ho⟩
  have HO := Lib.hid (⟨hv, HO.out.1, hx, ho⟩ : _ ∧ _ ∧ _ ∧ _)
  clear hv hx ho hp hlen m3
  go_wp2_with fail
  go_ret
  exact ⟨v', rfl, HO.out.1, (HO.out.2.1.mono (fun i _ h => by simp [h])).trans (HO.out.2.2.1.mono (fun i _ h => by simp at h; simp [h])), HO.out.2.2.2⟩
set_option maxRecDepth 100000 in
set_option maxHeartbeats 8000000 in
theorem push_walk (lb : Nat) (v : Value) (N : List Nat) (H : List Pn) (a : Nat) (x : Nd) (w : World) (hO : HpO w lb v N H) (ha : NdAt w N a x) (hz : H.length ≤ 1048570) :
    Calls Try.prog 51 #[.iface 96 (ptr lb), .iface 92 (ptr a)] w fun e w' => ∃ v', e = .returned (.tuple #[]) ∧ (∀ g, v'.ownBlock = some g → v.ownBlock = some g ∨ w.heap.size ≤ g) ∧ Ext (lb :: v.ownBlock.toList) w w' ∧ HpO w' lb v' N (pushL H (a, x)) := by
  obtain ⟨R, hR⟩ : ∃ R, pushL H (a, x) = R := ⟨_, rfl⟩
  rw [hR]
  unfold pushL at hR
  have m1 := m_push w lb
  have HO := Lib.hid hO
  have HA := Lib.hid ha
  have HR := Lib.hid hR
  clear hO ha hR
  go_enter Try.func51, Try.ntmps51
  go_wp2_with fail
  refine (npush_walk lb v N H a x w HO.out HA.out (by omega)).mono ?_
  rintro e w1 ⟨v1, rfl, hv, hx, ho⟩
  obtain ⟨g, cap, rfl, hc1, hc2⟩ := ho.row.form (by simp)
  have hl : (H ++ [(a, x)]).length = H.length + 1 := by simp
  have m2 := m_len (cellOf ho.var 0)
  have HO1 := Lib.hid (⟨hv, hx, ho⟩ : _ ∧ _ ∧ _)
  clear hv hx ho m1
  obtain ⟨H1, hH1⟩ : ∃ H1, H ++ [(a, x)] = H1 := ⟨_, rfl⟩
  have hR := HR.out
  rw [hH1] at hl HO1 m2 hR
  clear hH1 hc1 hc2
  obtain ⟨n, hn⟩ : ∃ n, H.length = n := ⟨_, rfl⟩
  rw [hn] at hl hz hR
  rw [hl] at HO1 m2
  have HR := Lib.hid hR
  have e1 : ((n + 1 : Nat) : Int) - 1 = (n : Int) := by omega
  have E1 := Lib.hid e1
  have HL := Lib.hid hl
  clear hn hl e1 hR
  go_wp2_with fail
  refine (len_walk _ (n + 1) cap w1).mono ?_
  rintro e w2 ⟨rfl, rfl⟩
  have e2 : (n : Int) + 1 - 1 = (n : Int) := by omega
  clear m2
  go_wp2_with fail
  clear e2
  refine (up_walk lb _ N H1 n w1 HO1.out.2.2 (by rw [HL.out]; omega) (by rw [HL.out]; omega)).mono ?_
  rintro e w3 ⟨rfl, hx, ho⟩
  have HO2 := Lib.hid (⟨hx, ho⟩ : _ ∧ _)
  clear hx ho
  go_wp2_with fail
  go_end0
  refine ⟨_, rfl, HO1.out.1, ?_, by rw [← HR.out]; exact HO2.out.2⟩
  exact HO1.out.2.1.trans' HO2.out.1 (fun i hi h => by
    obtain rfl : i = g := by simpa [Value.ownBlock] using h
    rcases HO1.out.1 i rfl with h | h
    · simp [h]
    · omega)
end Go.Proofs.Ytchhgbhbldfofaa.Hu
