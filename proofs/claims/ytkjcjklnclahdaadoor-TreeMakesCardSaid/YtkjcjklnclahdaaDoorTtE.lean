/-
  law17.TreeOrder walked.
-/
import Derived.Test.YtkjcjklnclahdaaDoorPkZ
import Derived.Test.YtkjcjklnclahdaaDoorTsF
import Derived.Test.YtkjcjklnclahdaaDoorTtB
import Derived.Test.YtkjcjklnclahdaaDoorTtC
import Derived.Test.YtkjcjklnclahdaaDoorTtD
namespace Go.Proofs.YtkjcjklnclahdaaDoor.Tr
open Go.RowKit

theorem lightT_facts {ls : List (List Nd)} {many most : Int} (h : lightT ls many most = true) : (ls.length : Int) ≤ many ∧ ∀ l ∈ ls, (l.length : Int) ≤ most ∧ ∀ x ∈ l, x.s.size ≤ 2000 := by
  rw [lightT, Bool.and_eq_true, decide_eq_true_eq, List.all_eq_true] at h
  refine ⟨h.2, fun l hl => ?_⟩
  have := h.1 l hl
  unfold lightL at this
  rw [Bool.and_eq_true, decide_eq_true_eq, List.all_eq_true] at this
  refine ⟨this.2, fun x hx => ?_⟩
  have := this.1 x hx
  rw [decide_eq_true_eq] at this
  exact this.2
theorem trees_row {w : World} {base : Option Addr} {n cap : Nat} {ls : List (List Nd)} (h : TreesAt w (.slice base n cap) ls) : n = ls.length ∧ TreesIn w base ls := by
  obtain ⟨b2, c2, he, -, hv⟩ := h
  injection he with e1 e2 e3
  subst e1 e2
  exact ⟨rfl, hv⟩
theorem but_len (S : List Ent) (s : ByteArray) : (butE S s).length ≤ S.length := List.length_filter_le _ _
theorem node_rows {w : World} {g : Nat} {x : Nd} (h : w.heap[g]? = some (.cells #[.int .i64 x.kind, .int .i64 x.n, .int .i64 x.gen, .string x.s, .slice none 0 0] 37)) (hk : x.kids = []) (hn : -9223372036854775808 ≤ x.n ∧ x.n ≤ 9223372036854775807) (hs : x.s.size ≤ 9223372036854775807) : NodesAt w (.slice (some ⟨g, 0, none⟩) 1 1) [x] := one_nodes h hk hn hs
set_option maxRecDepth 100000 in
set_option maxHeartbeats 2000000 in
theorem order_law (u v : Value) (names : List ByteArray) (ls : List (List Nd)) (a : Int) (w : World) (hu : StrArg w u names) (hv : TreesArg w v ls) (ha : -9223372036854775808 ≤ a ∧ a ≤ 9223372036854775807) :
    Calls Tryd.prog 4 #[u, v, .int .i64 a] w fun e w' => e = .returned (.bool true) ∧ Ext [] w w' := by
  obtain ⟨hu, hun, hus⟩ := hu
  obtain ⟨hv, hvn, hvl⟩ := hv
  have H1 := Lib.hid lives_walk
  have H2 := Lib.hid (fun W (hx : Ext [] w W) => lightT_walk v ls 20 60 W (hv.ext hx) hvn hvl)
  obtain ⟨ub, uc, rfl, huc, -⟩ := id hu
  obtain ⟨vb, vc, rfl, hvc, -⟩ := id hv
  obtain ⟨n, hn⟩ : ∃ n, names.length = n := ⟨_, rfl⟩
  obtain ⟨m, hm⟩ : ∃ m, ls.length = m := ⟨_, rfl⟩
  cases hlt : lightT ls 20 60 with
  | false =>
    rw [hlt] at H2
    rw [hn] at hun ⊢
    rw [hm] at hvn H2 ⊢
    clear hlt hu hv hus hvl huc hvc hn hm
    go_enter Tryd.func4, Tryd.ntmps4
    go_wp2_with fail
    refine (H1.out _).mono ?_
    rintro e w1 ⟨rfl, hx1⟩
    have HX1 := Lib.hid hx1
    clear hx1
    go_wp2_with fail
    refine (H2.out _ HX1.out).mono ?_
    rintro e w2 ⟨rfl, rfl⟩
    go_wp2_with fail
    go_ret
    exact ⟨rfl, HX1.out⟩
  | true =>
  rw [hlt] at H2
  obtain ⟨hm20, hll⟩ := lightT_facts hlt
  rw [hm] at hm20
  by_cases hnm : n = m
  case neg =>
    have hb : ((n : Int) != (m : Int)) = true := bne_iff_ne.2 (by omega)
    rw [hn] at hun ⊢
    rw [hm] at hvn H2 ⊢
    clear hlt hu hv hus hvl huc hvc hn hm hll hnm
    go_enter Tryd.func4, Tryd.ntmps4
    go_wp2_with fail
    refine (H1.out _).mono ?_
    rintro e w1 ⟨rfl, hx1⟩
    have HX1 := Lib.hid hx1
    clear hx1
    go_wp2_with fail
    refine (H2.out _ HX1.out).mono ?_
    rintro e w2 ⟨rfl, rfl⟩
    go_wp2_with fail
    go_ret
    exact ⟨rfl, HX1.out⟩
  case pos =>
  subst hnm
  have hn20 : n ≤ 20 := by omega
  have hb : ((n : Int) != (n : Int)) = false := bne_self_eq_false _
  have hlm : names.length = ls.length := hn.trans hm.symm
  have h6 : light6 ls := fun l hl => ⟨by have := (hll l hl).1; omega, fun x hx => by have := (hll l hl).2 x hx; omega⟩
  have HP := Lib.hid (fun W => Kt.pick_any a ((n : Int) + 1) W (by omega) (by omega) ha.1 ha.2)
  obtain ⟨p, hp⟩ : ∃ p : Nat, a % ((n : Int) + 1) = (p : Int) := ⟨(a % ((n : Int) + 1)).toNat, by have := Int.emod_nonneg a (show ((n : Int) + 1) ≠ 0 by omega); omega⟩
  have hpn : p ≤ n := by have := Int.emod_lt_of_pos a (show (0 : Int) < (n : Int) + 1 by omega); omega
  simp only [hp] at HP
  obtain ⟨D, hD⟩ : ∃ D, dictionN names ls = D := ⟨_, rfl⟩
  have H3 := Lib.hid (fun W (hx : Ext [] w W) (hs : ∀ s ∈ names, s.size ≤ 300) => dictX_walk _ _ names ls W (hu.ext hx) (hv.ext hx) (by omega) (by omega) (fun s h => by have := hs s h; omega) h6)
  rw [hD, hn, hm] at H3
  -- what is turned about
  obtain ⟨N2, hN2⟩ : ∃ N2, names.drop p ++ names.take p = N2 := ⟨_, rfl⟩
  obtain ⟨L2, hL2⟩ : ∃ L2, ls.drop p ++ ls.take p = L2 := ⟨_, rfl⟩
  obtain ⟨D2, hD2⟩ : ∃ D2, dictionN N2 L2 = D2 := ⟨_, rfl⟩
  have hturn := order_turn hlm p
  rw [hN2, hL2, hD, hD2] at hturn
  have hN2l : N2.length = n := by rw [← hN2, (turn_perm names p).length_eq, hn]
  have hL2l : L2.length = n := by rw [← hL2, (turn_perm ls p).length_eq, hm]
  have H4 := Lib.hid (fun (u2 v2 : Value) (W : World) (h1 : StrsAt W u2 N2) (h2 : TreesAt W v2 L2) (hs : ∀ s ∈ names, s.size ≤ 300) => dictX_walk u2 v2 N2 L2 W h1 h2 (by omega) (by omega) (fun s h => by have := hs s ((turn_perm names p).mem_iff.1 (by rw [hN2]; exact h)); omega) (fun l h => h6 l ((turn_perm ls p).mem_iff.1 (by rw [hL2]; exact h))))
  rw [hD2] at H4
  have HH := Lib.hid (⟨hu, hv, hn, hm, hll, h6, hlm, hD, hN2, hL2, hturn, hN2l, hL2l⟩ : _ ∧ _ ∧ _ ∧ _ ∧ _ ∧ _ ∧ _ ∧ _ ∧ _ ∧ _ ∧ _ ∧ _ ∧ _)
  rw [hn] at hun huc ⊢
  rw [hm] at hvn H2 hvc ⊢
  clear hlt hu hv hus hvl hn hm hll h6 hlm hD hN2 hL2 hturn hN2l hL2l hD2 hp
  go_enter Tryd.func4, Tryd.ntmps4
  go_wp2_with fail
  refine (H1.out _).mono ?_
  rintro e w1 ⟨rfl, hx1⟩
  have HX1 := Lib.hid hx1
  clear hx1
  go_wp2_with fail
  refine (H2.out _ HX1.out).mono ?_
  rintro e w2 ⟨rfl, rfl⟩
  clear H1 H2
  go_wp2_with fail
  clear hb
  go_loopg [7] n (fun g iv wr => ∃ i : Nat, g + i = n ∧ iv = .int .i64 i ∧ (∀ s ∈ names.take i, s.size ≤ 300) ∧ w1 = wr)
  case atStart => exact ⟨0, by omega, rfl, by simp, rfl⟩
  case round =>
    obtain ⟨i, hgi, rfl, hs, rfl⟩ := hrel
    by_cases hlt : i < n
    · obtain ⟨g, rfl⟩ : ∃ g, gk = g + 1 := ⟨gk - 1, by omega⟩
      have hltz : (i : Int) < (n : Int) := by omega
      have hil : i < names.length := by rw [HH.out.2.2.1]; exact hlt
      have htk : names.take (i + 1) = names.take i ++ [names[i]'hil] := List.take_succ_eq_append_getElem hil
      obtain ⟨b9, o9, rfl, c9⟩ := (strs_vals (HH.out.2.2.1 ▸ HH.out.1)).2.2 i _ (by rw [stC, List.getElem?_map, List.getElem?_eq_getElem hil]; rfl)
      have c9 := HX1.out.cell c9
      generalize names[i]'hil = s at *
      have HS := Lib.hid (⟨hs, htk⟩ : _ ∧ _)
      clear hs htk
      by_cases hbig : 300 < s.size
      · have hbz : (300 : Int) < (s.size : Int) := by omega
        go_wp2_with fail
        go_ret
        exact ⟨rfl, HX1.out⟩
      · have hbz : ¬ (300 : Int) < (s.size : Int) := by omega
        go_wp2_with fail
        go_roundg g
        case measure => omega
        case rel => exact ⟨i + 1, by omega, by go_num, fun t ht => by
          rw [HS.out.2, List.mem_append] at ht
          rcases ht with ht | ht
          · exact HS.out.1 t ht
          · obtain rfl : t = s := by simpa using ht
            omega, rfl⟩
    · obtain rfl : gk = 0 := by omega
      obtain rfl : i = n := by omega
      rw [← HH.out.2.2.1, List.take_length] at hs
      have HSz := Lib.hid hs
      clear hs hlt hgi
      go_wp2_with fail
      refine (HP.out _).mono ?_
      rintro e w2 ⟨rfl, rfl⟩
      clear HP
      go_wp2_with fail
      refine (H3.out _ HX1.out HSz.out).mono ?_
      rintro e w3 ⟨v3, rfl, hx3, hN3⟩
      have HX3 := Lib.hid (⟨HX1.out.trans hx3, hN3⟩ : _ ∧ _)
      clear hx3 hN3 HX1 H3
      go_wp2_with fail
      obtain ⟨vs, hvs, htv⟩ := (trees_vals (HH.out.2.2.2.1 ▸ HH.out.2.1)).2.2
      have hvs3 := hvs.ext HX3.out.1
      have htv3 := htv.ext HX3.out.1
      have hus3 := ((strs_vals (HH.out.2.2.1 ▸ HH.out.1)).2.2).ext HX3.out.1
      have hvl : vs.length = i := by rw [htv.1, HH.out.2.2.2.1]
      clear hvs htv
      obtain ⟨i0, hif, hz0, hz1, hz2⟩ := info_parts infoString17
      obtain ⟨j0, hjf, hy0, hy1, hy2⟩ := info_parts infoNodes
      have hsz : ∀ w, (Go.sizeOf 9).run Tryd.prog w = .ok 1 w := fun w => by simp [Go.sizeOf, typeInfo, hif, hz1]
      have hsz2 : ∀ w, (Go.sizeOf 26).run Tryd.prog w = .ok 1 w := fun w => by simp [Go.sizeOf, typeInfo, hjf, hy1]
      have hs1 := slice_from (P := Tryd.prog) Tryd.underlying22 hsz ub i uc p hpn
      have hs2 := slice_upto (P := Tryd.prog) Tryd.underlying22 hsz ub i uc p hpn huc
      have ht1 := slice_from (P := Tryd.prog) Tryd.underlying23 hsz2 vb i vc p hpn
      have ht2 := slice_upto (P := Tryd.prog) Tryd.underlying23 hsz2 vb i vc p hpn hvc
      -- Own
      have HO := Lib.hid (fun W (hx : Ext [] w3 W) => ownS_walk (.slice (fromB ub uc p) (i - p) (uc - p)) (names.drop p) W (by
        have h9 := vals_strs (cap := uc - p) (l := names.drop p) (by rw [stC, List.map_drop]; exact (hus3.ext hx).from (by rw [stC, List.length_map, HH.out.2.2.1]; exact huc) p) (by rw [List.length_drop, HH.out.2.2.1]; omega)
        rw [List.length_drop, HH.out.2.2.1] at h9
        exact h9) (by rw [List.length_drop, HH.out.2.2.1]; omega))
      simp only [List.length_drop, HH.out.2.2.1] at HO
      -- the names' second part
      have HA := Lib.hid (fun W v2 (ho : W.ownsRow 0 9 1 v2 (i - p) (stC (names.drop p))) (hx : Ext [] w3 W) => app_vals (P := Tryd.prog) (t := 22) Tryd.underlying22 hif hz0 hz1 hz2 rfl (by decide) ho (base := ub) (cap := uc) (ys := (stC names).take p) ((hus3.ext hx).upto p) (fun u hu => by obtain ⟨s, _, rfl⟩ := List.mem_map.1 (List.mem_of_mem_take hu); rfl) (by rw [List.length_take, stC, List.length_map, HH.out.2.2.1]; omega) 22)
      have hl1 : ((stC names).take p).length = p := by rw [List.length_take, stC, List.length_map, HH.out.2.2.1]; omega
      simp only [hl1, show i - p + p = i by omega] at HA
      -- the trees
      have HB := Lib.hid (fun W v2 (ho : W.ownsRow 0 26 1 v2 0 []) (hx : Ext [] w3 W) => app_vals (P := Tryd.prog) (t := 23) Tryd.underlying23 hjf hy0 hy1 hy2 rfl (by decide) ho (base := fromB vb vc p) (cap := vc - p) (ys := vs.drop p) ((hvs3.ext hx).from (by rw [hvl]; exact hvc) p) (fun u hu => htv3.one u (List.mem_of_mem_drop hu)) (by rw [List.length_drop, hvl]; omega) 23)
      have hl2 : (vs.drop p).length = i - p := by rw [List.length_drop, hvl]
      simp only [hl2, Nat.zero_add, List.nil_append] at HB
      have HC := Lib.hid (fun W v2 (ho : W.ownsRow 0 26 1 v2 (i - p) (vs.drop p)) (hx : Ext [] w3 W) => app_vals (P := Tryd.prog) (t := 23) Tryd.underlying23 hjf hy0 hy1 hy2 rfl (by decide) ho (base := vb) (cap := vc) (ys := vs.take p) ((hvs3.ext hx).upto p) (fun u hu => htv3.one u (List.mem_of_mem_take hu)) (by rw [List.length_take, hvl]; omega) 23)
      have hl3 : (vs.take p).length = p := by rw [List.length_take, hvl]; omega
      simp only [hl3, show i - p + p = i by omega] at HC
      have HT := Lib.hid (⟨htv3, hl1, hl2, hl3⟩ : _ ∧ _ ∧ _ ∧ _)
      clear hvs3 hus3 htv3 hvl hif hz0 hz1 hz2 hjf hy0 hy1 hy2 hsz hsz2 hl1 hl2 hl3
      go_cut [10, 11] from 51 to 71 (fun c d wx => Ext [] w3 wx ∧ NodesAt wx c D2.1 ∧ d = .int .i64 D2.2)
      case first =>
        refine wp_region_perm (C := fun w' => ∃ x : Ex w3, w' = x.w) [0, 1, 2, 4, 5, 6, 9, 10, 11, 13, 14, 15] 22 (by kernel_rfl) (by kernel_rfl) ⟨Ex.mk _ ((Ext.refl [] w3).drew), rfl⟩ ?_
        simp only [pick, List.getElem?_toArray, List.getElem?_cons_zero, List.getElem?_cons_succ, List.drop_succ_cons, List.drop_zero]
        repeat (go_big_quiet_step (fail))
        refine wpQuiet_nil ?_
        clear hs1 hs2 ht1 ht2
        have S := (Sep.start w3).quiet ((Ext.refl [] w3).drew)
        obtain ⟨V, hV⟩ : ∃ V, w3.drew = V := ⟨_, rfl⟩
        rw [hV] at S ⊢
        clear hV
        refine anyC_two (f := 9) (i := 3) (j := 8) (by kernel_rfl) (by decide) (by decide) rfl rfl rfl rfl (fun K hK => ?_) (fun K hK => ?_)
        · go_wp2_with fail
          refine (HO.out _ S.ext).mono ?_
          rintro e W1 ⟨v2, rfl, T⟩
          have S := S.new T.ext _ (T.get 0 rfl) (T.base _ (by simp))
          clear T
          refine hK _ _ ⟨Ex.mk _ S.ext, rfl⟩ ?_
          clear hK K
          refine anyC_two (f := 8) (i := 7) (j := 8) (by kernel_rfl) (by decide) (by decide) rfl rfl rfl rfl (fun K hK => ?_) (fun K hK => ?_)
          · have ho : World.ownsRow _ 0 9 1 _ (i - p) (stC (names.drop p)) := S.get 0 rfl
            obtain ⟨an, cn, W2, hr, ho2, hx2, hf2⟩ := HA.out _ _ ho S.ext
            refine wp_append_run _ _ _ _ rfl rfl rfl hr ?_
            have S := S.upd 0 (oSl 9 1 (.slice an i cn) i (stC (names.drop p) ++ (stC names).take p)) rfl hx2 hf2 ho2
            clear ho hr ho2 hx2 hf2
            refine hK _ _ ⟨Ex.mk _ S.ext, rfl⟩ ?_
            clear hK K
            refine anyC_one (f := 7) (i := 8) (by kernel_rfl) (by decide) rfl rfl (fun K hK => ?_)
            go_wp2_with fail
            have S := S.new ((Ext.refl [] _).alloc _) (oSl 26 1 _ 0 []) empty_row (fun k hk => by simp [oSl, Value.ownBlock] at hk; omega)
            refine hK _ _ ⟨Ex.mk _ S.ext, rfl⟩ ?_
            clear hK K
            refine anyC_one (f := 6) (i := 12) (by kernel_rfl) (by decide) rfl rfl (fun K hK => ?_)
            have ho : World.ownsRow _ 0 26 1 _ 0 [] := S.get 0 rfl
            obtain ⟨at1, ct1, W3, hr, ho2, hx2, hf2⟩ := HB.out _ _ ho S.ext
            refine wp_append_run _ _ _ _ rfl rfl rfl hr ?_
            have S := S.upd 0 (oSl 26 1 (.slice at1 (i - p) ct1) (i - p) (vs.drop p)) rfl hx2 hf2 ho2
            clear ho hr ho2 hx2 hf2
            refine hK _ _ ⟨Ex.mk _ S.ext, rfl⟩ ?_
            clear hK K
            refine anyC_one (f := 5) (i := 16) (by kernel_rfl) (by decide) rfl rfl (fun K hK => ?_)
            have ho : World.ownsRow _ 0 26 1 _ (i - p) (vs.drop p) := S.get 0 rfl
            obtain ⟨at2, ct2, W4, hr, ho2, hx2, hf2⟩ := HC.out _ _ ho S.ext
            refine wp_append_run _ _ _ _ rfl rfl rfl hr ?_
            have S := S.upd 0 (oSl 26 1 (.slice at2 i ct2) i (vs.drop p ++ vs.take p)) rfl hx2 hf2 ho2
            clear ho hr ho2 hx2 hf2
            refine hK _ _ ⟨Ex.mk _ S.ext, rfl⟩ ?_
            clear hK K
            refine anyC_one (f := 4) (i := 17) (by kernel_rfl) (by decide) rfl rfl (fun K hK => ?_)
            go_wp2_with fail
            have HS := Lib.hid S
            clear S
            refine (H4.out _ _ _ (by
              obtain ⟨b1, c1, he, hc1, hv1⟩ := own_vals (HS.out.get 1 rfl : World.ownsRow _ 0 9 1 _ i (stC (names.drop p) ++ (stC names).take p))
              cases he
              have h9 := vals_strs (cap := cn) (l := N2) (by rw [← HH.out.2.2.2.2.2.2.2.2.1, stC, List.map_append, List.map_take]; exact hv1) (by rw [HH.out.2.2.2.2.2.2.2.2.2.2.2.1]; exact hc1)
              rw [HH.out.2.2.2.2.2.2.2.2.2.2.2.1] at h9
              exact h9) (by
              obtain ⟨b1, c1, he, hc1, hv1⟩ := own_vals (HS.out.get 0 rfl : World.ownsRow _ 0 26 1 _ i (vs.drop p ++ vs.take p))
              cases he
              have h9 := vals_trees (cap := ct2) (ls := L2) hv1 (by rw [← HH.out.2.2.2.2.2.2.2.2.2.1]; exact ((HT.out.1.drop p).append (HT.out.1.take p)).ext HS.out.ext) (by rw [HH.out.2.2.2.2.2.2.2.2.2.2.2.2]; exact hc1)
              rw [HH.out.2.2.2.2.2.2.2.2.2.2.2.2] at h9
              exact h9) HSz.out).mono ?_
            rintro e W5 ⟨v5, rfl, hx5, hN5⟩
            have HF := Lib.hid (⟨HS.out.ext.trans hx5, hN5⟩ : _ ∧ _)
            clear hx5 hN5 HS
            refine hK _ _ ⟨Ex.mk _ HF.out.1, rfl⟩ ?_
            clear hK K
            refine anyC_more [18, 19, 20, 21] 0 (by kernel_rfl) ⟨Ex.mk _ HF.out.1, rfl⟩ ?_
            simp only [pick, List.getElem?_toArray, List.getElem?_cons_zero, List.getElem?_cons_succ]
            repeat (go_big_quiet_step (fail))
            refine wpQuiet_nil ?_
            refine anyC_end (by kernel_rfl) ?_
            go_wp2_with fail
            refine NoPanic.normal ?_
            go_wp2_with fail
            go_meet
            exact ⟨HF.out.1, HF.out.2, rfl⟩
          · go_wp2_with fail
            have S := S.new ((Ext.refl [] _).alloc _) (oSl 26 1 _ 0 []) empty_row (fun k hk => by simp [oSl, Value.ownBlock] at hk; omega)
            refine hK _ _ ⟨Ex.mk _ S.ext, rfl⟩ ?_
            clear hK K
            refine anyC_one (f := 7) (i := 7) (by kernel_rfl) (by decide) rfl rfl (fun K hK => ?_)
            have ho : World.ownsRow _ 0 9 1 _ (i - p) (stC (names.drop p)) := S.get 1 rfl
            obtain ⟨an, cn, W2, hr, ho2, hx2, hf2⟩ := HA.out _ _ ho S.ext
            refine wp_append_run _ _ _ _ rfl rfl rfl hr ?_
            have S := S.upd 1 (oSl 9 1 (.slice an i cn) i (stC (names.drop p) ++ (stC names).take p)) rfl hx2 hf2 ho2
            clear ho hr ho2 hx2 hf2
            refine hK _ _ ⟨Ex.mk _ S.ext, rfl⟩ ?_
            clear hK K
            refine anyC_one (f := 6) (i := 12) (by kernel_rfl) (by decide) rfl rfl (fun K hK => ?_)
            have ho : World.ownsRow _ 0 26 1 _ 0 [] := S.get 0 rfl
            obtain ⟨at1, ct1, W3, hr, ho2, hx2, hf2⟩ := HB.out _ _ ho S.ext
            refine wp_append_run _ _ _ _ rfl rfl rfl hr ?_
            have S := S.upd 0 (oSl 26 1 (.slice at1 (i - p) ct1) (i - p) (vs.drop p)) rfl hx2 hf2 ho2
            clear ho hr ho2 hx2 hf2
            refine hK _ _ ⟨Ex.mk _ S.ext, rfl⟩ ?_
            clear hK K
            refine anyC_one (f := 5) (i := 16) (by kernel_rfl) (by decide) rfl rfl (fun K hK => ?_)
            have ho : World.ownsRow _ 0 26 1 _ (i - p) (vs.drop p) := S.get 0 rfl
            obtain ⟨at2, ct2, W4, hr, ho2, hx2, hf2⟩ := HC.out _ _ ho S.ext
            refine wp_append_run _ _ _ _ rfl rfl rfl hr ?_
            have S := S.upd 0 (oSl 26 1 (.slice at2 i ct2) i (vs.drop p ++ vs.take p)) rfl hx2 hf2 ho2
            clear ho hr ho2 hx2 hf2
            refine hK _ _ ⟨Ex.mk _ S.ext, rfl⟩ ?_
            clear hK K
            refine anyC_one (f := 4) (i := 17) (by kernel_rfl) (by decide) rfl rfl (fun K hK => ?_)
            go_wp2_with fail
            have HS := Lib.hid S
            clear S
            refine (H4.out _ _ _ (by
              obtain ⟨b1, c1, he, hc1, hv1⟩ := own_vals (HS.out.get 1 rfl : World.ownsRow _ 0 9 1 _ i (stC (names.drop p) ++ (stC names).take p))
              cases he
              have h9 := vals_strs (cap := cn) (l := N2) (by rw [← HH.out.2.2.2.2.2.2.2.2.1, stC, List.map_append, List.map_take]; exact hv1) (by rw [HH.out.2.2.2.2.2.2.2.2.2.2.2.1]; exact hc1)
              rw [HH.out.2.2.2.2.2.2.2.2.2.2.2.1] at h9
              exact h9) (by
              obtain ⟨b1, c1, he, hc1, hv1⟩ := own_vals (HS.out.get 0 rfl : World.ownsRow _ 0 26 1 _ i (vs.drop p ++ vs.take p))
              cases he
              have h9 := vals_trees (cap := ct2) (ls := L2) hv1 (by rw [← HH.out.2.2.2.2.2.2.2.2.2.1]; exact ((HT.out.1.drop p).append (HT.out.1.take p)).ext HS.out.ext) (by rw [HH.out.2.2.2.2.2.2.2.2.2.2.2.2]; exact hc1)
              rw [HH.out.2.2.2.2.2.2.2.2.2.2.2.2] at h9
              exact h9) HSz.out).mono ?_
            rintro e W5 ⟨v5, rfl, hx5, hN5⟩
            have HF := Lib.hid (⟨HS.out.ext.trans hx5, hN5⟩ : _ ∧ _)
            clear hx5 hN5 HS
            refine hK _ _ ⟨Ex.mk _ HF.out.1, rfl⟩ ?_
            clear hK K
            refine anyC_more [18, 19, 20, 21] 0 (by kernel_rfl) ⟨Ex.mk _ HF.out.1, rfl⟩ ?_
            simp only [pick, List.getElem?_toArray, List.getElem?_cons_zero, List.getElem?_cons_succ]
            repeat (go_big_quiet_step (fail))
            refine wpQuiet_nil ?_
            refine anyC_end (by kernel_rfl) ?_
            go_wp2_with fail
            refine NoPanic.normal ?_
            go_wp2_with fail
            go_meet
            exact ⟨HF.out.1, HF.out.2, rfl⟩
        · go_wp2_with fail
          have S := S.new ((Ext.refl [] _).alloc _) (oSl 26 1 _ 0 []) empty_row (fun k hk => by simp [oSl, Value.ownBlock] at hk; omega)
          refine hK _ _ ⟨Ex.mk _ S.ext, rfl⟩ ?_
          clear hK K
          refine anyC_one (f := 8) (i := 3) (by kernel_rfl) (by decide) rfl rfl (fun K hK => ?_)
          go_wp2_with fail
          refine (HO.out _ S.ext).mono ?_
          rintro e W1 ⟨v2, rfl, T⟩
          have S := S.new T.ext _ (T.get 0 rfl) (T.base _ (by simp))
          clear T
          refine hK _ _ ⟨Ex.mk _ S.ext, rfl⟩ ?_
          clear hK K
          refine anyC_one (f := 7) (i := 7) (by kernel_rfl) (by decide) rfl rfl (fun K hK => ?_)
          have ho : World.ownsRow _ 0 9 1 _ (i - p) (stC (names.drop p)) := S.get 0 rfl
          obtain ⟨an, cn, W2, hr, ho2, hx2, hf2⟩ := HA.out _ _ ho S.ext
          refine wp_append_run _ _ _ _ rfl rfl rfl hr ?_
          have S := S.upd 0 (oSl 9 1 (.slice an i cn) i (stC (names.drop p) ++ (stC names).take p)) rfl hx2 hf2 ho2
          clear ho hr ho2 hx2 hf2
          refine hK _ _ ⟨Ex.mk _ S.ext, rfl⟩ ?_
          clear hK K
          refine anyC_one (f := 6) (i := 12) (by kernel_rfl) (by decide) rfl rfl (fun K hK => ?_)
          have ho : World.ownsRow _ 0 26 1 _ 0 [] := S.get 1 rfl
          obtain ⟨at1, ct1, W3, hr, ho2, hx2, hf2⟩ := HB.out _ _ ho S.ext
          refine wp_append_run _ _ _ _ rfl rfl rfl hr ?_
          have S := S.upd 1 (oSl 26 1 (.slice at1 (i - p) ct1) (i - p) (vs.drop p)) rfl hx2 hf2 ho2
          clear ho hr ho2 hx2 hf2
          refine hK _ _ ⟨Ex.mk _ S.ext, rfl⟩ ?_
          clear hK K
          refine anyC_one (f := 5) (i := 16) (by kernel_rfl) (by decide) rfl rfl (fun K hK => ?_)
          have ho : World.ownsRow _ 0 26 1 _ (i - p) (vs.drop p) := S.get 1 rfl
          obtain ⟨at2, ct2, W4, hr, ho2, hx2, hf2⟩ := HC.out _ _ ho S.ext
          refine wp_append_run _ _ _ _ rfl rfl rfl hr ?_
          have S := S.upd 1 (oSl 26 1 (.slice at2 i ct2) i (vs.drop p ++ vs.take p)) rfl hx2 hf2 ho2
          clear ho hr ho2 hx2 hf2
          refine hK _ _ ⟨Ex.mk _ S.ext, rfl⟩ ?_
          clear hK K
          refine anyC_one (f := 4) (i := 17) (by kernel_rfl) (by decide) rfl rfl (fun K hK => ?_)
          go_wp2_with fail
          have HS := Lib.hid S
          clear S
          refine (H4.out _ _ _ (by
            obtain ⟨b1, c1, he, hc1, hv1⟩ := own_vals (HS.out.get 0 rfl : World.ownsRow _ 0 9 1 _ i (stC (names.drop p) ++ (stC names).take p))
            cases he
            have h9 := vals_strs (cap := cn) (l := N2) (by rw [← HH.out.2.2.2.2.2.2.2.2.1, stC, List.map_append, List.map_take]; exact hv1) (by rw [HH.out.2.2.2.2.2.2.2.2.2.2.2.1]; exact hc1)
            rw [HH.out.2.2.2.2.2.2.2.2.2.2.2.1] at h9
            exact h9) (by
            obtain ⟨b1, c1, he, hc1, hv1⟩ := own_vals (HS.out.get 1 rfl : World.ownsRow _ 0 26 1 _ i (vs.drop p ++ vs.take p))
            cases he
            have h9 := vals_trees (cap := ct2) (ls := L2) hv1 (by rw [← HH.out.2.2.2.2.2.2.2.2.2.1]; exact ((HT.out.1.drop p).append (HT.out.1.take p)).ext HS.out.ext) (by rw [HH.out.2.2.2.2.2.2.2.2.2.2.2.2]; exact hc1)
            rw [HH.out.2.2.2.2.2.2.2.2.2.2.2.2] at h9
            exact h9) HSz.out).mono ?_
          rintro e W5 ⟨v5, rfl, hx5, hN5⟩
          have HF := Lib.hid (⟨HS.out.ext.trans hx5, hN5⟩ : _ ∧ _)
          clear hx5 hN5 HS
          refine hK _ _ ⟨Ex.mk _ HF.out.1, rfl⟩ ?_
          clear hK K
          refine anyC_more [18, 19, 20, 21] 0 (by kernel_rfl) ⟨Ex.mk _ HF.out.1, rfl⟩ ?_
          simp only [pick, List.getElem?_toArray, List.getElem?_cons_zero, List.getElem?_cons_succ]
          repeat (go_big_quiet_step (fail))
          refine wpQuiet_nil ?_
          refine anyC_end (by kernel_rfl) ?_
          go_wp2_with fail
          refine NoPanic.normal ?_
          go_wp2_with fail
          go_meet
          exact ⟨HF.out.1, HF.out.2, rfl⟩
      case rest =>
        obtain ⟨hx4, hN4, rfl⟩ := hcut
        clear hs1 hs2 ht1 ht2 HO HA HB HC HT H4
        obtain ⟨⟨hde, hdd⟩, -⟩ := HH.out.2.2.2.2.2.2.2.2.2.2
        have HX4 := Lib.hid (⟨HX3.out.1.trans hx4, HX3.out.2.ext hx4, hdd ▸ hN4⟩ : _ ∧ _ ∧ _)
        have hdl : D.1.length ≤ 65536 := by
          by_cases h0 : D.2 = 0
          · have h := HH.out.2.2.2.2.2.2.2.1
            rw [← h] at h0 ⊢
            obtain ⟨-, -, -, hc, hd⟩ := diction_ok h0
            rw [hd]
            exact (check_zero hc).2.1
          · have h := HH.out.2.2.2.2.2.2.2.1
            rw [← h] at h0 ⊢
            rw [diction_bad h0]
            exact Nat.zero_le _
        have H5 := Lib.hid (fun (u2 v2 : Value) (W : World) (h1 : NodesAt W u2 D.1) (h2 : NodesAt W v2 D.1) => lsame_walk u2 v2 D.1 D.1 W h1 h2 (by omega) (by omega))
        simp only [(sameL_iff _ _).2 rfl] at H5
        clear hx4 hN4 hdd hdl
        obtain ⟨e1, he1⟩ : ∃ e1, D.2 = e1 := ⟨_, rfl⟩
        obtain ⟨e2, he2⟩ : ∃ e2, D2.2 = e2 := ⟨_, rfl⟩
        rw [he1, he2] at hde ⊢
        obtain ⟨b3, c3, hv3, -, -⟩ := id HX4.out.2.1
        obtain ⟨b4, c4, hv4, -, -⟩ := id HX4.out.2.2
        subst hv3 hv4
        have HE := Lib.hid (⟨he1, he2⟩ : _ ∧ _)
        clear he1 he2
        by_cases h0 : e1 = 0
        case neg =>
          have q1 : (e1 == 0) = false := beq_eq_false_iff_ne.2 h0
          have q2 : (e2 == 0) = false := beq_eq_false_iff_ne.2 (fun h => h0 (hde.2 h))
          have q3 : (e1 != 0) = true := bne_iff_ne.2 h0
          clear hde h0
          go_wp2_with fail
          refine (H5.out _ _ _ HX4.out.2.1 HX4.out.2.2).mono ?_
          rintro e w5 ⟨rfl, hx5⟩
          have HX5 := Lib.hid (HX4.out.1.trans hx5)
          clear hx5
          go_wp2_with fail
          have hx6 : Ext [] w (w5.alloc (.cells #[.int .i64 8, .int .i64 0, .int .i64 0, .string ⟨#[]⟩, .slice none 0 0] 37)) := HX5.out.alloc _
          obtain ⟨W6, hW6⟩ : ∃ W6, w5.alloc (.cells #[.int .i64 8, .int .i64 0, .int .i64 0, .string ⟨#[]⟩, .slice none 0 0] 37) = W6 := ⟨_, rfl⟩
          rw [hW6] at hx6 ⊢
          have HX6 := Lib.hid hx6
          clear hW6 hx6
          go_loopg [12, 13, 14, 15] 0 (fun g _ iv _ _ wr => iv = .int .i64 0 ∧ W6 = wr)
          case atStart => exact ⟨rfl, rfl⟩
          case round =>
            obtain ⟨rfl, rfl⟩ := hrel
            by_cases hi0 : (0 : Int) < (i : Int)
            · go_wp2_with fail
              go_ret
              exact ⟨rfl, HX6.out⟩
            · go_wp2_with fail
              go_ret
              exact ⟨rfl, HX6.out⟩
        case pos =>
          obtain rfl : e2 = 0 := hde.1 h0
          subst h0
          clear hde
          obtain ⟨P, hPz⟩ : ∃ P, names.zip ls = P := ⟨_, rfl⟩
          have hdict := diction_ok (names := names) (ls := ls) (by rw [HH.out.2.2.2.2.2.2.2.1]; exact HE.out.1)
          rw [HH.out.2.2.2.2.2.2.2.1, hPz] at hdict
          obtain ⟨-, hok, hnd, hck, hDw⟩ := hdict
          have hPl : P.length = i := by rw [← hPz, List.length_zip, HH.out.2.2.1, HH.out.2.2.2.1, Nat.min_self]
          have hPs : ∀ p ∈ P, p.1.size ≤ 1000000 ∧ ∀ x ∈ p.2, x.s.size ≤ 1000000 := fun p hp => by
            rw [← hPz] at hp
            obtain ⟨h1, h2⟩ := List.of_mem_zip (a := p.1) (b := p.2) hp
            exact ⟨by have := HSz.out _ h1; omega, fun x hx => by have := (HH.out.2.2.2.2.1 _ h2).2 x hx; omega⟩
          have HQ := Lib.hid (⟨hok, hnd, hck, hDw, hPl, hPs, hPz⟩ : _ ∧ _ ∧ _ ∧ _ ∧ _ ∧ _ ∧ _)
          clear hok hnd hck hDw hPl hPs hPz
          go_wp2_with fail
          refine (H5.out _ _ _ HX4.out.2.1 HX4.out.2.2).mono ?_
          rintro e w5 ⟨rfl, hx5⟩
          have HX5 := Lib.hid (⟨HX4.out.1.trans hx5, HX4.out.2.1.ext hx5⟩ : _ ∧ _)
          clear hx5 HX4 HX3
          go_wp2_with fail
          have hx6 : Ext [] w5 (w5.alloc (.cells #[.int .i64 8, .int .i64 0, .int .i64 0, .string ⟨#[]⟩, .slice none 0 0] 37)) := (Ext.refl [] w5).alloc _
          have hN6 := node_rows (x := rootN 8 []) (heap_alloc_at (w := w5) (.cells #[.int .i64 8, .int .i64 0, .int .i64 0, .string ⟨#[]⟩, .slice none 0 0] 37)) rfl (by decide) (by decide)
          obtain ⟨W6, hW6⟩ : ∃ W6, w5.alloc (.cells #[.int .i64 8, .int .i64 0, .int .i64 0, .string ⟨#[]⟩, .slice none 0 0] 37) = W6 := ⟨_, rfl⟩
          obtain ⟨q6, hq6⟩ : ∃ q6, w5.heap.size = q6 := ⟨_, rfl⟩
          rw [hW6] at hx6 hN6 ⊢
          rw [hq6] at hN6 ⊢
          have HX6 := Lib.hid (⟨HX5.out.1.trans hx6, HX5.out.2.ext hx6, hN6⟩ : _ ∧ _ ∧ _)
          clear hW6 hx6 hN6 hq6 HX5
          go_loopg [12, 13, 14, 15] i (fun g c12 iv _ _ wr => ∃ j : Nat, g + j = i ∧ iv = .int .i64 j ∧ NodesAt wr c12 (wd (srt (P.take j))) ∧ Ext [] W6 wr)
          case atStart => exact ⟨0, by omega, rfl, HX6.out.2.2, Ext.refl _ _⟩
          case round =>
            obtain ⟨j, hgj, rfl, hN, hx⟩ := hrel
            obtain ⟨kb, kc, hkv, -, -⟩ := id hN
            subst hkv
            by_cases hlt : j < i
            · obtain ⟨g, rfl⟩ : ∃ g, gk = g + 1 := ⟨gk - 1, by omega⟩
              have hltz : (j : Int) < (i : Int) := by omega
              have hjn : j < names.length := by rw [HH.out.2.2.1]; exact hlt
              have hjl : j < ls.length := by rw [HH.out.2.2.2.1]; exact hlt
              have hPj : P[j]? = some (names[j]'hjn, ls[j]'hjl) := by
                rw [← HQ.out.2.2.2.2.2.2, List.getElem?_eq_getElem (by rw [List.length_zip]; omega), List.getElem_zip]
              have hxx := HX6.out.1.trans hx
              obtain ⟨b9, o9, rfl, c9⟩ := (strs_vals (HH.out.2.2.1 ▸ HH.out.1)).2.2 j _ (by rw [stC, List.getElem?_map, List.getElem?_eq_getElem hjn]; rfl)
              obtain ⟨b8, o8, vk, rfl, c8, n8⟩ := (trees_row HH.out.2.1).2 j hjl
              obtain ⟨xb, xc, rfl, -, -⟩ := id n8
              have c9 := hxx.cell c9
              have c8 := hxx.cell c8
              have n8 := n8.ext hxx
              obtain ⟨-, -, hck'⟩ := part_check (P := P) (Q := P.take j) (R := P.drop j) (by rw [List.take_append_drop]) HQ.out.1 HQ.out.2.1 HQ.out.2.2.1
              have hLt : Lt (wd (srt (P.take j))) := wd_lt hck' (fun q hq => HQ.out.2.2.2.2.2.1 q (List.mem_of_mem_take ((srt_perm _).mem_iff.1 hq)))
              have hstep := set_step HQ.out.1 HQ.out.2.1 HQ.out.2.2.1 hPj
              have hsz := HQ.out.2.2.2.2.2.1 _ (List.mem_of_getElem? hPj)
              have hltl : Lt (ls[j]'hjl) := ⟨by have := (HH.out.2.2.2.2.1 _ (List.getElem_mem hjl)).1; omega, hsz.2⟩
              have hent : (entsN (wd (srt (P.take j))) (names[j]'hjn)).length ≤ 19 := by
                rw [show entsN (wd (srt (P.take j))) (names[j]'hjn) = butE (srt (P.take j)) (names[j]'hjn) from ents_whole hck' _]
                have h1 := but_len (srt (P.take j)) (names[j]'hjn)
                rw [(srt_perm _).length_eq, List.length_take] at h1
                omega
              simp only at hstep hsz
              generalize names[j]'hjn = s at *
              generalize ls[j]'hjl = t at *
              obtain ⟨tl, htl⟩ : ∃ tl, t.length = tl := ⟨_, rfl⟩
              obtain ⟨kl, hkl⟩ : ∃ kl, (wd (srt (P.take j))).length = kl := ⟨_, rfl⟩
              have HSet := Lib.hid (fun W (hx2 : Ext [] wr W) => set_walk _ _ (wd (srt (P.take j))) t s W (hN.ext hx2) (n8.ext hx2) hLt hltl hsz.1 hent)
              simp only [hstep] at HSet
              rw [htl] at HSet c8
              rw [hkl] at HSet ⊢
              have c1 : ∀ V : Ex wr, V.w.cell? ⟨b9, o9 + j, none⟩ = some (.string s) := fun V => V.cell c9
              have c2 : ∀ V : Ex wr, V.w.cell? ⟨b8, o8 + j, none⟩ = some (.slice xb tl xc) := fun V => V.cell c8
              have HX := Lib.hid hx
              clear hN n8 hLt hstep hsz hltl hent htl hkl hPj hxx c9 c8 hck' hx hjn hjl
              go_upto_region 19 with (fail)
              refine wp_region_perm (C := fun w' => ∃ x : Ex wr, w' = x.w) [0, 1, 2, 3, 4, 5, 6, 7, 8] 14 (by kernel_rfl) (by kernel_rfl) ⟨Ex.mk _ ((Ext.refl [] wr).drew), rfl⟩ ?_
              simp only [pick, List.getElem?_toArray, List.getElem?_cons_zero, List.getElem?_cons_succ, List.drop_succ_cons, List.drop_zero]
              repeat (go_big_quiet_step (fail))
              refine wpQuiet_nil ?_
              refine anyC_one (f := 4) (i := 9) (by kernel_rfl) (by decide) rfl rfl (fun K hK => ?_)
              go_wp2_with fail
              refine (HSet.out _ ((Ext.refl [] wr).drew)).mono ?_
              rintro e W2 ⟨v2, rfl, hx2, hN2⟩
              have HF := Lib.hid (⟨(Ext.refl [] wr).drew.trans hx2, hN2⟩ : _ ∧ _)
              clear hx2 hN2 c1 c2 HSet
              refine hK _ _ ⟨Ex.mk _ HF.out.1, rfl⟩ ?_
              clear hK K
              refine anyC_more [10, 11, 12, 13] 0 (by kernel_rfl) ⟨Ex.mk _ HF.out.1, rfl⟩ ?_
              simp only [pick, List.getElem?_toArray, List.getElem?_cons_zero, List.getElem?_cons_succ]
              repeat (go_big_quiet_step (fail))
              refine wpQuiet_nil ?_
              refine anyC_end (by kernel_rfl) ?_
              go_wp2_with fail
              refine NoPanic.normal ?_
              go_wp2_with fail
              go_roundg g
              case measure => omega
              case rel => exact ⟨j + 1, by omega, by go_num, HF.out.2, HX.out.trans HF.out.1⟩
            · obtain rfl : gk = 0 := by omega
              obtain rfl : j = i := by omega
              have hd : wd (srt (P.take j)) = D.1 := by rw [← HQ.out.2.2.2.2.1, List.take_length, HQ.out.2.2.2.1]
              rw [hd] at hN ⊢
              have HL := Lib.hid (H5.out _ _ _ (HX6.out.2.1.ext hx) hN)
              have HX := Lib.hid (HX6.out.1.trans hx)
              clear hN hx hd
              go_wp2_with fail
              refine HL.out.mono ?_
              rintro e w7 ⟨rfl, hx7⟩
              have HX7 := Lib.hid (HX.out.trans hx7)
              clear hx7
              go_wp2_with fail
              go_ret
              exact ⟨rfl, HX7.out⟩
end Go.Proofs.YtkjcjklnclahdaaDoor.Tr
