/-
  xstream.Read walked, of rows that may be.
-/
import Derived.Test.YtkaimeogebgofaaGreatDoorXsS
import Derived.Test.YtkaimeogebgofaaGreatDoorXsF
import Derived.Test.YtkaimeogebgofaaGreatDoorXtA
namespace Go.Proofs.YtkaimeogebgofaaGreatDoor.Xs
open Go.RowKit
open Go.Proofs.YtkaimeogebgofaaGreatDoor.Tr

/-- a row's entry -/
def rowE (l : List UInt8) (num : Int) : En :=
  if ((beN (cutB l 0 1) : Nat) : Int) = 0 then ⟨num, 0, 0, 0⟩ else ⟨num, (beN (cutB l 0 1) : Nat), (beN (cutB l 1 4) : Nat), (beN (cutB l 5 2) : Nat)⟩
def rdE (data : List UInt8) (R : List Int) : List En := (List.range R.length).map fun i => rowE (cutB data (7 * i) 7) (R.getD i 0)
theorem rdE_len (data : List UInt8) (R : List Int) : (rdE data R).length = R.length := by rw [rdE, List.length_map, List.length_range]
theorem rdE_succ (data : List UInt8) (R : List Int) (i : Nat) (h : i < R.length) : (rdE data R).take (i + 1) = (rdE data R).take i ++ [rowE (cutB data (7 * i) 7) (R[i]'h)] := by
  have hi : i < (rdE data R).length := by rw [rdE_len]; exact h
  rw [List.take_succ_eq_append_getElem hi]
  have e : (rdE data R)[i]'hi = rowE (cutB data (7 * i) 7) (R[i]'h) := by
    simp only [rdE, List.getElem_map, List.getElem_range]
    rw [List.getD_eq_getElem?_getD, List.getElem?_eq_getElem h]
    rfl
  rw [e]
theorem infoEn : (Tryz.prog.info? 37).map (fun i => (i.zero, i.size, i.bytes)) = some (some (.agg #[.int .i64 0, .int .i64 0, .int .i64 0, .int .i64 0]), 4, 32) := by kernel_rfl
theorem fit_byte : ∀ (l : List UInt8), 0 ≤ ((beN (cutB l 0 1) : Nat) : Int) := fun l => by omega
set_option maxRecDepth 100000 in
set_option maxHeartbeats 16000000 in
theorem read21_walk (dv : Value) (d t0 t1 : List Nd) (N : Int) (pairs R : List Int) (s : ByteArray) (E : List En) (w : World) (h : NodesAt w dv d) (hl : Lt d) (hD : isN d 8 = true) (h0 : 0 < d.length)
    (hW : getN d kW = some t0) (hI : KInts t0 [1, 4, 2]) (hS : getN d kSize = some t1) (hS1 : KInt t1 N) (hN : 0 ≤ N ∧ N ≤ 8388608)
    (hIx : getN d kIndex = none ∧ pairs = [0, N] ∨ ∃ t2, getN d kIndex = some t2 ∧ KInts t2 pairs) (hp2 : pairs.length % 2 = 0) (hpl : pairs.length ≤ 65536) (hR : numsF N R.length pairs [] = some R) (hRl : R.length ≤ 10000)
    (hs : s.size = 7 * R.length) (hp : E.Perm (rdE s.data.toList R)) (hso : E.Pairwise fun x y => x.num < y.num) (hE : secN none E = true) :
    Calls Tryz.prog 10 #[dv, .string s] w fun e w' => ∃ v2, e = .returned (.tuple #[v2, .int .i64 0]) ∧ Ext [] w w' ∧ EnsAt w' v2 E := by
  obtain ⟨i0, hif, hz0, hz1, hz2⟩ := info_parts infoEn
  obtain ⟨hck, hk8⟩ := of_decide_eq_true hD
  have HC := Lib.hid (fun W (hx : Ext [] w W) => check_walk dv d W (h.ext hx) hl.len hl.s)
  rw [hck] at HC
  have HWd := Lib.hid (fun W (hx : Ext [] w W) => widths21_walk dv d t0 W (h.ext hx) hl hW hI)
  have HNu := Lib.hid (fun W (hx : Ext [] w W) => numbers21_walk dv d t1 N pairs R W (h.ext hx) hl hS hS1 hN hIx hp2 hpl hR (by omega))
  have HCut := Lib.hid (fun (x : ByteArray) wb wc W (hw : IntsAt W wb [1, 4, 2]) (hx : x.size = 7) => cut21_walk x wb wc [1, 4, 2] W hw (by simp; omega) (by omega) (by simp) (by simp))
  simp only [List.length_cons, List.length_nil, Nat.zero_add, Nat.reduceAdd] at HCut
  have hEl : E.length = R.length := by rw [hp.length_eq, rdE_len]
  have HSo := Lib.hid (fun v W (hv : W.ownsRow 0 37 4 v (rdE s.data.toList R).length (enC (rdE s.data.toList R))) => sort21 (rdE s.data.toList R) E v W hv hp hso (by rw [rdE_len]; omega))
  have HSe := Lib.hid (fun v W (hv : EnsAt W v E) => sec_walk v E W hv (by omega))
  rw [show secC E = 0 by rw [secC, hE]; rfl] at HSe
  obtain ⟨base, cap, rfl, -, hNd⟩ := id h
  obtain ⟨b, o, rfl, hnd⟩ := node_in hNd 0 h0
  rw [Nat.zero_mul, Nat.add_zero, show ((0 : Nat) : Int) = 0 from rfl] at hnd
  obtain ⟨r1, -⟩ := hnd
  rw [hk8] at r1
  obtain ⟨dl, hdl⟩ : ∃ dl, d.length = dl := ⟨_, rfl⟩
  rw [hdl] at HC HWd HNu h0 ⊢
  obtain ⟨K, hK⟩ : ∃ K, R.length = K := ⟨_, rfl⟩
  rw [hK] at HNu hRl hs
  have HR := Lib.hid (⟨hK, hs⟩ : _ ∧ _)
  have h0z : (0 : Int) < (dl : Int) := by omega
  have hrem : Int.tmod (s.size : Int) 7 = 0 := (show Int.tmod (s.size : Int) 7 = ((s.size % 7 : Nat) : Int) from rfl).trans (by omega)
  have hquo : Int.tdiv (s.size : Int) 7 = (K : Int) := (show Int.tdiv (s.size : Int) 7 = ((s.size / 7 : Nat) : Int) from rfl).trans (by omega)
  clear hs hck hk8 hD hW hI hS hS1 hIx hp2 hpl hR hp hso hE hNd h hl hdl hEl
  go_enter Tryz.func10, Tryz.ntmps10
  go_wp2_with fail
  refine (HC.out _ (Ext.refl _ _)).mono ?_
  rintro e w1 ⟨rfl, hx⟩
  have r1 := hx.cell r1
  have HX1 := Lib.hid hx
  clear hx HC
  go_wp2_with fail
  refine (HWd.out _ HX1.out).mono ?_
  rintro e w2 ⟨wb, wc, rfl, hx, hIw⟩
  obtain ⟨wp, wo, rfl, e0⟩ := hIw 0 (by simp)
  have e0 : w2.cell? ⟨wp, wo, none⟩ = some (.int .i64 1) := e0
  have HX2 := Lib.hid (⟨HX1.out.trans hx, hIw⟩ : _ ∧ _)
  clear hx HWd r1 hIw HX1
  go_wp2_with fail
  refine (HNu.out _ HX2.out.1).mono ?_
  rintro e w3 ⟨rb, rc, rfl, hx, hIr⟩
  have e0 := hx.cell e0
  have HX3 := Lib.hid (⟨HX2.out.1.trans hx, fun i hi => (by obtain ⟨x1, x2, x3, x4⟩ := HX2.out.2 i hi; exact ⟨x1, x2, x3, hx.cell x4⟩ : _), hIr⟩ : Ext [] w w3 ∧ IntsAt w3 (some ⟨wp, wo, none⟩) [1, 4, 2] ∧ IntsAt w3 rb R)
  clear hx HNu hIr HX2
  go_wp2_with fail
  have S := (Sep.start w3).new (Ext.refl _ _) (oSl 37 4 (.slice none 0 0) 0 []) (World.ownsRow_nil _ _ _ _) (fun q hq => by simp [oSl, Value.ownBlock] at hq)
  have HS := Lib.hid S
  clear S
  go_loopg [10, 11, 12, 13, 14, 53] K (fun g ov v11 v12 v13 v14 iv wr => ∃ i : Nat, g + i = K ∧ iv = .int .i64 i ∧ Sep w3 wr [oSl 37 4 ov i (enC ((rdE s.data.toList R).take i))])
  case atStart => exact ⟨0, by omega, rfl, HS.out⟩
  case round =>
    clear HS
    obtain ⟨i, hgi, rfl, S⟩ := hrel
    have hr0 : wr.ownsRow 0 37 4 u10 i (enC ((rdE s.data.toList R).take i)) := S.get 0 rfl
    by_cases hlt : i < K
    case neg =>
      obtain rfl : gk = 0 := by omega
      have hiK : i = K := by omega
      subst hiK
      have hfull : (rdE s.data.toList R).take i = rdE s.data.toList R := List.take_of_length_le (by rw [rdE_len, HR.out.1]; omega)
      rw [hfull] at hr0
      have hr1 : wr.ownsRow 0 37 4 u10 (rdE s.data.toList R).length (enC (rdE s.data.toList R)) := by rw [rdE_len, HR.out.1]; exact hr0
      have HSo2 := Lib.hid (HSo.out _ _ hr1)
      have HB := Lib.hid (fun j (hj : j < w3.heap.size) (hT : j ∈ u10.ownBlock.toList) => (by have := S.base (oSl 37 4 u10 i (enC ((rdE s.data.toList R).take i))) (by simp) j hT; omega : False))
      have HXS := Lib.hid S.ext
      obtain ⟨ao, cp, rfl⟩ := row_slice hr0
      clear S hr0 hr1 hfull HSo e0 hrem hquo
      go_wp2_with fail
      refine HSo2.out.mono ?_
      rintro e w5 ⟨rfl, hx5, hE5⟩
      have HX5 := Lib.hid (⟨HX3.out.1.trans (HXS.out.trans' hx5 (fun i hi hT => (HB.out i hi hT).elim)), hE5⟩ : _ ∧ _)
      clear hx5 hE5 HSo2 HB HXS
      go_wp2_with fail
      refine (HSe.out _ _ HX5.out.2).mono ?_
      rintro e w6 ⟨rfl, hx6⟩
      have HX6 := Lib.hid (⟨HX5.out.1.trans hx6, HX5.out.2.ext hx6⟩ : _ ∧ _)
      clear hx6 HX5 HSe
      go_wp2_with fail
      go_ret2
      exact ⟨_, rfl, HX6.out.1, HX6.out.2⟩
    case pos =>
    obtain ⟨g, rfl⟩ : ∃ g, gk = g + 1 := ⟨gk - 1, by omega⟩
    obtain ⟨ao3, c3, rfl⟩ := row_slice hr0
    have hltz : (i : Int) < (K : Int) := by omega
    have hiR : i < R.length := by rw [HR.out.1]; exact hlt
    obtain ⟨b5, o5, rfl, c5⟩ := HX3.out.2.2 i hiR
    have c5 := S.ext.cell c5
    have f0 := S.ext.cell e0
    have htk := rdE_succ s.data.toList R i hiR
    generalize R[i]'hiR = num at *
    obtain ⟨P, hP⟩ : ∃ P, 7 * i = P := ⟨_, rfl⟩
    rw [hP] at htk
    have hq1 : (i : Int) * 7 = (P : Int) := by omega
    have hq2 : ((i : Int) + 1) * 7 = (P : Int) + 7 := by omega
    have hPz : (0 : Int) ≤ (P : Int) := by omega
    have hPs : (P : Int) + 7 ≤ (s.size : Int) := by have := HR.out.2; omega
    have hxl : (s.extract P (P + 7)).size = 7 := by
      show (s.extract P (P + 7)).data.toList.length = 7
      rw [extract_cut, cutB_len]
      show P + 7 ≤ s.size
      rw [HR.out.2]; omega
    have hxc := extract_cut s P 7
    have HQ := Lib.hid (HCut.out (s.extract P (P + 7)) (some ⟨wp, wo, none⟩) wc wr (fun j hj => (by obtain ⟨x1, x2, x3, x4⟩ := HX3.out.2.1 j hj; exact ⟨x1, x2, x3, S.ext.cell x4⟩ : _)) hxl)
    rw [hxc] at HQ
    obtain ⟨L, hL⟩ : ∃ L, cutB s.data.toList P 7 = L := ⟨_, rfl⟩
    rw [hL] at HQ htk
    have HX := Lib.hid (⟨S, hr0, htk⟩ : _ ∧ _ ∧ _)
    clear S hr0 htk hP hL hxl hxc
    go_wp2_with fail
    refine HQ.out.mono ?_
    rintro e w5 ⟨b7, c7, rfl, hx5, hI7⟩
    obtain ⟨p7, o7, rfl, d0⟩ := hI7 0 (by rw [cutN_len]; simp)
    obtain ⟨_, _, hq7, d1⟩ := hI7 1 (by rw [cutN_len]; simp)
    cases hq7
    obtain ⟨_, _, hq7, d2⟩ := hI7 2 (by rw [cutN_len]; simp)
    cases hq7
    have d0 : w5.cell? ⟨p7, o7, none⟩ = some (.int .i64 ((beN (cutB L 0 1) : Nat) : Int)) := d0
    have d1 : w5.cell? ⟨p7, o7 + 1, none⟩ = some (.int .i64 ((beN (cutB L 1 4) : Nat) : Int)) := d1
    have d2 : w5.cell? ⟨p7, o7 + 2, none⟩ = some (.int .i64 ((beN (cutB L 5 2) : Nat) : Int)) := d2
    have f0 := hx5.cell f0
    have HX5 := Lib.hid (⟨HX.out.1.quiet hx5, ownsRow_ext HX.out.2.1 hx5 (by simp)⟩ : _ ∧ _)
    have HTk := Lib.hid HX.out.2.2
    clear hx5 hI7 HQ HX
    unfold rowE at HTk
    obtain ⟨p0, hp0⟩ : ∃ p0, ((beN (cutB L 0 1) : Nat) : Int) = p0 := ⟨_, rfl⟩
    obtain ⟨p1, hp1⟩ : ∃ p1, ((beN (cutB L 1 4) : Nat) : Int) = p1 := ⟨_, rfl⟩
    obtain ⟨p2, hp2⟩ : ∃ p2, ((beN (cutB L 5 2) : Nat) : Int) = p2 := ⟨_, rfl⟩
    rw [hp0] at d0 HTk
    rw [hp1] at d1 HTk
    rw [hp2] at d2 HTk
    have k0 : ∀ y : Ex w5, y.w.cell? ⟨p7, o7, none⟩ = some (.int .i64 p0) := fun y => y.cell d0
    have k1 : ∀ y : Ex w5, y.w.cell? ⟨p7, o7 + 1, none⟩ = some (.int .i64 p1) := fun y => y.cell d1
    have k2 : ∀ y : Ex w5, y.w.cell? ⟨p7, o7 + 2, none⟩ = some (.int .i64 p2) := fun y => y.cell d2
    clear d0 d1 d2 hp0 hp1 hp2
    go_upto_region 16 with (fail)
    clear f0
    refine wp_region_perm (C := fun w' => ∃ y : Ex w5, w' = y.w) [0, 1, 2, 3, 4, 5, 6, 7, 8, 9, 10] 12 (by kernel_rfl) (by kernel_rfl) ⟨Ex.mk _ ((Ext.refl [] w5).drew), rfl⟩ ?_
    simp only [pick, List.getElem?_toArray, List.getElem?_cons_zero, List.getElem?_cons_succ, List.drop_succ_cons, List.drop_zero]
    repeat (go_big_quiet_step (fail))
    refine wpQuiet_nil ?_
    clear k0 k1 k2
    refine anyC_one (f := 0) (i := 11) (by kernel_rfl) (by decide) rfl rfl (fun K9 hK9 => ?_)
    go_wp2_with fail
    refine hK9 _ _ ⟨Ex.mk _ (((Ext.refl [] w5).drew).alloc _), rfl⟩ ?_
    clear hK9 K9
    refine anyC_end (by kernel_rfl) ?_
    go_wp2_with fail
    refine NoPanic.normal ?_
    obtain ⟨W, hW⟩ : ∃ W, (w5.alloc (Obj.cells #[.int .i64 num, .int .i64 p0, .int .i64 p1, .int .i64 p2] 37)).drew = W := ⟨_, rfl⟩
    rw [hW]
    have hxW : Ext [] w5 W := by rw [← hW]; exact ((Ext.refl [] w5).alloc _).drew
    have hb : W.heap[w5.heap.size]? = some (.cells #[.int .i64 num, .int .i64 p0, .int .i64 p1, .int .i64 p2] 37 (0, 0)) := by rw [← hW]; exact heap_alloc_at _
    obtain ⟨p, hp⟩ : ∃ p, w5.heap.size = p := ⟨_, rfl⟩
    rw [hp] at hb ⊢
    have HW := Lib.hid (⟨hxW, hp, hb⟩ : _ ∧ _ ∧ _)
    have m1 := cellOf hb 1
    clear hW hxW hp
    by_cases hp0 : p0 = 0
    · subst hp0
      have m2 := cellOf hb 2
      have f2 := freeOf hb 2
      have hb1 := heap_setCell_same (i := 2) hb (.int .i64 0)
      have m3 := cellOf hb1 3
      have f3 := freeOf hb1 3
      have m4 := cellOf hb 3
      have f4 := freeOf hb 3
      clear hb hb1
      go_upto_region 19 with (fail)
      clear m1 m2 m3 m4 f2 f3 f4
      obtain ⟨W2, hW2⟩ : ∃ W2, (W.setCell ⟨p, 2, none⟩ (.int .i64 0)).setCell ⟨p, 3, none⟩ (.int .i64 0) = W2 := ⟨_, rfl⟩
      rw [hW2]
      have hb : W2.heap[p]? = some (.cells #[.int .i64 num, .int .i64 0, .int .i64 0, .int .i64 0] 37 (0, 0)) := by rw [← hW2]; exact heap_setCell_same (i := 3) (heap_setCell_same (i := 2) HW.out.2.2 _) _
      have hx2 : Ext [] w5 W2 := by rw [← hW2]; exact (HW.out.1.setCell _ _ (.inr (Nat.le_of_eq HW.out.2.1))).setCell _ _ (.inr (Nat.le_of_eq HW.out.2.1))
      have HZ := Lib.hid (⟨HX5.out.1.quiet hx2, ownsRow_ext HX5.out.2 hx2 (by simp), HTk.out⟩ : _ ∧ _ ∧ _)
      rw [if_pos rfl] at HZ
      clear hx2 hW2 HX5 HTk HW
      have n0 := cellOf hb 0
      have n1 := cellOf hb 1
      have n2 := cellOf hb 2
      have n3 := cellOf hb 3
      clear hb
      go_wp2_with (first | (at_builtin; refine wpList_append_lies _ rfl _ _ 22 rfl 0 37 i0 _ 4 32 Tryz.underlying22 hif hz0 hz1 hz2 rfl (by decide) (.slice ao3 i c3) i _ rfl (World.ownsRow.alloc HZ.out.2.1 _) ⟨W2.heap.size, 0, none⟩ 1 1 [.int .i64 num, .int .i64 0, .int .i64 0, .int .i64 0] rfl rfl (World.news_of_block (heap_alloc_at (w := W2) _)) (by simp [Value.oneCell']) (by decide) (by unfold maxLen; omega) (by omega) (by omega) (W2.heap.size + 1) (by simp) ?_; intro g6 cap2 w6 hown1 hgrow hat6 hlt6))
      have Pl := push_local (cap := cap2) (n := i + 1) hgrow hat6
      go_roundg g
      case measure => omega
      case rel => exact ⟨i + 1, by omega, by go_num, HZ.out.1.upd 0 (oSl 37 4 (.slice (some ⟨g6, 0, none⟩) (i + 1) cap2) (i + 1) (enC ((rdE s.data.toList R).take (i + 1)))) rfl Pl.1 Pl.2 (by rw [HZ.out.2.2, enC_append]; exact hown1)⟩
    · have HZ := Lib.hid (⟨HX5.out.1.quiet HW.out.1, ownsRow_ext HX5.out.2 HW.out.1 (by simp), HTk.out⟩ : _ ∧ _ ∧ _)
      rw [if_neg hp0] at HZ
      clear HX5 HTk HW m1
      have n0 := cellOf hb 0
      have n1 := cellOf hb 1
      have n2 := cellOf hb 2
      have n3 := cellOf hb 3
      clear hb
      go_wp2_with (first | (at_builtin; refine wpList_append_lies _ rfl _ _ 22 rfl 0 37 i0 _ 4 32 Tryz.underlying22 hif hz0 hz1 hz2 rfl (by decide) (.slice ao3 i c3) i _ rfl (World.ownsRow.alloc HZ.out.2.1 _) ⟨W.heap.size, 0, none⟩ 1 1 [.int .i64 num, .int .i64 p0, .int .i64 p1, .int .i64 p2] rfl rfl (World.news_of_block (heap_alloc_at (w := W) _)) (by simp [Value.oneCell']) (by decide) (by unfold maxLen; omega) (by omega) (by omega) (W.heap.size + 1) (by simp) ?_; intro g6 cap2 w6 hown1 hgrow hat6 hlt6))
      have Pl := push_local (cap := cap2) (n := i + 1) hgrow hat6
      go_roundg g
      case measure => omega
      case rel => exact ⟨i + 1, by omega, by go_num, HZ.out.1.upd 0 (oSl 37 4 (.slice (some ⟨g6, 0, none⟩) (i + 1) cap2) (i + 1) (enC ((rdE s.data.toList R).take (i + 1)))) rfl Pl.1 Pl.2 (by rw [HZ.out.2.2, enC_append]; exact hown1)⟩
end Go.Proofs.YtkaimeogebgofaaGreatDoor.Xs
