/-
  RcH, RcO, RcP, RcQ, RcR, RcS, in one text.
-/
import Derived.Test.YtgpgamohcafklaaGreatDoorRdA
import Derived.Laws.IdiomCopy
import Derived.Lib.SliceRun
import Derived.Lib.Overlaps
import Derived.Laws.Externs
import Derived.WalkKit
/-! RcH: reach.Reach walked. -/
namespace Go.Proofs.YtgpgamohcafklaaGreatDoor.Rc
open Go.RowKit
open Go.Proofs.YtgpgamohcafklaaGreatDoor.Tr

def inB (R : List Rf) (x : Om) : Bool := decide ((x.num, x.gen) ∈ R)
def reachN (root : Rf) (L : List Om) : List Om := L.filter (inB (allN root L))
theorem infoObj : (Tryz.prog.info? 33).map (fun i => (i.zero, i.size, i.bytes)) = some (some (.agg #[.int .i64 0, .int .i64 0, .slice none 0 0, .bool false, .string ⟨#[]⟩]), 5, 64) := by kernel_rfl
theorem sizeGraph : (Tryz.prog.info? 26).map (·.size) = some 3 := by kernel_rfl
theorem allG_ok (L : List Om) : ∀ (g i : Nat) (Q : List Rf), QOk L Q → QOk L (allG L g i Q)
  | 0, _, Q, h => h
  | g + 1, i, Q, h => by
    rw [allG]
    split
    · exact allG_ok L g (i + 1) _ (pushQ_ok L _ Q h)
    · exact h
theorem allN_ok (root : Rf) (L : List Om) : QOk L (allN root L) := by
  unfold allN
  split
  · rename_i h
    exact allG_ok L _ _ _ ⟨by simp, fun r hr => by rw [List.mem_singleton.1 hr]; exact h⟩
  · exact ⟨by simp, fun r hr => by cases hr⟩
theorem qok_wf {L : List Om} (hw : ∀ x ∈ L, OmWf x) {Q : List Rf} (h : QOk L Q) : ∀ r ∈ Q, RfWf r := fun r hr => by
  obtain ⟨x, hx⟩ := hasO_some (h.2 r hr)
  obtain ⟨h1, h2⟩ := findO_mem hx
  rw [h2]
  exact lt_wf (hw x h1)
set_option maxRecDepth 100000 in
set_option maxHeartbeats 16000000 in
theorem reach_walk (v : Value) (L : List Om) (root : Rf) (w : World) (h : OmsAt w v L) (hw : ∀ x ∈ L, OmWf x) (hr : RfWf root) (hl : L.length ≤ 100000) :
    Calls Tryz.prog 4 #[.agg #[v, .int .i64 root.1, .int .i64 root.2]] w fun e w' => ∃ v2, e = .returned (.agg #[v2, .int .i64 root.1, .int .i64 root.2]) ∧ Ext [] w w' ∧ OmsAt w' v2 (reachN root L) := by
  have HA := Lib.hid (fun W (hx : Ext [] w W) => all_walk v L root W (h.ext hx) hw hr hl)
  have hok := allN_ok root L
  have hqw := qok_wf hw hok
  have hql := qok_len hok
  obtain ⟨m0, m1⟩ := root
  obtain ⟨j0, hjf, hy0, hy1, hy2⟩ := info_parts infoObj
  obtain ⟨base, cap, rfl, -, hT⟩ := h
  obtain ⟨n, hln⟩ : ∃ n, L.length = n := ⟨_, rfl⟩
  obtain ⟨R, hR⟩ : ∃ R, allN (m0, m1) L = R := ⟨_, rfl⟩
  obtain ⟨Z, hZ⟩ : ∃ Z, reachN (m0, m1) L = Z := ⟨_, rfl⟩
  rw [hZ]
  rw [hR] at hqw hql
  simp only [hR] at HA
  have hZ2 : L.filter (inB R) = Z := by rw [← hZ, reachN, hR]
  obtain ⟨K, hK⟩ : ∃ K, R.length = K := ⟨_, rfl⟩
  have HH := Lib.hid (⟨hT, hln, hw, hqw, hZ2, hK⟩ : _ ∧ _ ∧ _ ∧ _ ∧ _ ∧ _)
  rw [hln] at hl hql HA ⊢
  rw [hK] at hql
  simp only [hK] at HA
  clear hT hln hw hR hZ hZ2 hqw hok hK hr
  have hmm := @run_makeMap Tryz.prog
  obtain ⟨W0, hW0⟩ : ∃ W0, (w.alloc (Obj.cells #[.slice base n cap, .int .i64 m0, .int .i64 m1] 26)).alloc (Obj.cells #[.slice none 0 0, .int .i64 0, .int .i64 0] 26) = W0 := ⟨_, rfl⟩
  have hx0 : Ext [] w W0 := by rw [← hW0]; exact ((Ext.refl [] w).alloc _).alloc _
  have hbA : W0.heap[w.heap.size]? = some (.cells #[.slice base n cap, .int .i64 m0, .int .i64 m1] 26 (0, 0)) := by rw [← hW0]; exact heap_alloc_old _ (heap_alloc_at _)
  have hbR : W0.heap[w.heap.size + 1]? = some (.cells #[.slice none 0 0, .int .i64 0, .int .i64 0] 26 (0, 0)) := by
    have := heap_alloc_at (w := w.alloc (Obj.cells #[.slice base n cap, .int .i64 m0, .int .i64 m1] 26)) (.cells #[.slice none 0 0, .int .i64 0, .int .i64 0] 26)
    rw [show (w.alloc (Obj.cells #[.slice base n cap, .int .i64 m0, .int .i64 m1] 26)).heap.size = w.heap.size + 1 from by simp, hW0] at this
    exact this
  have hm0 := set_made W0
  have hsz : w.heap.size + 2 ≤ W0.heap.size := by rw [← hW0]; simp
  have HB := Lib.hid (⟨hx0, hbA, hbR, hm0, hsz⟩ : _ ∧ _ ∧ _ ∧ _ ∧ _)
  have c0 := cellOf (heap_alloc_old (.map #[] 0) hbA) 0
  have c1 := cellOf (heap_alloc_old (.map #[] 0) hbA) 1
  have c2 := cellOf (heap_alloc_old (.map #[] 0) hbA) 2
  clear hx0 hbA hbR hm0 hsz
  show Calls _ _ #[.agg #[_, .int .i64 m0, .int .i64 m1]] _ _
  go_enter Tryz.func4, Tryz.ntmps4
  go_upto_region 1 with (fail)
  clear hW0
  go_wp2_with fail
  refine (HA.out _ (HB.out.1.alloc _)).mono ?_
  rintro e w1 ⟨v2, rfl, S1⟩
  have hr1 : w1.ownsRow 0 24 2 v2 K (rfC R) := S1.get 0 rfl
  obtain ⟨rb, rc, rfl⟩ := row_slice hr1
  have SM := (Sep.start W0).new ((Ext.refl [] W0).alloc (.map #[] 0)) (Mp.oMp Tryz.prog 24 mkR W0.heap.size 0 (setF [])) HB.out.2.2.2.1 (fun k hk => by simp [Mp.oMp] at hk; omega)
  have SJ := sep_join SM S1
  obtain ⟨ms, hms⟩ : ∃ ms, W0.heap.size = ms := ⟨_, rfl⟩
  rw [hms] at SJ ⊢
  have HJ := Lib.hid SJ
  clear SJ SM S1 hr1 hms HA c0 c1 c2 hmm
  go_wp2_with fail
  go_loopg [13] K (fun g jv wr => ∃ j : Nat, g + j = K ∧ jv = .int .i64 j ∧ Sep W0 wr [oSl 24 2 (.slice rb K rc) K (rfC R), Mp.oMp Tryz.prog 24 mkR ms j (setF (R.take j))])
  case atStart => exact ⟨0, by omega, rfl, HJ.out⟩
  case round =>
    clear HJ
    obtain ⟨j, hgj, rfl, S⟩ := hrel
    by_cases hjK : j < K
    case pos =>
      obtain ⟨g2, rfl⟩ : ∃ g2, gk = g2 + 1 := ⟨gk - 1, by omega⟩
      have hjz : (j : Int) < (K : Int) := by omega
      have hjR : j < R.length := by rw [HH.out.2.2.2.2.2]; exact hjK
      have hr6 : wr.ownsRow 0 24 2 (.slice rb K rc) R.length (rfC R) := by rw [HH.out.2.2.2.2.2]; exact S.get 0 rfl
      obtain ⟨rp, rc2, he⟩ := row_form hr6 (by omega)
      rw [HH.out.2.2.2.2.2] at he
      cases he
      obtain ⟨q1, q2⟩ := rfC_at R j hjR
      rw [HH.out.2.2.2.2.2] at hr6
      have d1 := row_cell hr6 q1
      have d2 := row_cell hr6 q2
      have htk : R.take (j + 1) = R.take j ++ [R[j]'hjR] := by rw [List.take_succ_eq_append_getElem hjR]
      have hwr := HH.out.2.2.2.1 _ (List.getElem_mem hjR)
      generalize R[j]'hjR = r at *
      obtain ⟨r1, r2⟩ := r
      dsimp only at d1 d2
      obtain ⟨kl2, hkl2⟩ := keyR hwr
      have HM9 := Lib.hid ((S.get 1 rfl : Mp.MapAt Tryz.prog 24 mkR wr ms j (setF (R.take j))).ext ((Ext.refl [] wr).alloc (.cells #[.int .i64 r1, .int .i64 r2] 24)) (by simp))
      have HS9 := Lib.hid (⟨S.quiet ((Ext.refl [] wr).alloc (.cells #[.int .i64 r1, .int .i64 r2] 24)), hkl2, htk⟩ : _ ∧ _ ∧ _)
      clear S hr6 q1 q2 hwr hkl2 htk
      go_wp2_with (first | (at_mapUpdate; refine Mp.wpList_store_mp rfl _ _ _ 38 rfl 4 lawR mkR_inj Tryz.underlying38 rfl HM9.out (by unfold maxLen; omega) (r1, r2) (.bool true) kl2 rfl rfl HS9.out.2.1 ?_; intro w7 hm7 hx7; rw [setF_more] at hm7; have S7 := HS9.out.1.upd 1 (Mp.oMp Tryz.prog 24 mkR ms (j + 1) (setF (R.take j ++ [(r1, r2)]))) rfl hx7 (Fr.refl _ _) hm7; have HS7 := Lib.hid S7; clear S7 hm7 hx7))
      go_roundg g2
      case measure => omega
      case rel => exact ⟨j + 1, by omega, by go_num, by rw [HS9.out.2.2]; exact HS7.out⟩
    case neg =>
    obtain rfl : gk = 0 := by omega
    have hjK2 : j = K := by omega
    subst hjK2
    rw [show R.take j = R from List.take_of_length_le (by rw [HH.out.2.2.2.2.2]; omega)] at S
    have HS := Lib.hid (Sep.tail S)
    have q1 := cellOf (S.ext.keep HB.out.2.1 (by simp)) 1
    have q2 := cellOf (S.ext.keep HB.out.2.1 (by simp)) 2
    clear S
    go_upto_region 8 with (fail)
    obtain ⟨W8, hW8⟩ : ∃ W8, wr.alloc (Obj.cells #[.slice none 0 0, .int .i64 m0, .int .i64 m1] 26) = W8 := ⟨_, rfl⟩
    have hx8 : Ext [] wr W8 := by rw [← hW8]; exact (Ext.refl [] wr).alloc _
    have hb8 : W8.heap[wr.heap.size]? = some (.cells #[.slice none 0 0, .int .i64 m0, .int .i64 m1] 26 (0, 0)) := by rw [← hW8]; exact heap_alloc_at _
    rw [hW8]
    have S8 := (HS.out.new hx8 (Ob.one wr.heap.size (.cells #[.slice none 0 0, .int .i64 m0, .int .i64 m1] 26)) hb8 (fun k hk => by simp [Ob.one] at hk; omega)).new (Ext.refl _ _) (oSl 33 5 (.slice none 0 0) 0 []) (World.ownsRow_nil _ _ _ _) (fun q hq => by simp [oSl, Value.ownBlock] at hq)
    obtain ⟨p6, hp6⟩ : ∃ p6, wr.heap.size = p6 := ⟨_, rfl⟩
    rw [hp6] at S8 ⊢
    have q0 := cellOf (S8.ext.keep HB.out.2.1 (by simp)) 0
    have HS8 := Lib.hid S8
    clear S8 hW8 hx8 hb8 hp6 q1 q2 HS
    go_wp2_with fail
    clear q0
    go_loopg [26] n (fun g iv wx => ∃ (i : Nat) (A : List Om) (qv : Value), g + i = n ∧ iv = .int .i64 i ∧ (L.take i).filter (inB R) = A ∧ Sep W0 wx [oSl 33 5 qv A.length (omsC A), Ob.one p6 (.cells #[qv, .int .i64 m0, .int .i64 m1] 26), Mp.oMp Tryz.prog 24 mkR ms j (setF R)])
    case atStart => exact ⟨0, [], .slice none 0 0, by omega, rfl, rfl, HS8.out⟩
    case round =>
      clear HS8
      obtain ⟨i, A, qv, hgi, rfl, hA, S⟩ := hrel
      have hr0 : wr.ownsRow 0 33 5 qv A.length (omsC A) := S.get 0 rfl
      obtain ⟨qa, qc, rfl⟩ := row_slice hr0
      have hb6 : wr.heap[p6]? = some (.cells #[.slice qa A.length qc, .int .i64 m0, .int .i64 m1] 26 (0, 0)) := S.get 1 rfl
      by_cases hlt : i < n
      case neg =>
        obtain rfl : gk = 0 := by omega
        rw [List.take_of_length_le (by rw [HH.out.2.1]; omega), HH.out.2.2.2.2.1] at hA
        subst hA
        have hbR := S.ext.keep HB.out.2.2.1 (by simp)
        have hO : (Value.slice qa Z.length qc).ownBlock ≠ some (w.heap.size + 1) := fun e => by
          have h1 := S.base (oSl 33 5 (.slice qa Z.length qc) Z.length (omsC Z)) (by simp) (w.heap.size + 1) (by simp [oSl, e])
          have h2 := HB.out.2.2.2.2
          omega
        have k0 := cellOf hb6 0
        have k1 := cellOf hb6 1
        have k2 := cellOf hb6 2
        have l0 := cellOf hbR 0
        have l1 := cellOf hbR 1
        have l2 := cellOf hbR 2
        have f0 := freeOf hbR 0
        have f1 := freeOf hbR 1
        have f2 := freeOf hbR 2
        have HF := Lib.hid (⟨HB.out.1.trans S.ext, hO, hbR, hr0⟩ : _ ∧ _ ∧ _ ∧ _)
        clear S hr0 hb6 hbR hO
        go_wp2_with fail
        (try simp only [Exit.inBlock, Exit.then])
        refine bodyPost_ret (results_cell_row rfl _ _ (w.heap.size + 1) 26 #[.slice qa Z.length qc, .int .i64 m0, .int .i64 m1] (0, 0) _ rfl (heap_setCell_same (heap_setCell_same (heap_setCell_same HF.out.2.2.1 _) _) _) Tryz.underlying26 rfl sizeGraph) rfl ?_
        have hpW : w.heap.size ≤ w.heap.size + 1 := by omega
        have hxF := ((HF.out.1.setCell ⟨w.heap.size + 1, 0, none⟩ (.slice qa Z.length qc) (.inr hpW)).setCell ⟨w.heap.size + 1, 1, none⟩ (.int .i64 m0) (.inr hpW)).setCell ⟨w.heap.size + 1, 2, none⟩ (.int .i64 m1) (.inr hpW)
        refine ⟨_, rfl, hxF, oms_own (ownsRow_setCell_other (ownsRow_setCell_other (ownsRow_setCell_other HF.out.2.2.2 HF.out.2.1 _) HF.out.2.1 _) HF.out.2.1 _) (fun x hx => oms_nodes (HH.out.1.ext hxF) (by rw [← HH.out.2.2.2.2.1] at hx; exact (List.mem_filter.1 hx).1))⟩
      case pos =>
      obtain ⟨g2, rfl⟩ : ∃ g2, gk = g2 + 1 := ⟨gk - 1, by omega⟩
      have hltz : (i : Int) < (n : Int) := by omega
      have hil : i < L.length := by rw [HH.out.2.1]; exact hlt
      obtain ⟨b, o, rfl, n1, n2, n3, n4, n5, hN⟩ := (HH.out.1.ext HB.out.1).ext S.ext i hil
      have hwx := HH.out.2.2.1 _ (List.getElem_mem hil)
      have htk : (L.take (i + 1)).filter (inB R) = A ++ (if inB R (L[i]'hil) = true then [L[i]'hil] else []) := by
        rw [List.take_succ_eq_append_getElem hil, List.filter_append, hA]
        congr 1
        cases hb : inB R (L[i]'hil) <;> simp [hb]
      generalize L[i]'hil = x at *
      obtain ⟨tb, tc, htv⟩ := tree_slice hN
      have hAl : A.length ≤ n := by
        rw [← hA]
        have := List.length_filter_le (inB R) (L.take i)
        rw [List.length_take] at this
        omega
      have HWf := Lib.hid (lt_wf hwx)
      have HSS := Lib.hid (⟨S, htk, hr0⟩ : _ ∧ _ ∧ _)
      obtain ⟨num, gen, tv, st, dt, tr⟩ := x
      have htv : tv = .slice tb tr.length tc := htv
      subst htv
      dsimp only at n1 n2 n3 n4 n5 HWf
      obtain ⟨kl, hkl⟩ := keyR HWf.out
      have HK2 := Lib.hid hkl
      clear S hN hwx htk hr0 hkl hb6
      go_upto_region 11 with (fail)
      obtain ⟨W, hW⟩ : ∃ W, wr.alloc (Obj.cells #[.int .i64 num, .int .i64 gen, .slice tb tr.length tc, .bool st, .string dt] 33) = W := ⟨_, rfl⟩
      have hxW : Ext [] wr W := by rw [← hW]; exact (Ext.refl [] wr).alloc _
      have hbX : W.heap[wr.heap.size]? = some (.cells #[.int .i64 num, .int .i64 gen, .slice tb tr.length tc, .bool st, .string dt] 33 (0, 0)) := by rw [← hW]; exact heap_alloc_at _
      rw [hW]
      obtain ⟨p8, hp8⟩ : ∃ p8, wr.heap.size = p8 := ⟨_, rfl⟩
      rw [hp8] at hbX ⊢
      have SW := HSS.out.1.quiet hxW
      have hlook := (SW.get 2 rfl : Mp.MapAt Tryz.prog 24 mkR W ms j (setF R)).look lawR Tryz.underlying38 (zeroBoolR W) (x := (num, gen)) HK2.out
      have k0 := cellOf hbX 0
      have k1 := cellOf hbX 1
      have hrW := ownsRow_ext HSS.out.2.2 hxW (by simp)
      have hb6W : W.heap[p6]? = some (.cells #[.slice qa A.length qc, .int .i64 m0, .int .i64 m1] 26 (0, 0)) := SW.get 1 rfl
      have hne6 : (Value.slice qa A.length qc).ownBlock ≠ some p6 := fun e => SW.apart 0 1 _ _ rfl rfl (by omega) p6 (by simp [oSl, e]) (by simp [Ob.one])
      obtain ⟨al, hal⟩ : ∃ al, A.length = al := ⟨_, rfl⟩
      have hAl2 := hAl
      rw [hal] at hrW hb6W hne6 hAl2
      have HW := Lib.hid (⟨SW, hbX, hrW, hb6W, hne6, hal⟩ : _ ∧ _ ∧ _ ∧ _ ∧ _ ∧ _)
      clear hW hxW hbX hp8 SW hrW hb6W hne6 hal n1 n2 n3 n4 n5 hAl
      by_cases hin : (num, gen) ∈ R
      · rw [show setF R (num, gen) = some (.bool true) by rw [setF, if_pos hin], Option.getD_some] at hlook
        have htk := HSS.out.2.1
        rw [if_pos (show inB R ⟨num, gen, .slice tb tr.length tc, st, dt, tr⟩ = true from decide_eq_true hin)] at htk
        have HTk := Lib.hid htk
        clear htk hin
        go_upto_region 12 with (fail)
        clear hlook k0 k1
        have e0 := cellOf HW.out.2.2.2.1 0
        have j0' := cellOf HW.out.2.1 0
        have j1' := cellOf HW.out.2.1 1
        have j2' := cellOf HW.out.2.1 2
        have j3' := cellOf HW.out.2.1 3
        have j4' := cellOf HW.out.2.1 4
        go_wp2_with (first | (at_builtin; refine wpList_append_lies _ rfl _ _ 22 rfl 0 33 j0 _ 5 64 Tryz.underlying22 hjf hy0 hy1 hy2 rfl (by decide) (.slice qa al qc) al _ rfl (World.ownsRow.alloc HW.out.2.2.1 _) ⟨W.heap.size, 0, none⟩ 1 1 [.int .i64 num, .int .i64 gen, .slice tb tr.length tc, .bool st, .string dt] rfl rfl (World.news_of_block (heap_alloc_at (w := W) _)) (by simp [Value.oneCell']) (by decide) (by unfold maxLen; omega) (by omega) (by omega) (W.heap.size + 1) (by simp) ?_; intro g6 cap2 w9 hown1 hgrow hat6 hlt6; have hb9 := grown_keep hgrow (heap_alloc_old _ HW.out.2.2.2.1) HW.out.2.2.2.2.1; have e9 := cellOf hb9 0; have f9 := freeOf hb9 0; have HG := Lib.hid (⟨hown1, hgrow, hat6, hb9⟩ : _ ∧ _ ∧ _ ∧ _); clear hown1 hgrow hat6 hlt6 hb9 e0 j0' j1' j2' j3' j4'))
        have Pl := push_local (cap := cap2) (n := al + 1) HG.out.2.1 HG.out.2.2.1
        have hl1 : (A ++ [(⟨num, gen, .slice tb tr.length tc, st, dt, tr⟩ : Om)]).length = al + 1 := by rw [List.length_append, HW.out.2.2.2.2.2]; rfl
        have S9 := HW.out.1.upd 0 (oSl 33 5 (.slice (some ⟨g6, 0, none⟩) (al + 1) cap2) (A ++ [(⟨num, gen, .slice tb tr.length tc, st, dt, tr⟩ : Om)]).length (omsC (A ++ [(⟨num, gen, .slice tb tr.length tc, st, dt, tr⟩ : Om)]))) rfl (by rw [HW.out.2.2.2.2.2]; exact Pl.1) (by rw [HW.out.2.2.2.2.2]; exact Pl.2) (by
          show World.ownsRow _ 0 33 5 _ _ _
          rw [hl1, omsC_append]
          exact HG.out.1)
        have S10 := S9.upd 1 (Ob.one p6 (.cells #[.slice (some ⟨g6, 0, none⟩) (al + 1) cap2, .int .i64 m0, .int .i64 m1] 26)) rfl ((Ext.refl _ w9).setCell ⟨p6, 0, none⟩ _ (.inl (by simp [Ob.one]))) (Fr.refl _ _) (heap_setCell_same (i := 0) HG.out.2.2.2 (.slice (some ⟨g6, 0, none⟩) (al + 1) cap2))
        go_roundg g2
        case measure => omega
        case rel => exact ⟨i + 1, _, _, by omega, by go_num, HTk.out, by rw [hl1] at S10 ⊢; exact S10⟩
      · rw [show setF R (num, gen) = none by rw [setF, if_neg hin], Option.getD_none] at hlook
        have htk := HSS.out.2.1
        rw [if_neg (show ¬ inB R ⟨num, gen, .slice tb tr.length tc, st, dt, tr⟩ = true by simp [inB, hin]), List.append_nil] at htk
        have HTk := Lib.hid htk
        clear htk hin
        go_wp2_with fail
        go_roundg g2
        case measure => omega
        case rel => exact ⟨i + 1, A, _, by omega, by go_num, HTk.out, HW.out.1⟩
end Go.Proofs.YtgpgamohcafklaaGreatDoor.Rc

/-! RcO: reach.Put's parts: slices.IndexFunc by its two closures. -/
namespace Go.Proofs.YtgpgamohcafklaaGreatDoor.Rc
open Go.RowKit
open Go.Proofs.YtgpgamohcafklaaGreatDoor.Tr

def isM (m : Int) (x : Om) : Bool := x.num == m
def geM (m : Int) (x : Om) : Bool := decide (x.num ≥ m)
set_option maxRecDepth 100000 in
set_option maxHeartbeats 2000000 in
theorem put1_walk (x : Om) (m : Int) (q : Nat) (w : World) (hq : w.cell? ⟨q, 0, none⟩ = some (.int .i64 m)) (hs : ∃ b n c, x.tv = .slice b n c) :
    Calls Tryz.prog 15 #[omV x, .pointer (some ⟨q, 0, none⟩)] w fun e w' => e = .returned (.bool (isM m x)) ∧ Ext [] w w' := by
  obtain ⟨num, gen, tv, st, dt, tr⟩ := x
  obtain ⟨tb, tn, tc, rfl⟩ : ∃ b n c, tv = .slice b n c := hs
  have g0 := ((Ext.refl [] w).alloc (.cells #[.int .i64 num, .int .i64 gen, .slice tb tn tc, .bool st, .string dt] 33)).cell hq
  clear hq
  show Calls _ _ _ _ fun e w' => e = .returned (.bool (num == m)) ∧ _
  obtain ⟨B, hB⟩ : ∃ B, (num == m) = B := ⟨_, rfl⟩
  rw [hB]
  go_enter Tryz.func15, Tryz.ntmps15
  go_wp2_with fail
  go_ret
  exact ⟨by subst hB; rfl, (Ext.refl [] w).alloc _⟩
set_option maxRecDepth 100000 in
set_option maxHeartbeats 2000000 in
theorem put2_walk (x : Om) (m : Int) (q : Nat) (w : World) (hq : w.cell? ⟨q, 0, none⟩ = some (.int .i64 m)) (hs : ∃ b n c, x.tv = .slice b n c) :
    Calls Tryz.prog 17 #[omV x, .pointer (some ⟨q, 0, none⟩)] w fun e w' => e = .returned (.bool (geM m x)) ∧ Ext [] w w' := by
  obtain ⟨num, gen, tv, st, dt, tr⟩ := x
  obtain ⟨tb, tn, tc, rfl⟩ : ∃ b n c, tv = .slice b n c := hs
  have g0 := ((Ext.refl [] w).alloc (.cells #[.int .i64 num, .int .i64 gen, .slice tb tn tc, .bool st, .string dt] 33)).cell hq
  clear hq
  show Calls _ _ _ _ fun e w' => e = .returned (.bool (decide (num ≥ m))) ∧ _
  obtain ⟨B, hB⟩ : ∃ B, (decide (num ≥ m)) = B := ⟨_, rfl⟩
  rw [hB]
  go_enter Tryz.func17, Tryz.ntmps17
  go_wp2_with fail
  go_ret
  exact ⟨by subst hB; rfl, (Ext.refl [] w).alloc _⟩
set_option maxRecDepth 100000 in
set_option maxHeartbeats 8000000 in
theorem idx1_walk (v : Value) (L : List Om) (m : Int) (q : Nat) (w : World) (h : OmsAt w v L) (hq : w.cell? ⟨q, 0, none⟩ = some (.int .i64 m)) (hl : L.length ≤ 9223372036854775807) :
    Calls Tryz.prog 16 #[v, .func (.func 15) #[] #[.pointer (some ⟨q, 0, none⟩)]] w fun e w' => e = .returned (.int .i64 (idxB (isM m) L 0)) ∧ Ext [] w w' := by
  obtain ⟨base, cap, rfl, -, hT⟩ := h
  obtain ⟨n, hln⟩ : ∃ n, L.length = n := ⟨_, rfl⟩
  obtain ⟨R, hR⟩ : ∃ R, idxB (isM m) L 0 = R := ⟨_, rfl⟩
  have HH := Lib.hid (⟨hT, hln, hR, hq⟩ : _ ∧ _ ∧ _ ∧ _)
  rw [hR]
  rw [hln] at hl ⊢
  clear hT hln hR hq
  go_enter Tryz.func16, Tryz.ntmps16
  go_wp2_with fail
  go_loopg [4, 5, 8] n (fun g v4 v5 iv wr => ∃ i : Nat, g + i = n ∧ iv = .int .i64 i ∧ idxB (isM m) (L.drop i) i = R ∧ Ext [] w wr)
  case atStart => exact ⟨0, by omega, rfl, HH.out.2.2.1, Ext.refl _ _⟩
  case round =>
    obtain ⟨i, hgi, rfl, hR, hx⟩ := hrel
    by_cases hlt : i < n
    · obtain ⟨g, rfl⟩ : ∃ g, gk = g + 1 := ⟨gk - 1, by omega⟩
      have hltz : (i : Int) < (n : Int) := by omega
      have hil : i < L.length := by rw [HH.out.2.1]; exact hlt
      rw [drop_at L i hil, idxB] at hR
      obtain ⟨b, o, rfl, n1, n2, n3, n4, n5, hN⟩ := HH.out.1.ext hx i hil
      generalize L[i]'hil = x at *
      obtain ⟨tb, tc, htv⟩ := tree_slice hN
      have H := Lib.hid (put1_walk x m q wr (hx.cell HH.out.2.2.2) ⟨_, _, _, htv⟩)
      have HX := Lib.hid (⟨hx, hR⟩ : _ ∧ _)
      obtain ⟨num, gen, tv, st, dt, tr⟩ := x
      have htv : tv = .slice tb tr.length tc := htv
      subst htv
      clear hx hR hN
      obtain ⟨bb, hb⟩ : ∃ bb, isM m ⟨num, gen, .slice tb tr.length tc, st, dt, tr⟩ = bb := ⟨_, rfl⟩
      rw [hb] at H HX
      dsimp only at n1 n2 n3 n4 n5
      clear hb
      obtain ⟨tn, htn⟩ : ∃ tn, tr.length = tn := ⟨_, rfl⟩
      rw [htn] at H n3
      clear htn
      cases bb with
      | false =>
        go_wp2_with fail
        refine H.out.mono ?_
        rintro ee w2 ⟨rfl, hx2⟩
        have HX2 := Lib.hid (HX.out.1.trans hx2)
        clear hx2 H n1 n2 n3 n4 n5
        go_wp2_with fail
        go_roundg g
        case measure => omega
        case rel => exact ⟨i + 1, by omega, by go_num, by simpa using HX.out.2, HX2.out⟩
      | true =>
        have hRi : R = (i : Int) := by have := HX.out.2; rw [if_pos rfl] at this; exact this.symm
        subst hRi
        go_wp2_with fail
        refine H.out.mono ?_
        rintro ee w2 ⟨rfl, hx2⟩
        have HX2 := Lib.hid (HX.out.1.trans hx2)
        clear hx2 H n1 n2 n3 n4 n5
        go_wp2_with fail
        go_ret
        exact ⟨rfl, HX2.out⟩
    · obtain rfl : gk = 0 := by omega
      have hR0 : R = -1 := by rw [← hR, List.drop_eq_nil_of_le (by rw [HH.out.2.1]; omega)]; rfl
      subst hR0
      have HX := Lib.hid hx
      clear hx hR
      go_wp2_with fail
      go_ret
      exact ⟨rfl, HX.out⟩
set_option maxRecDepth 100000 in
set_option maxHeartbeats 8000000 in
theorem idx2_walk (v : Value) (L : List Om) (m : Int) (q : Nat) (w : World) (h : OmsAt w v L) (hq : w.cell? ⟨q, 0, none⟩ = some (.int .i64 m)) (hl : L.length ≤ 9223372036854775807) :
    Calls Tryz.prog 16 #[v, .func (.func 17) #[] #[.pointer (some ⟨q, 0, none⟩)]] w fun e w' => e = .returned (.int .i64 (idxB (geM m) L 0)) ∧ Ext [] w w' := by
  obtain ⟨base, cap, rfl, -, hT⟩ := h
  obtain ⟨n, hln⟩ : ∃ n, L.length = n := ⟨_, rfl⟩
  obtain ⟨R, hR⟩ : ∃ R, idxB (geM m) L 0 = R := ⟨_, rfl⟩
  have HH := Lib.hid (⟨hT, hln, hR, hq⟩ : _ ∧ _ ∧ _ ∧ _)
  rw [hR]
  rw [hln] at hl ⊢
  clear hT hln hR hq
  go_enter Tryz.func16, Tryz.ntmps16
  go_wp2_with fail
  go_loopg [4, 5, 8] n (fun g v4 v5 iv wr => ∃ i : Nat, g + i = n ∧ iv = .int .i64 i ∧ idxB (geM m) (L.drop i) i = R ∧ Ext [] w wr)
  case atStart => exact ⟨0, by omega, rfl, HH.out.2.2.1, Ext.refl _ _⟩
  case round =>
    obtain ⟨i, hgi, rfl, hR, hx⟩ := hrel
    by_cases hlt : i < n
    · obtain ⟨g, rfl⟩ : ∃ g, gk = g + 1 := ⟨gk - 1, by omega⟩
      have hltz : (i : Int) < (n : Int) := by omega
      have hil : i < L.length := by rw [HH.out.2.1]; exact hlt
      rw [drop_at L i hil, idxB] at hR
      obtain ⟨b, o, rfl, n1, n2, n3, n4, n5, hN⟩ := HH.out.1.ext hx i hil
      generalize L[i]'hil = x at *
      obtain ⟨tb, tc, htv⟩ := tree_slice hN
      have H := Lib.hid (put2_walk x m q wr (hx.cell HH.out.2.2.2) ⟨_, _, _, htv⟩)
      have HX := Lib.hid (⟨hx, hR⟩ : _ ∧ _)
      obtain ⟨num, gen, tv, st, dt, tr⟩ := x
      have htv : tv = .slice tb tr.length tc := htv
      subst htv
      clear hx hR hN
      obtain ⟨bb, hb⟩ : ∃ bb, geM m ⟨num, gen, .slice tb tr.length tc, st, dt, tr⟩ = bb := ⟨_, rfl⟩
      rw [hb] at H HX
      dsimp only at n1 n2 n3 n4 n5
      clear hb
      obtain ⟨tn, htn⟩ : ∃ tn, tr.length = tn := ⟨_, rfl⟩
      rw [htn] at H n3
      clear htn
      cases bb with
      | false =>
        go_wp2_with fail
        refine H.out.mono ?_
        rintro ee w2 ⟨rfl, hx2⟩
        have HX2 := Lib.hid (HX.out.1.trans hx2)
        clear hx2 H n1 n2 n3 n4 n5
        go_wp2_with fail
        go_roundg g
        case measure => omega
        case rel => exact ⟨i + 1, by omega, by go_num, by simpa using HX.out.2, HX2.out⟩
      | true =>
        have hRi : R = (i : Int) := by have := HX.out.2; rw [if_pos rfl] at this; exact this.symm
        subst hRi
        go_wp2_with fail
        refine H.out.mono ?_
        rintro ee w2 ⟨rfl, hx2⟩
        have HX2 := Lib.hid (HX.out.1.trans hx2)
        clear hx2 H n1 n2 n3 n4 n5
        go_wp2_with fail
        go_ret
        exact ⟨rfl, HX2.out⟩
    · obtain rfl : gk = 0 := by omega
      have hR0 : R = -1 := by rw [← hR, List.drop_eq_nil_of_le (by rw [HH.out.2.1]; omega)]; rfl
      subst hR0
      have HX := Lib.hid hx
      clear hx hR
      go_wp2_with fail
      go_ret
      exact ⟨rfl, HX.out⟩
end Go.Proofs.YtgpgamohcafklaaGreatDoor.Rc

/-! RcP: slices.Clone of objects; copy and clear of elements of k cells. -/
namespace Go.Proofs.YtgpgamohcafklaaGreatDoor.Rc
open Go.RowKit
open Go.Proofs.YtgpgamohcafklaaGreatDoor.Tr

section
variable {P : Program}
/-- copy of elements of k cells -/
theorem run_copyK (w : World) (dT sT ty elem : TypeId) (k b o dLen dCap : Nat) (a : Addr) (sLen sCap : Nat) (cs : List Value) (hu : P.underlying dT = some (.slice elem)) (hs : (P.info? elem).map (·.size) = some k) (hn : cs.length = Nat.min sLen dLen * k)
    (hsrc : ∀ j v, cs[j]? = some v → w.cell? (a.add j) = some v) (hc : ∀ j, j < cs.length → (w.cell? ⟨b, o + j, none⟩).isSome = true) (hf : ∀ j, j < cs.length → w.frozen? ⟨b, o + j, none⟩ = false) (h1 : ∀ v ∈ cs, v.oneCell' = true) :
    (Builtin.copy_ #[dT, sT] ty #[.slice (some ⟨b, o, none⟩) dLen dCap, .slice (some a) sLen sCap]).run P w = .ok (goInt (Nat.min sLen dLen)) (w.setCells b o cs) := by
  have hl := run_loadCells_list (P := P) w a cs hsrc
  have hst := run_storeCells_cells (P := P) b o cs 0 w (by simpa using hc) (by simpa using hf) h1
  cases hq : P.info? elem with
  | none => simp [hq] at hs
  | some i =>
    have hi : i.size = k := by simpa [hq] using hs
    simp [Builtin.copy_, run_underlying hu, Builtin.lenOf, Builtin.firstCells, sizeOf, typeInfo, hq, hi, ← hn, hl, hst]
/-- clear of one element of k cells -/
theorem run_clear1 (w : World) (t e ty : TypeId) (z : Value) (zs : List Value) (ht : P.underlying t = some (.slice e)) (hv : ∀ w, (zeroValue e).run P w = .ok z w) (hz : (Builtin.zeroCells z.cells 1).toList = zs) (h1 : ∀ v ∈ zs, v.oneCell' = true) (b o c : Nat)
    (hc : ∀ j, j < zs.length → (w.cell? ⟨b, o + j, none⟩).isSome = true) (hf : ∀ j, j < zs.length → w.frozen? ⟨b, o + j, none⟩ = false) :
    (Builtin.clear_ #[t] ty #[.slice (some ⟨b, o, none⟩) 1 c]).run P w = .ok (.tuple #[]) (w.setCells b o zs) := by
  have hst := run_storeCells_cells (P := P) b o zs 0 w (by simpa using hc) (by simpa using hf) h1
  simp only [Nat.add_zero] at hst
  simp [Builtin.clear_, run_underlying ht, hv, hz, hst]
end
/-- cells of a row laid anew -/
theorem row_puts {e : TypeId} {g n k cap : Nat} : ∀ (cs : List Value) (o : Nat) (w : World) (xs : List Value), w.ownsRow 0 e k (.slice (some ⟨g, 0, none⟩) n cap) n xs → (w.setCells g o cs).ownsRow 0 e k (.slice (some ⟨g, 0, none⟩) n cap) n (cs.foldl (fun s v => (s.1.set s.2 v, s.2 + 1)) (xs, o)).1
  | [], _, _, _, h => h
  | v :: cs, o, _, _, h => row_puts cs (o + 1) _ _ (row_put (i := o) h v)
theorem ext_puts {g : Nat} {S : List Nat} : ∀ (cs : List Value) (o : Nat) (w0 w : World), Ext S w0 w → g ∈ S → Ext S w0 (w.setCells g o cs)
  | [], _, _, _, h, _ => h
  | v :: cs, o, w0, _, h, hg => ext_puts cs (o + 1) w0 _ (h.setCell ⟨g, o, none⟩ v (.inl hg)) hg
theorem omC_one (x : Om) (hs : ∃ b n c, x.tv = .slice b n c) : ∀ v ∈ omC x, v.oneCell' = true := by
  obtain ⟨b, n, c, h⟩ := hs
  intro v hv
  simp [omC, h] at hv
  rcases hv with rfl | rfl | rfl | rfl | rfl <;> rfl
theorem omsC_one (L : List Om) (hs : ∀ x ∈ L, ∃ b n c, x.tv = .slice b n c) : ∀ v ∈ omsC L, v.oneCell' = true := by
  intro v hv
  obtain ⟨x, hx, hv⟩ := List.mem_flatMap.1 hv
  exact omC_one x (hs x hx) v hv
theorem omsC_all (L : List Om) (j : Nat) (v : Value) (h : (omsC L)[j]? = some v) : ∃ i c, ∃ hi : i < L.length, j = i * 5 + c ∧ c < 5 ∧ (omC (L[i]'hi))[c]? = some v := by
  have hj : j < L.length * 5 := by rw [← omsC_len]; exact (List.getElem?_eq_some_iff.1 h).1
  have hi : j / 5 < L.length := by omega
  refine ⟨j / 5, j % 5, hi, by omega, by omega, ?_⟩
  obtain ⟨h0, h1, h2, h3, h4⟩ := omsC_at L (j / 5) hi
  have hm : j % 5 = 0 ∨ j % 5 = 1 ∨ j % 5 = 2 ∨ j % 5 = 3 ∨ j % 5 = 4 := by omega
  rcases hm with hm | hm | hm | hm | hm <;> rw [hm] <;> rw [show j = j / 5 * 5 + j % 5 by omega, hm] at h
  · rw [Nat.add_zero, h0] at h; exact h
  · rw [h1] at h; exact h
  · rw [h2] at h; exact h
  · rw [h3] at h; exact h
  · rw [h4] at h; exact h
theorem oms_cells {w : World} {b o : Nat} {L : List Om} (h : OmsIn w (some ⟨b, o, none⟩) L) : ∀ j v, (omsC L)[j]? = some v → w.cell? ⟨b, o + j, none⟩ = some v := fun j v hv => by
  obtain ⟨i, c, hi, rfl, hc, hx⟩ := omsC_all L j v hv
  obtain ⟨b', o', he, hA⟩ := h i hi
  obtain ⟨rfl, rfl⟩ : b = b' ∧ o = o' := by simpa using he
  obtain ⟨n1, n2, n3, n4, n5, -⟩ := hA
  have hm : c = 0 ∨ c = 1 ∨ c = 2 ∨ c = 3 ∨ c = 4 := by omega
  rcases hm with rfl | rfl | rfl | rfl | rfl <;> (simp [omC] at hx; subst hx)
  · exact n1
  · rw [← Nat.add_assoc]; exact n2
  · rw [← Nat.add_assoc]; exact n3
  · rw [← Nat.add_assoc]; exact n4
  · rw [← Nat.add_assoc]; exact n5
set_option maxRecDepth 100000 in
set_option maxHeartbeats 4000000 in
theorem cloneO_walk (b o cap : Nat) (L : List Om) (w : World) (h : OmsIn w (some ⟨b, o, none⟩) L) (h0 : 0 < L.length) (hl : L.length ≤ 100000) :
    Calls Tryz.prog 14 #[.slice (some ⟨b, o, none⟩) L.length cap] w fun e w' => ∃ g c, e = .returned (.slice (some ⟨g, 0, none⟩) L.length c) ∧ Sep w w' [oSl 33 5 (.slice (some ⟨g, 0, none⟩) L.length c) L.length (omsC L)] := by
  obtain ⟨j0, hjf, hy0, hy1, hy2⟩ := info_parts infoObj
  have hcell := oms_cells h
  have hone := omsC_one L (fun x hx => by
    obtain ⟨i, hi, rfl⟩ := List.getElem_of_mem hx
    obtain ⟨b', o', -, hA⟩ := h i hi
    obtain ⟨q, c, hq⟩ := tree_slice hA.nodes
    exact ⟨_, _, _, hq⟩)
  have hlen := omsC_len L
  obtain ⟨X, hX⟩ : ∃ X, omsC L = X := ⟨_, rfl⟩
  obtain ⟨n, hn⟩ : ∃ n, L.length = n := ⟨_, rfl⟩
  rw [hX] at hcell hone hlen ⊢
  rw [hn] at h0 hl hlen ⊢
  have HC := Lib.hid (⟨hcell, hone, hlen⟩ : _ ∧ _ ∧ _)
  have hnil : ∀ W : World, (binOp .eql 22 (.slice (some ⟨b, o, none⟩) n cap) (.slice none 0 0)).run Tryz.prog W = .ok (.bool false) W := fun W => Lib.run_eql_slice_nil W _ _ _ _ _ _ _ Tryz.underlying22
  clear hcell hone hlen h hX hn
  go_enter Tryz.func14, Tryz.ntmps14
  go_upto_region 3 with (fail)
  clear hnil
  have hown : (w.alloc (.cells #[] 33)).ownsRow 0 33 5 (.slice (some ⟨w.heap.size, 0, none⟩) 0 0) 0 [] := ⟨rfl, .inr ⟨w.heap.size, 0, #[], rfl, Nat.zero_le _, heap_alloc_at _, Nat.le_refl _, by decide, rfl, rfl⟩⟩
  have hx : Ext [] w (w.alloc (.cells #[] 33)) := (Ext.refl [] w).alloc _
  have hsrc : Src Tryz.prog 5 22 (.slice (some ⟨b, o, none⟩) n cap) n X (w.alloc (.cells #[] 33)) := Src.ofSlice _ Tryz.underlying22 ⟨b, o, none⟩ _ _ _ HC.out.2.2 (fun j u hu => by rw [Addr.add_lit]; exact hx.cell (HC.out.1 j u hu)) HC.out.2.1
  have HO := Lib.hid (⟨hown, hx, hsrc⟩ : _ ∧ _ ∧ _)
  clear hown hx hsrc
  go_wp2_with (at_builtin; refine wpList_append_src _ rfl _ _ 22 22 rfl 0 33 j0 _ 5 64 Tryz.underlying22 hjf hy0 hy1 hy2 rfl (by decide) (.slice (some ⟨w.heap.size, 0, none⟩) 0 0) 0 _ rfl HO.out.1 _ n X rfl HO.out.2.2 h0 (by unfold maxLen; omega) (by omega) (by omega) ?_; intro g cap2 w2 hown2 hgr2 hat2 hlt2)
  rw [List.nil_append, Nat.zero_add] at hown2
  have S0 := (Sep.start w).new HO.out.2.1 (oSl 33 5 (.slice (some ⟨w.heap.size, 0, none⟩) 0 0) 0 []) HO.out.1 (fun q hq => by simp [oSl, Value.ownBlock] at hq; omega)
  have S1 := S0.upd 0 (oSl 33 5 (.slice (some ⟨g, 0, none⟩) n cap2) n X) rfl ((Ext.refl _ _).grown hgr2 (fun k hk => .inl (by simp [oSl, hk]))) (fun q hq => by
    obtain rfl : q = g := by simpa [oSl, Value.ownBlock] using hq
    rcases hat2 with h | h
    · exact .inl (by simp [oSl, h])
    · exact .inr (by omega)) hown2
  have HS := Lib.hid S1
  clear S0 S1 hown2 hgr2 hat2 hlt2
  go_ret
  exact ⟨_, _, rfl, HS.out⟩
end Go.Proofs.YtgpgamohcafklaaGreatDoor.Rc

/-! RcQ: slices.DeleteFunc of objects, as reach.Put calls it: no object goes; of three the middle one goes. -/
namespace Go.Proofs.YtgpgamohcafklaaGreatDoor.Rc
open Go.RowKit
open Go.Proofs.YtgpgamohcafklaaGreatDoor.Tr

theorem oms_in {w : World} {g cap : Nat} {L : List Om} (h : w.ownsRow 0 33 5 (.slice (some ⟨g, 0, none⟩) L.length cap) L.length (omsC L)) (hN : ∀ x ∈ L, NodesAt w x.tv x.tree) : OmsAt w (.slice (some ⟨g, 0, none⟩) L.length cap) L := oms_own h hN
set_option maxRecDepth 100000 in
set_option maxHeartbeats 4000000 in
theorem del_none (g cap : Nat) (L : List Om) (m : Int) (q : Nat) (w : World) (h : w.ownsRow 0 33 5 (.slice (some ⟨g, 0, none⟩) L.length cap) L.length (omsC L)) (hN : ∀ x ∈ L, NodesAt w x.tv x.tree) (hq : w.cell? ⟨q, 0, none⟩ = some (.int .i64 m)) (hl : L.length ≤ 100000) (hno : idxB (isM m) L 0 = -1) :
    Calls Tryz.prog 13 #[.slice (some ⟨g, 0, none⟩) L.length cap, .func (.func 15) #[] #[.pointer (some ⟨q, 0, none⟩)]] w fun e w' => e = .returned (.slice (some ⟨g, 0, none⟩) L.length cap) ∧ Ext [] w w' := by
  have HI := Lib.hid (idx1_walk _ L m q w (oms_in h hN) hq (by omega))
  rw [hno] at HI
  clear h hN hq hno
  go_enter Tryz.func13, Tryz.ntmps13
  go_wp2_with fail
  refine HI.out.mono ?_
  rintro e w2 ⟨rfl, hx2⟩
  have HX := Lib.hid hx2
  clear hx2 HI
  go_wp2_with fail
  go_ret
  exact ⟨rfl, HX.out⟩
abbrev zeroO : Om := ⟨0, 0, .slice none 0 0, false, ⟨#[]⟩, []⟩
set_option maxRecDepth 100000 in
set_option maxHeartbeats 8000000 in
theorem del_mid (g cap : Nat) (x y z : Om) (m : Int) (q : Nat) (w0 w : World) (M : List Ob) (S : Sep w0 w (oSl 33 5 (.slice (some ⟨g, 0, none⟩) 3 cap) 3 (omsC [x, y, z]) :: M)) (hN : ∀ o ∈ [x, y, z], NodesAt w0 o.tv o.tree) (hq : w0.cell? ⟨q, 0, none⟩ = some (.int .i64 m))
    (hx : x.num ≠ m) (hy : y.num = m) (hz : z.num ≠ m) (hc3 : 3 ≤ cap) :
    Calls Tryz.prog 13 #[.slice (some ⟨g, 0, none⟩) 3 cap, .func (.func 15) #[] #[.pointer (some ⟨q, 0, none⟩)]] w fun e w' => e = .returned (.slice (some ⟨g, 0, none⟩) 2 cap) ∧ Sep w0 w' (oSl 33 5 (.slice (some ⟨g, 0, none⟩) 3 cap) 3 (omsC [x, z, zeroO]) :: M) := by
  have hr : w.ownsRow 0 33 5 (.slice (some ⟨g, 0, none⟩) 3 cap) 3 (omsC [x, y, z]) := S.get 0 rfl
  have hI : idxB (isM m) [x, y, z] 0 = 1 := by simp [idxB, isM, hx, hy]
  have HI := Lib.hid (idx1_walk _ [x, y, z] m q w (oms_in (L := [x, y, z]) hr (fun o ho => (hN o ho).ext S.ext)) (S.ext.cell hq) (by simp))
  rw [hI] at HI
  simp only [List.length_cons, List.length_nil, Nat.zero_add, Nat.reduceAdd] at HI
  obtain ⟨zb, zc, hzv⟩ := tree_slice (hN z (by simp))
  have HZ := Lib.hid (fun W (hW : Ext [] w0 W) => put1_walk z m q W (hW.cell hq) ⟨_, _, _, hzv⟩)
  have hzf : isM m z = false := by simp [isM, hz]
  rw [hzf] at HZ
  have HY := Lib.hid (tree_slice (hN y (by simp)))
  have HS := Lib.hid S
  obtain ⟨znum, zgen, ztv, zst, zdt, ztr⟩ := z
  have hzv : ztv = .slice zb ztr.length zc := hzv
  subst hzv
  obtain ⟨zn, hzn⟩ : ∃ zn, ztr.length = zn := ⟨_, rfl⟩
  rw [hzn] at HZ HS ⊢
  have hcz : (3 : Int) ≤ (cap : Int) := by omega
  clear S hr hI hN hzf hx hy hz hq hzn
  go_enter Tryz.func13, Tryz.ntmps13
  go_wp2_with fail
  refine HI.out.mono ?_
  rintro e w2 ⟨rfl, hx2⟩
  have HS2 := Lib.hid (HS.out.quiet hx2)
  clear hx2 HI HS
  go_wp2_with fail
  go_loopg [5, 6, 7] 1 (fun gk v5 v6 v7 wr => (gk = 1 ∧ v5 = .int .i64 1 ∧ v6 = .int .i64 2 ∧ Sep w0 wr (oSl 33 5 (.slice (some ⟨g, 0, none⟩) 3 cap) 3 (omsC [x, y, ⟨znum, zgen, .slice zb zn zc, zst, zdt, ztr⟩]) :: M)) ∨ (gk = 0 ∧ v5 = .int .i64 2 ∧ v6 = .int .i64 3 ∧ Sep w0 wr (oSl 33 5 (.slice (some ⟨g, 0, none⟩) 3 cap) 3 (omsC [x, ⟨znum, zgen, .slice zb zn zc, zst, zdt, ztr⟩, ⟨znum, zgen, .slice zb zn zc, zst, zdt, ztr⟩]) :: M)))
  case atStart => exact .inl ⟨rfl, rfl, rfl, HS2.out⟩
  case round =>
    clear HS2
    rcases hrel with ⟨rfl, rfl, rfl, S⟩ | ⟨rfl, rfl, rfl, S⟩
    · have hr : wr.ownsRow 0 33 5 (.slice (some ⟨g, 0, none⟩) 3 cap) 3 (omsC [x, y, ⟨znum, zgen, .slice zb zn zc, zst, zdt, ztr⟩]) := S.get 0 rfl
      have d0 := row_cell hr (i := 10) rfl
      have d1 := row_cell hr (i := 11) rfl
      have d2 := row_cell hr (i := 12) rfl
      have d3 := row_cell hr (i := 13) rfl
      have d4 := row_cell hr (i := 14) rfl
      have HS := Lib.hid S
      clear S hr
      go_wp2_with fail
      have hx3 : Ext [] wr (wr.alloc (.cells #[.int .i64 znum, .int .i64 zgen, .slice zb zn zc, .bool zst, .string zdt] 33)) := (Ext.refl [] wr).alloc _
      refine (HZ.out _ (HS.out.ext.trans hx3)).mono ?_
      rintro e w4 ⟨rfl, hx4⟩
      have hb4 := hx4.keep (heap_alloc_at (w := wr) (.cells #[.int .i64 znum, .int .i64 zgen, .slice zb zn zc, .bool zst, .string zdt] 33)) (by simp)
      have S4 := HS.out.quiet (hx3.trans hx4)
      have hr4 : w4.ownsRow 0 33 5 (.slice (some ⟨g, 0, none⟩) 3 cap) 3 (omsC [x, y, ⟨znum, zgen, .slice zb zn zc, zst, zdt, ztr⟩]) := S4.get 0 rfl
      clear d0 d1 d2 d3 d4
      have k0 := cellOf hb4 0
      have k1 := cellOf hb4 1
      have k2 := cellOf hb4 2
      have k3 := cellOf hb4 3
      have k4 := cellOf hb4 4
      have d0 := row_cell hr4 (i := 5) rfl
      have d1 := row_cell hr4 (i := 6) rfl
      have d2 := row_cell hr4 (i := 7) rfl
      have d3 := row_cell hr4 (i := 8) rfl
      have d4 := row_cell hr4 (i := 9) rfl
      have f0 := row_free hr4 5
      have f1 := row_free hr4 6
      have f2 := row_free hr4 7
      have f3 := row_free hr4 8
      have f4 := row_free hr4 9
      have hyt : ∃ a b c, y.tv = .slice a b c := by
        obtain ⟨a, b, h⟩ := HY.out
        exact ⟨_, _, _, h⟩
      have HS4 := Lib.hid (⟨S4, hr4⟩ : _ ∧ _)
      clear S4 hr4 hx3 hx4 hb4 HS hyt
      go_wp2_with fail
      go_roundg 0
      case measure => omega
      case rel =>
        refine .inr ⟨rfl, by go_num, by go_num, ?_⟩
        have hp := row_puts (g := g) (omC ⟨znum, zgen, .slice zb zn zc, zst, zdt, ztr⟩) 5 w4 _ HS4.out.2
        exact HS4.out.1.upd 0 (oSl 33 5 (.slice (some ⟨g, 0, none⟩) 3 cap) 3 (omsC [x, ⟨znum, zgen, .slice zb zn zc, zst, zdt, ztr⟩, ⟨znum, zgen, .slice zb zn zc, zst, zdt, ztr⟩])) rfl (ext_puts (g := g) (omC ⟨znum, zgen, .slice zb zn zc, zst, zdt, ztr⟩) 5 w4 w4 (Ext.refl _ _) (by simp [oSl, Value.ownBlock])) (Fr.refl _ _) hp
    · have hr : wr.ownsRow 0 33 5 (.slice (some ⟨g, 0, none⟩) 3 cap) 3 (omsC [x, ⟨znum, zgen, .slice zb zn zc, zst, zdt, ztr⟩, ⟨znum, zgen, .slice zb zn zc, zst, zdt, ztr⟩]) := S.get 0 rfl
      have hcl : ∀ c, (Builtin.clear_ #[22] 0 #[.slice (some ⟨g, 10, none⟩) 1 c]).run Tryz.prog wr = .ok (.tuple #[]) (wr.setCells g 10 [.int .i64 0, .int .i64 0, .slice none 0 0, .bool false, .string ⟨#[]⟩]) := fun c =>
        run_clear1 wr _ _ _ _ [.int .i64 0, .int .i64 0, .slice none 0 0, .bool false, .string ⟨#[]⟩] Tryz.underlying22 zeroObj (by kernel_rfl) (by simp [Value.oneCell']) g 10 c (fun j hj => by
          have hj : j < 5 := hj
          have hm : j = 0 ∨ j = 1 ∨ j = 2 ∨ j = 3 ∨ j = 4 := by omega
          rcases hm with rfl | rfl | rfl | rfl | rfl
          · rw [row_cell hr (i := 10) rfl]; rfl
          · rw [row_cell hr (i := 11) rfl]; rfl
          · rw [row_cell hr (i := 12) rfl]; rfl
          · rw [row_cell hr (i := 13) rfl]; rfl
          · rw [row_cell hr (i := 14) rfl]; rfl) (fun j hj => row_free hr (10 + j))
      have HS := Lib.hid (⟨S, hr⟩ : _ ∧ _)
      clear S hr
      go_wp2_with fail
      go_ret
      refine ⟨rfl, ?_⟩
      exact HS.out.1.upd 0 (oSl 33 5 (.slice (some ⟨g, 0, none⟩) 3 cap) 3 (omsC [x, ⟨znum, zgen, .slice zb zn zc, zst, zdt, ztr⟩, zeroO])) rfl (ext_puts (g := g) [.int .i64 0, .int .i64 0, .slice none 0 0, .bool false, .string ⟨#[]⟩] 10 wr wr (Ext.refl _ _) (by simp [oSl, Value.ownBlock])) (Fr.refl _ _) (row_puts (g := g) [.int .i64 0, .int .i64 0, .slice none 0 0, .bool false, .string ⟨#[]⟩] 10 wr _ HS.out.2)
end Go.Proofs.YtgpgamohcafklaaGreatDoor.Rc

/-! RcR: slices.Insert of one object, as reach.Put calls it: at the end; second of three, where there is room. -/
namespace Go.Proofs.YtgpgamohcafklaaGreatDoor.Rc
open Go.RowKit
open Go.Proofs.YtgpgamohcafklaaGreatDoor.Tr

section
variable {P : Program}
theorem wpList_copy_runK (w : World) {ops : Array Oper} {rest : List Oper} {o : Oper} {a : Act} {Q : Exit → Act → World → Prop} (hgd : o.guard = none) (d s : Operand) (t t' : TypeId)
    (ho : o.op = .call { callee := .builtin .copy, args := #[d, s], argTypes := #[t, t'] }) (v u : Value) (hd : a.eval d = v) (hs : a.eval s = u) {v' : Value} {w' : World}
    (hr : (Builtin.copy_ #[t, t'] o.type #[v, u]).run P w = .ok v' w') (h : wpList P ops Q rest (a.put o.dst v') w') : wpList P ops Q (o :: rest) a w :=
  wpList_plain hgd fun _ hK => by
    unfold Oper.wp execOp
    simp only [ho, resolve, invoke, builtin, Sem.run_bind, Sem.run_pure, Result.andThen_ok, List.map_toArray, List.map_cons, List.map_nil, hd, hs, hr]
    exact hK _ _ h
theorem step_copy_runK {ops : Array Oper} {o : Oper} {a : Act} {w : World} {K : Act → World → Prop} {Q : Exit → Act → World → Prop} {E : Prop}
    (hg : o.guard = none) (d x : Operand) (dT sT : TypeId) (hop : o.op = Op.call { callee := Callee.builtin Builtin.copy, args := #[d, x], argTypes := #[dT, sT] })
    (v u : Value) (hd : a.eval d = v) (hx : a.eval x = u) {v' : Value} {w' : World} (hr : (Builtin.copy_ #[dT, sT] o.type #[v, u]).run P w = .ok v' w') (hK : K (a.put o.dst v') w') :
    if Region.wanted o (yielded ops a.tmps) = true then Oper.wp P o a w K Q else E := by
  have hw : Region.wanted o (yielded ops a.tmps) = true := by simp [Region.wanted, hg]
  rw [if_pos hw]
  unfold Oper.wp
  simp [execOp, hop, resolve, invoke, builtin, hd, hx, hr, Result.andThen]
  exact hK
end
theorem shape_cells {w : World} {b : Nat} {cs : Array Value} {t : TypeId} {f : Nat × Nat} (h : w.heap[b]? = some (.cells cs t f)) : w.shape? b = some (t, cs.size) := by
  simp [World.shape?, h]
theorem sizeO (w : World) : (Go.sizeOf 33).run Tryz.prog w = .ok 5 w := by kernel_rfl
set_option maxRecDepth 100000 in
set_option maxHeartbeats 8000000 in
theorem ins_end (g cap n vb : Nat) (xs : List Value) (o : Om) (w0 w : World) (M : List Ob) (S : Sep w0 w (oSl 33 5 (.slice (some ⟨g, 0, none⟩) n cap) n xs :: M)) (hv : w.heap[vb]? = some (.cells #[.int .i64 o.num, .int .i64 o.gen, o.tv, .bool o.stream, .string o.data] 33 (0, 0)))
    (ho : ∃ a b c, o.tv = .slice a b c) (hn : n ≤ 100000) (hc : n ≤ cap) :
    Calls Tryz.prog 18 #[.slice (some ⟨g, 0, none⟩) n cap, .int .i64 n, .slice (some ⟨vb, 0, none⟩) 1 1] w fun e w' => ∃ g2 c2, e = .returned (.slice (some ⟨g2, 0, none⟩) (n + 1) c2) ∧ Sep w0 w' (oSl 33 5 (.slice (some ⟨g2, 0, none⟩) (n + 1) c2) (n + 1) (xs ++ omC o) :: M) := by
  obtain ⟨j0, hjf, hy0, hy1, hy2⟩ := info_parts infoObj
  have hsrc : Src Tryz.prog 5 22 (.slice (some ⟨vb, 0, none⟩) 1 1) 1 (omC o) w := Src.ofSlice _ Tryz.underlying22 ⟨vb, 0, none⟩ _ _ _ rfl (fun j u hu => by
    rw [Addr.add_lit, Nat.zero_add, cellOf hv]
    simpa [omC] using hu) (omC_one o ho)
  have hr : w.ownsRow 0 33 5 (.slice (some ⟨g, 0, none⟩) n cap) n xs := S.get 0 rfl
  have HS := Lib.hid (⟨S, hsrc, hr⟩ : _ ∧ _ ∧ _)
  have hcz : (n : Int) ≤ (cap : Int) := by omega
  clear S hsrc hr hv ho
  by_cases hcn : cap = n
  · subst hcn
    go_enter Tryz.func18, Tryz.ntmps18
    go_wp2_with (at_builtin; refine wpList_append_src _ rfl _ _ 22 22 rfl 0 33 j0 _ 5 64 Tryz.underlying22 hjf hy0 hy1 hy2 rfl (by decide) (.slice (some ⟨g, 0, none⟩) cap cap) cap _ rfl HS.out.2.2 _ 1 (omC o) rfl HS.out.2.1 (by decide) (by unfold maxLen; omega) (by omega) (by omega) ?_; intro g2 c2 w2 hown2 hgr2 hat2 hlt2)
    have S1 := HS.out.1.upd 0 (oSl 33 5 (.slice (some ⟨g2, 0, none⟩) (cap + 1) c2) (cap + 1) (xs ++ omC o)) rfl ((Ext.refl _ _).grown hgr2 (fun k hk => .inl (by simp [oSl, hk]))) (fun q hq => by
      obtain rfl : q = g2 := by simpa [oSl, Value.ownBlock] using hq
      rcases hat2 with h | h
      · exact .inl (by simp [oSl, h])
      · exact .inr (by omega)) hown2
    have HF := Lib.hid S1
    clear S1 hown2 hgr2 hat2 hlt2
    (try go_wp2_with fail)
    go_ret
    exact ⟨_, _, rfl, HF.out⟩
  · go_enter Tryz.func18, Tryz.ntmps18
    go_wp2_with (at_builtin; refine wpList_append_src _ rfl _ _ 22 22 rfl 0 33 j0 _ 5 64 Tryz.underlying22 hjf hy0 hy1 hy2 rfl (by decide) (.slice (some ⟨g, 0, none⟩) n cap) n _ rfl HS.out.2.2 _ 1 (omC o) rfl HS.out.2.1 (by decide) (by unfold maxLen; omega) (by omega) (by omega) ?_; intro g2 c2 w2 hown2 hgr2 hat2 hlt2)
    have S1 := HS.out.1.upd 0 (oSl 33 5 (.slice (some ⟨g2, 0, none⟩) (n + 1) c2) (n + 1) (xs ++ omC o)) rfl ((Ext.refl _ _).grown hgr2 (fun k hk => .inl (by simp [oSl, hk]))) (fun q hq => by
      obtain rfl : q = g2 := by simpa [oSl, Value.ownBlock] using hq
      rcases hat2 with h | h
      · exact .inl (by simp [oSl, h])
      · exact .inr (by omega)) hown2
    have HF := Lib.hid S1
    clear S1 hown2 hgr2 hat2 hlt2
    (try go_wp2_with fail)
    go_ret
    exact ⟨_, _, rfl, HF.out⟩
set_option maxRecDepth 100000 in
set_option maxHeartbeats 8000000 in
theorem ins_mid (g cap vb : Nat) (x z y o : Om) (w0 w : World) (M : List Ob) (S : Sep w0 w (oSl 33 5 (.slice (some ⟨g, 0, none⟩) 3 cap) 3 (omsC [x, z, y]) :: M)) (hv : w.heap[vb]? = some (.cells #[.int .i64 o.num, .int .i64 o.gen, o.tv, .bool o.stream, .string o.data] 33 (0, 0)))
    (ho : ∃ a b c, o.tv = .slice a b c) (hz : ∃ a b c, z.tv = .slice a b c) (hc : 3 ≤ cap) (hne : vb ≠ g) (hcm : cap ≤ 9223372036854775807) :
    Calls Tryz.prog 18 #[.slice (some ⟨g, 0, none⟩) 2 cap, .int .i64 1, .slice (some ⟨vb, 0, none⟩) 1 1] w fun e w' => e = .returned (.slice (some ⟨g, 0, none⟩) 3 cap) ∧ Sep w0 w' (oSl 33 5 (.slice (some ⟨g, 0, none⟩) 3 cap) 3 (omsC [x, o, z]) :: M) := by
  have hr : w.ownsRow 0 33 5 (.slice (some ⟨g, 0, none⟩) 3 cap) 3 (omsC [x, z, y]) := S.get 0 rfl
  obtain ⟨cur, hg, -, -, hcs, -⟩ := row_open hr
  have hov : ∀ lb cb, (callFunc 28 #[.slice (some ⟨vb, 0, none⟩) 1 1, .slice (some ⟨g, 10, none⟩) lb cb]).run Tryz.prog w = .ok (.value (.bool false)) w := fun lb cb => by
    rw [run_callFunc_extern Tryz.func28 (by kernel_rfl) (by kernel_rfl) (by kernel_rfl) (e := Extern.SlicesOverlaps.overlaps #[22, 22] #[4]) (by kernel_rfl),
      Lib.run_overlaps_apart w 22 4 33 Tryz.underlying22 5 sizeO ⟨vb, 0, none⟩ ⟨g, 10, none⟩ 1 1 lb cb hne 33 33 5 (cap * 5) (shape_cells hv) (by rw [shape_cells hg, hcs]) (by omega) (freeOf hv 0) (freeOf hv 5)]
    rfl
  have hsz : (Tryz.prog.info? 33).map (·.size) = some 5 := by kernel_rfl
  have hcell : ∀ W : World, W.ownsRow 0 33 5 (.slice (some ⟨g, 0, none⟩) 3 cap) 3 (omsC [x, z, y]) → ∀ j, j < 15 → (W.cell? ⟨g, j, none⟩).isSome = true := fun W hW j hj => by
    rw [row_cell hW (i := j) (List.getElem?_eq_getElem (by rw [omsC_len]; exact hj))]; rfl
  have hrd : w.drew.ownsRow 0 33 5 (.slice (some ⟨g, 0, none⟩) 3 cap) 3 (omsC [x, z, y]) := ownsRow_ext hr ((Ext.refl [] w).drew) (by simp)
  have hcp1 : ∀ ty dc sc, (Builtin.copy_ #[22, 22] ty #[.slice (some ⟨g, 10, none⟩) 1 dc, .slice (some ⟨g, 5, none⟩) 2 sc]).run Tryz.prog w.drew = .ok (goInt 1) (w.drew.setCells g 10 (omC z)) := fun ty dc sc =>
    run_copyK w.drew _ _ ty 33 5 g 10 1 dc ⟨g, 5, none⟩ 2 sc (omC z) Tryz.underlying22 hsz rfl (fun j v hj => by
      rw [Addr.add_lit]
      refine row_cell hrd (i := 5 + j) ?_
      have h5 : j < 5 := (List.getElem?_eq_some_iff.1 hj).1
      have hm : j = 0 ∨ j = 1 ∨ j = 2 ∨ j = 3 ∨ j = 4 := by omega
      rcases hm with rfl | rfl | rfl | rfl | rfl <;> exact hj) (fun j hj => hcell _ hrd _ (by simp [omC] at hj; omega)) (fun j hj => row_free hrd _) (omC_one z hz)
  have hrow1 := row_puts (g := g) (omC z) 10 w.drew _ hrd
  have hrow1 : (w.drew.setCells g 10 (omC z)).ownsRow 0 33 5 (.slice (some ⟨g, 0, none⟩) 3 cap) 3 (omsC [x, z, z]) := hrow1
  have hx1 : Ext [g] w (w.drew.setCells g 10 (omC z)) := ext_puts (g := g) (omC z) 10 w w.drew ((Ext.refl _ w).drew) (by simp)
  obtain ⟨W1, hW1⟩ : ∃ W1, W1 = w.drew.setCells g 10 (omC z) := ⟨_, rfl⟩
  rw [← hW1] at hcp1 hrow1 hx1
  have hv1 := hx1.keep hv (by simpa using hne)
  have hcp2 : ∀ ty dc, (Builtin.copy_ #[22, 22] ty #[.slice (some ⟨g, 5, none⟩) 2 dc, .slice (some ⟨vb, 0, none⟩) 1 1]).run Tryz.prog W1 = .ok (goInt 1) (W1.setCells g 5 (omC o)) := fun ty dc =>
    run_copyK W1 _ _ ty 33 5 g 5 2 dc ⟨vb, 0, none⟩ 1 1 (omC o) Tryz.underlying22 hsz rfl (fun j v hj => by
      rw [Addr.add_lit, Nat.zero_add, cellOf hv1]
      simpa [omC] using hj) (fun j hj => by
        have h5 : j < 5 := hj
        rw [row_cell hrow1 (i := 5 + j) (List.getElem?_eq_getElem (by rw [omsC_len]; simp; omega))]; rfl) (fun j hj => row_free hrow1 _) (omC_one o ho)
  have hrow2 := row_puts (g := g) (omC o) 5 W1 _ hrow1
  have hrow2 : (W1.setCells g 5 (omC o)).ownsRow 0 33 5 (.slice (some ⟨g, 0, none⟩) 3 cap) 3 (omsC [x, o, z]) := hrow2
  have hx2 : Ext [g] w (W1.setCells g 5 (omC o)) := ext_puts (g := g) (omC o) 5 w W1 hx1 (by simp)
  have S2 := S.upd 0 (oSl 33 5 (.slice (some ⟨g, 0, none⟩) 3 cap) 3 (omsC [x, o, z])) rfl hx2 (Fr.refl _ _) hrow2
  have HF := Lib.hid S2
  have hcz : (3 : Int) ≤ (cap : Int) := by omega
  have mixed : Tryz.prog.follows .mixedOrders = true := by kernel_rfl
  have hw2 : IntKind.i64.wrap 2 = 2 := by decide
  have hb2 : ¬ cap = 2 := by omega
  have hb1 : ¬ cap = 1 := by omega
  have hcz2 : ¬ (cap : Int) < 3 := by omega
  clear S S2 hr hg hcs hcell hrd hrow1 hrow2 hx1 hx2 hW1 hv hv1 ho hz
  go_enter Tryz.func18, Tryz.ntmps18
  go_wp2_with (simp only [hov])
  go_region_law_o (refine step_copy_runK rfl _ _ 22 22 rfl _ _ (by simp [Act.eval, Act.put]) (by simp [Act.eval, Act.put]) (hcp1 _ _ _) ?_)
  go_wp2_with (at_builtin; refine wpList_copy_runK _ rfl _ _ 22 22 rfl _ _ rfl rfl (hcp2 _ _) ?_)
  go_ret
  exact ⟨rfl, HF.out⟩
end Go.Proofs.YtgpgamohcafklaaGreatDoor.Rc

/-! RcS: reach.Put at two inputs: a number that is there, the middle one of three; a number above all. -/
namespace Go.Proofs.YtgpgamohcafklaaGreatDoor.Rc
open Go.RowKit
open Go.Proofs.YtgpgamohcafklaaGreatDoor.Tr

set_option maxRecDepth 100000 in
set_option maxHeartbeats 8000000 in
theorem put_mid (v : Value) (x y z o : Om) (m0 m1 : Int) (w : World) (h : OmsAt w v [x, y, z]) (ho : NodesAt w o.tv o.tree) (hx : x.num < o.num) (hy : y.num = o.num) (hz : o.num < z.num) :
    Calls Tryz.prog 6 #[.agg #[v, .int .i64 m0, .int .i64 m1], omV o] w fun e w' => ∃ v2, e = .returned (.agg #[v2, .int .i64 m0, .int .i64 m1]) ∧ Ext [] w w' ∧ OmsAt w' v2 [x, o, z] := by
  have hT := h
  obtain ⟨base, cap, rfl, hcap, hN⟩ := h
  obtain ⟨b, ob, rfl, -⟩ := hN 0 (by simp)
  have hnodes : ∀ u ∈ [x, y, z], NodesAt w u.tv u.tree := fun u hu => oms_nodes hN hu
  obtain ⟨tb, tc, htv⟩ := tree_slice ho
  have HN := Lib.hid (⟨hT, hN, hnodes, ho⟩ : _ ∧ _ ∧ _ ∧ _)
  have ho3 : ∃ a b c, o.tv = .slice a b c := ⟨_, _, _, htv⟩
  obtain ⟨ya, yc, hyv⟩ := tree_slice (hnodes z (by simp))
  have hz3 : ∃ a b c, z.tv = .slice a b c := ⟨_, _, _, hyv⟩
  have HT3 := Lib.hid (⟨ho3, hz3⟩ : _ ∧ _)
  clear hyv ho3 hz3
  obtain ⟨onum, ogen, otv, ost, odt, otr⟩ := o
  have htv : otv = .slice tb otr.length tc := htv
  subst htv
  obtain ⟨tn, htn⟩ : ∃ tn, otr.length = tn := ⟨_, rfl⟩
  simp only [List.length_cons, List.length_nil, Nat.zero_add, Nat.reduceAdd] at hcap HN ⊢
  rw [htn] at HN HT3 ⊢
  clear hT hN hnodes ho htn
  obtain ⟨W0, hW0⟩ : ∃ W0, ((w.alloc (Obj.cells #[.slice (some ⟨b, ob, none⟩) 3 cap, .int .i64 m0, .int .i64 m1] 26)).alloc (Obj.cells #[.int .i64 onum, .int .i64 ogen, .slice tb tn tc, .bool ost, .string odt] 33)).alloc (Obj.cells #[.slice none 0 0, .int .i64 0, .int .i64 0] 26) = W0 := ⟨_, rfl⟩
  have hx0 : Ext [] w W0 := by rw [← hW0]; exact (((Ext.refl [] w).alloc _).alloc _).alloc _
  have hbA : W0.heap[w.heap.size]? = some (.cells #[.slice (some ⟨b, ob, none⟩) 3 cap, .int .i64 m0, .int .i64 m1] 26 (0, 0)) := by rw [← hW0]; exact heap_alloc_old _ (heap_alloc_old _ (heap_alloc_at _))
  have hbB : W0.heap[w.heap.size + 1]? = some (.cells #[.int .i64 onum, .int .i64 ogen, .slice tb tn tc, .bool ost, .string odt] 33 (0, 0)) := by
    have := heap_alloc_at (w := w.alloc (Obj.cells #[.slice (some ⟨b, ob, none⟩) 3 cap, .int .i64 m0, .int .i64 m1] 26)) (.cells #[.int .i64 onum, .int .i64 ogen, .slice tb tn tc, .bool ost, .string odt] 33)
    rw [show (w.alloc (Obj.cells #[.slice (some ⟨b, ob, none⟩) 3 cap, .int .i64 m0, .int .i64 m1] 26)).heap.size = w.heap.size + 1 from by simp] at this
    rw [← hW0]; exact heap_alloc_old _ this
  have hbR : W0.heap[w.heap.size + 1 + 1]? = some (.cells #[.slice none 0 0, .int .i64 0, .int .i64 0] 26 (0, 0)) := by
    have := heap_alloc_at (w := (w.alloc (Obj.cells #[.slice (some ⟨b, ob, none⟩) 3 cap, .int .i64 m0, .int .i64 m1] 26)).alloc (Obj.cells #[.int .i64 onum, .int .i64 ogen, .slice tb tn tc, .bool ost, .string odt] 33)) (.cells #[.slice none 0 0, .int .i64 0, .int .i64 0] 26)
    rw [show ((w.alloc (Obj.cells #[.slice (some ⟨b, ob, none⟩) 3 cap, .int .i64 m0, .int .i64 m1] 26)).alloc (Obj.cells #[.int .i64 onum, .int .i64 ogen, .slice tb tn tc, .bool ost, .string odt] 33)).heap.size = w.heap.size + 1 + 1 from by simp, hW0] at this
    exact this
  have hsz : W0.heap.size = w.heap.size + 1 + 1 + 1 := by rw [← hW0]; simp
  have HB := Lib.hid (⟨hx0, hbA, hbB, hbR, hsz⟩ : _ ∧ _ ∧ _ ∧ _ ∧ _)
  have HH := Lib.hid (⟨hx, hy, hz⟩ : _ ∧ _ ∧ _)
  obtain ⟨qo, hqo⟩ : ∃ qo, w.heap.size + 1 = qo := ⟨_, rfl⟩
  obtain ⟨qr, hqr⟩ : ∃ qr, qo + 1 = qr := ⟨_, rfl⟩
  have HQ := Lib.hid (⟨hqo, hqr⟩ : _ ∧ _)
  have a0 := cellOf hbA 0
  have a1 := cellOf hbA 1
  have a2 := cellOf hbA 2
  rw [hqo] at HB hbB
  rw [hqr] at HB
  clear hx0 hbR hsz hx hy hz
  show Calls _ _ #[_, .agg #[.int .i64 onum, .int .i64 ogen, .slice tb tn tc, .bool ost, .string odt]] _ _
  go_enter Tryz.func6, Tryz.ntmps6
  go_upto_region 2 with (fail)
  obtain ⟨p, hp⟩ : ∃ p, W0.heap.size = p := ⟨_, rfl⟩
  obtain ⟨W1, hW1⟩ : ∃ W1, W0.alloc (Obj.cells #[.slice none 0 0, .int .i64 m0, .int .i64 m1] 26) = W1 := ⟨_, rfl⟩
  have hx1 : Ext [] W0 W1 := by rw [← hW1]; exact (Ext.refl [] W0).alloc _
  have hbp : W1.heap[p]? = some (.cells #[.slice none 0 0, .int .i64 m0, .int .i64 m1] 26 (0, 0)) := by rw [← hW1, ← hp]; exact heap_alloc_at _
  have S1 := (Sep.start W0).new hx1 (Ob.one p (.cells #[.slice none 0 0, .int .i64 m0, .int .i64 m1] 26)) hbp (fun q hq => by simp [Ob.one] at hq; omega)
  rw [hW1, hp]
  have c0 := hx1.cell a0
  clear hW0 hW1 a0 a1 a2 hbp
  have HC := cloneO_walk b ob cap [x, y, z] W1 (HN.out.2.1.ext (HB.out.1.trans hx1)) (by simp) (by simp)
  simp only [List.length_cons, List.length_nil, Nat.zero_add, Nat.reduceAdd] at HC
  have HC := Lib.hid HC
  have HS1 := Lib.hid S1
  clear S1 hx1
  go_wp2_with fail
  refine HC.out.mono ?_
  rintro e w2 ⟨g, c, rfl, S2⟩
  have hr2 : w2.ownsRow 0 33 5 (.slice (some ⟨g, 0, none⟩) 3 c) 3 (omsC [x, y, z]) := S2.get 0 rfl
  have hc3 := row_le hr2
  have hcm : c ≤ 9223372036854775807 := by
    obtain ⟨_, _, _, hm, _⟩ := row_open hr2
    have : maxLen ≤ 9223372036854775807 := by decide
    omega
  have S2j := sep_join HS1.out S2
  have HD := Lib.hid (del_mid g c x y z onum qo W0 w2 [Ob.one p (.cells #[.slice none 0 0, .int .i64 m0, .int .i64 m1] 26)] S2j (fun u hu => (HN.out.2.2.1 u hu).ext HB.out.1) (cellOf HB.out.2.2.1 0) (by have : x.num < onum := HH.out.1; omega) HH.out.2.1 (by have : onum < z.num := HH.out.2.2; omega) hc3)
  clear S2 hr2 c0 HC HS1
  clear S2j
  go_wp2_with fail
  refine HD.out.mono ?_
  rintro e w3 ⟨rfl, S3⟩
  have hb3 : w3.heap[p]? = some (.cells #[.slice none 0 0, .int .i64 m0, .int .i64 m1] 26 (0, 0)) := S3.get 1 rfl
  have e0 := cellOf hb3 0
  have f0 := freeOf hb3 0
  have HS3 := Lib.hid S3
  clear S3 HD
  go_upto_region 3 with (fail)
  clear e0 f0
  obtain ⟨W4, hW4⟩ : ∃ W4, w3.setCell ⟨p, 0, none⟩ (.slice (some ⟨g, 0, none⟩) 2 c) = W4 := ⟨_, rfl⟩
  have S4 := HS3.out.upd 1 (Ob.one p (.cells #[.slice (some ⟨g, 0, none⟩) 2 c, .int .i64 m0, .int .i64 m1] 26)) rfl ((Ext.refl _ w3).setCell ⟨p, 0, none⟩ (.slice (some ⟨g, 0, none⟩) 2 c) (.inl (by simp [Ob.one]))) (Fr.refl _ _) (heap_setCell_same hb3 _)
  rw [hW4] at S4 ⊢
  have c0 := S4.ext.cell (cellOf HB.out.2.1 0)
  have HI := idx2_walk _ [x, y, z] onum qo W4 (HN.out.1.ext (HB.out.1.trans S4.ext)) (S4.ext.cell (cellOf HB.out.2.2.1 0)) (by simp)
  rw [show idxB (geM onum) [x, y, z] 0 = 1 by
    have h1 : x.num < onum := HH.out.1
    have h2 : y.num = onum := HH.out.2.1
    simp [idxB, geM]
    omega] at HI
  have HI := Lib.hid HI
  have HS4 := Lib.hid S4
  clear S4 hW4 hb3 HS3
  go_wp2_with fail
  refine HI.out.mono ?_
  rintro e w5 ⟨rfl, hx5⟩
  have S5 := HS4.out.quiet hx5
  have hb5 : w5.heap[p]? = some (.cells #[.slice (some ⟨g, 0, none⟩) 2 c, .int .i64 m0, .int .i64 m1] 26 (0, 0)) := S5.get 1 rfl
  have e0 := cellOf hb5 0
  have k0 := S5.ext.cell (cellOf HB.out.2.2.1 0)
  have k1 := S5.ext.cell (cellOf HB.out.2.2.1 1)
  have k2 := S5.ext.cell (cellOf HB.out.2.2.1 2)
  have k3 := S5.ext.cell (cellOf HB.out.2.2.1 3)
  have k4 := S5.ext.cell (cellOf HB.out.2.2.1 4)
  have S6 := S5.quiet ((Ext.refl [] w5).alloc (.cells #[.int .i64 onum, .int .i64 ogen, .slice tb tn tc, .bool ost, .string odt] 33))
  have hgl : g < w5.heap.size := (S5.each _ (List.mem_cons_self ..)) |> fun h => (oSl 33 5 (.slice (some ⟨g, 0, none⟩) 3 c) 3 _).lt h g (by simp [oSl, Value.ownBlock])
  have HJ := Lib.hid (ins_mid g c w5.heap.size x z zeroO ⟨onum, ogen, .slice tb tn tc, ost, odt, otr⟩ W0 _ [Ob.one p (.cells #[.slice (some ⟨g, 0, none⟩) 2 c, .int .i64 m0, .int .i64 m1] 26)] S6 (heap_alloc_at (w := w5) _) HT3.out.1 HT3.out.2 hc3 (by omega) hcm)
  clear S5 hx5 HI HS4 c0 hb5 S6
  go_wp2_with fail
  refine HJ.out.mono ?_
  rintro e w7 ⟨rfl, S7⟩
  have hb7 : w7.heap[p]? = some (.cells #[.slice (some ⟨g, 0, none⟩) 2 c, .int .i64 m0, .int .i64 m1] 26 (0, 0)) := S7.get 1 rfl
  have e0 := cellOf hb7 0
  have f0 := freeOf hb7 0
  have HS7 := Lib.hid S7
  clear S7 HJ k0 k1 k2 k3 k4
  go_upto_region 7 with (fail)
  clear e0 f0
  obtain ⟨W8, hW8⟩ : ∃ W8, w7.setCell ⟨p, 0, none⟩ (.slice (some ⟨g, 0, none⟩) 3 c) = W8 := ⟨_, rfl⟩
  have S8 := HS7.out.upd 1 (Ob.one p (.cells #[(.slice (some ⟨g, 0, none⟩) 3 c), .int .i64 m0, .int .i64 m1] 26)) rfl ((Ext.refl _ w7).setCell ⟨p, 0, none⟩ (.slice (some ⟨g, 0, none⟩) 3 c) (.inl (by simp [Ob.one]))) (Fr.refl _ _) (heap_setCell_same hb7 _)
  rw [hW8] at S8 ⊢
  have hb8 : W8.heap[p]? = some (.cells #[(.slice (some ⟨g, 0, none⟩) 3 c), .int .i64 m0, .int .i64 m1] 26 (0, 0)) := S8.get 1 rfl
  have hr8 : W8.ownsRow 0 33 5 (.slice (some ⟨g, 0, none⟩) 3 c) 3 (omsC [x, ⟨onum, ogen, .slice tb tn tc, ost, odt, otr⟩, z]) := S8.get 0 rfl
  have hbR := S8.ext.keep HB.out.2.2.2.1 (by simp)
  have hO : Value.ownBlock (.slice (some ⟨g, 0, none⟩) 3 c) ≠ some qr := fun e => by
    have h1 := S8.base (oSl 33 5 (.slice (some ⟨g, 0, none⟩) 3 c) 3 (omsC [x, ⟨onum, ogen, .slice tb tn tc, ost, odt, otr⟩, z])) (List.mem_cons_self ..) qr (by simp [oSl, e])
    have h2 := HB.out.2.2.2.2
    omega
  have k0 := cellOf hb8 0
  have k1 := cellOf hb8 1
  have k2 := cellOf hb8 2
  have l0 := cellOf hbR 0
  have l1 := cellOf hbR 1
  have l2 := cellOf hbR 2
  have f0 := freeOf hbR 0
  have f1 := freeOf hbR 1
  have f2 := freeOf hbR 2
  have HF := Lib.hid (⟨HB.out.1.trans S8.ext, hO, hbR, hr8⟩ : _ ∧ _ ∧ _ ∧ _)
  clear S8 hr8 hb8 hbR hO hW8 hb7 HS7
  go_wp2_with fail
  (try simp only [Exit.inBlock, Exit.then])
  refine bodyPost_ret (results_cell_row rfl _ _ qr 26 #[(.slice (some ⟨g, 0, none⟩) 3 c), .int .i64 m0, .int .i64 m1] (0, 0) _ rfl (heap_setCell_same (heap_setCell_same (heap_setCell_same HF.out.2.2.1 _) _) _) Tryz.underlying26 rfl sizeGraph) rfl ?_
  have hpW : w.heap.size ≤ qr := by have := HQ.out; omega
  have hxF := ((HF.out.1.setCell ⟨qr, 0, none⟩ (.slice (some ⟨g, 0, none⟩) 3 c) (.inr hpW)).setCell ⟨qr, 1, none⟩ (.int .i64 m0) (.inr hpW)).setCell ⟨qr, 2, none⟩ (.int .i64 m1) (.inr hpW)
  refine ⟨_, rfl, hxF, oms_own (L := [x, ⟨onum, ogen, .slice tb tn tc, ost, odt, otr⟩, z]) (ownsRow_setCell_other (ownsRow_setCell_other (ownsRow_setCell_other HF.out.2.2.2 HF.out.2.1 _) HF.out.2.1 _) HF.out.2.1 _) (fun u hu => ?_)⟩
  simp only [List.mem_cons, List.not_mem_nil, or_false] at hu
  rcases hu with rfl | rfl | rfl
  · exact (HN.out.2.2.1 _ (by simp)).ext hxF
  · exact HN.out.2.2.2.ext hxF
  · exact (HN.out.2.2.1 _ (by simp)).ext hxF
set_option maxRecDepth 100000 in
set_option maxHeartbeats 8000000 in
theorem put_end (v : Value) (x y z o : Om) (m0 m1 : Int) (w : World) (h : OmsAt w v [x, y, z]) (ho : NodesAt w o.tv o.tree) (hx : x.num < o.num) (hy : y.num < o.num) (hz : z.num < o.num) :
    Calls Tryz.prog 6 #[.agg #[v, .int .i64 m0, .int .i64 m1], omV o] w fun e w' => ∃ v2, e = .returned (.agg #[v2, .int .i64 m0, .int .i64 m1]) ∧ Ext [] w w' ∧ OmsAt w' v2 [x, y, z, o] := by
  have hT := h
  obtain ⟨base, cap, rfl, hcap, hN⟩ := h
  obtain ⟨b, ob, rfl, -⟩ := hN 0 (by simp)
  have hnodes : ∀ u ∈ [x, y, z], NodesAt w u.tv u.tree := fun u hu => oms_nodes hN hu
  obtain ⟨tb, tc, htv⟩ := tree_slice ho
  have HN := Lib.hid (⟨hT, hN, hnodes, ho⟩ : _ ∧ _ ∧ _ ∧ _)
  have ho3 : ∃ a b c, o.tv = .slice a b c := ⟨_, _, _, htv⟩
  obtain ⟨ya, yc, hyv⟩ := tree_slice (hnodes z (by simp))
  have hz3 : ∃ a b c, z.tv = .slice a b c := ⟨_, _, _, hyv⟩
  have HT3 := Lib.hid (⟨ho3, hz3⟩ : _ ∧ _)
  clear hyv ho3 hz3
  obtain ⟨onum, ogen, otv, ost, odt, otr⟩ := o
  have htv : otv = .slice tb otr.length tc := htv
  subst htv
  obtain ⟨tn, htn⟩ : ∃ tn, otr.length = tn := ⟨_, rfl⟩
  simp only [List.length_cons, List.length_nil, Nat.zero_add, Nat.reduceAdd] at hcap HN ⊢
  rw [htn] at HN HT3 ⊢
  clear hT hN hnodes ho htn
  obtain ⟨W0, hW0⟩ : ∃ W0, ((w.alloc (Obj.cells #[.slice (some ⟨b, ob, none⟩) 3 cap, .int .i64 m0, .int .i64 m1] 26)).alloc (Obj.cells #[.int .i64 onum, .int .i64 ogen, .slice tb tn tc, .bool ost, .string odt] 33)).alloc (Obj.cells #[.slice none 0 0, .int .i64 0, .int .i64 0] 26) = W0 := ⟨_, rfl⟩
  have hx0 : Ext [] w W0 := by rw [← hW0]; exact (((Ext.refl [] w).alloc _).alloc _).alloc _
  have hbA : W0.heap[w.heap.size]? = some (.cells #[.slice (some ⟨b, ob, none⟩) 3 cap, .int .i64 m0, .int .i64 m1] 26 (0, 0)) := by rw [← hW0]; exact heap_alloc_old _ (heap_alloc_old _ (heap_alloc_at _))
  have hbB : W0.heap[w.heap.size + 1]? = some (.cells #[.int .i64 onum, .int .i64 ogen, .slice tb tn tc, .bool ost, .string odt] 33 (0, 0)) := by
    have := heap_alloc_at (w := w.alloc (Obj.cells #[.slice (some ⟨b, ob, none⟩) 3 cap, .int .i64 m0, .int .i64 m1] 26)) (.cells #[.int .i64 onum, .int .i64 ogen, .slice tb tn tc, .bool ost, .string odt] 33)
    rw [show (w.alloc (Obj.cells #[.slice (some ⟨b, ob, none⟩) 3 cap, .int .i64 m0, .int .i64 m1] 26)).heap.size = w.heap.size + 1 from by simp] at this
    rw [← hW0]; exact heap_alloc_old _ this
  have hbR : W0.heap[w.heap.size + 1 + 1]? = some (.cells #[.slice none 0 0, .int .i64 0, .int .i64 0] 26 (0, 0)) := by
    have := heap_alloc_at (w := (w.alloc (Obj.cells #[.slice (some ⟨b, ob, none⟩) 3 cap, .int .i64 m0, .int .i64 m1] 26)).alloc (Obj.cells #[.int .i64 onum, .int .i64 ogen, .slice tb tn tc, .bool ost, .string odt] 33)) (.cells #[.slice none 0 0, .int .i64 0, .int .i64 0] 26)
    rw [show ((w.alloc (Obj.cells #[.slice (some ⟨b, ob, none⟩) 3 cap, .int .i64 m0, .int .i64 m1] 26)).alloc (Obj.cells #[.int .i64 onum, .int .i64 ogen, .slice tb tn tc, .bool ost, .string odt] 33)).heap.size = w.heap.size + 1 + 1 from by simp, hW0] at this
    exact this
  have hsz : W0.heap.size = w.heap.size + 1 + 1 + 1 := by rw [← hW0]; simp
  have HB := Lib.hid (⟨hx0, hbA, hbB, hbR, hsz⟩ : _ ∧ _ ∧ _ ∧ _ ∧ _)
  have HH := Lib.hid (⟨hx, hy, hz⟩ : _ ∧ _ ∧ _)
  obtain ⟨qo, hqo⟩ : ∃ qo, w.heap.size + 1 = qo := ⟨_, rfl⟩
  obtain ⟨qr, hqr⟩ : ∃ qr, qo + 1 = qr := ⟨_, rfl⟩
  have HQ := Lib.hid (⟨hqo, hqr⟩ : _ ∧ _)
  have a0 := cellOf hbA 0
  have a1 := cellOf hbA 1
  have a2 := cellOf hbA 2
  rw [hqo] at HB hbB
  rw [hqr] at HB
  clear hx0 hbR hsz hx hy hz
  show Calls _ _ #[_, .agg #[.int .i64 onum, .int .i64 ogen, .slice tb tn tc, .bool ost, .string odt]] _ _
  go_enter Tryz.func6, Tryz.ntmps6
  go_upto_region 2 with (fail)
  obtain ⟨p, hp⟩ : ∃ p, W0.heap.size = p := ⟨_, rfl⟩
  obtain ⟨W1, hW1⟩ : ∃ W1, W0.alloc (Obj.cells #[.slice none 0 0, .int .i64 m0, .int .i64 m1] 26) = W1 := ⟨_, rfl⟩
  have hx1 : Ext [] W0 W1 := by rw [← hW1]; exact (Ext.refl [] W0).alloc _
  have hbp : W1.heap[p]? = some (.cells #[.slice none 0 0, .int .i64 m0, .int .i64 m1] 26 (0, 0)) := by rw [← hW1, ← hp]; exact heap_alloc_at _
  have S1 := (Sep.start W0).new hx1 (Ob.one p (.cells #[.slice none 0 0, .int .i64 m0, .int .i64 m1] 26)) hbp (fun q hq => by simp [Ob.one] at hq; omega)
  rw [hW1, hp]
  have c0 := hx1.cell a0
  clear hW0 hW1 a0 a1 a2 hbp
  have HC := cloneO_walk b ob cap [x, y, z] W1 (HN.out.2.1.ext (HB.out.1.trans hx1)) (by simp) (by simp)
  simp only [List.length_cons, List.length_nil, Nat.zero_add, Nat.reduceAdd] at HC
  have HC := Lib.hid HC
  have HS1 := Lib.hid S1
  clear S1 hx1
  go_wp2_with fail
  refine HC.out.mono ?_
  rintro e w2 ⟨g, c, rfl, S2⟩
  have hr2 : w2.ownsRow 0 33 5 (.slice (some ⟨g, 0, none⟩) 3 c) 3 (omsC [x, y, z]) := S2.get 0 rfl
  have hc3 := row_le hr2
  have hcm : c ≤ 9223372036854775807 := by
    obtain ⟨_, _, _, hm, _⟩ := row_open hr2
    have : maxLen ≤ 9223372036854775807 := by decide
    omega
  have S2j := sep_join HS1.out S2
  have HD := Lib.hid (del_none g c [x, y, z] onum qo w2 hr2 (fun u hu => ((HN.out.2.2.1 u hu).ext HB.out.1).ext S2j.ext) (S2j.ext.cell (cellOf HB.out.2.2.1 0)) (by simp) (by
    have h1 : x.num < onum := HH.out.1
    have h2 : y.num < onum := HH.out.2.1
    have h3 : z.num < onum := HH.out.2.2
    simp [idxB, isM]
    omega))
  clear S2 hr2 c0 HC HS1
  have HS2 := Lib.hid S2j
  simp only [List.length_cons, List.length_nil, Nat.zero_add, Nat.reduceAdd] at HD
  clear S2j
  go_wp2_with fail
  refine HD.out.mono ?_
  rintro e w3 ⟨rfl, hx3⟩
  have S3 := HS2.out.quiet hx3
  clear hx3
  have hb3 : w3.heap[p]? = some (.cells #[.slice none 0 0, .int .i64 m0, .int .i64 m1] 26 (0, 0)) := S3.get 1 rfl
  have e0 := cellOf hb3 0
  have f0 := freeOf hb3 0
  have HS3 := Lib.hid S3
  clear S3 HD
  go_upto_region 3 with (fail)
  clear e0 f0
  obtain ⟨W4, hW4⟩ : ∃ W4, w3.setCell ⟨p, 0, none⟩ (.slice (some ⟨g, 0, none⟩) 3 c) = W4 := ⟨_, rfl⟩
  have S4 := HS3.out.upd 1 (Ob.one p (.cells #[.slice (some ⟨g, 0, none⟩) 3 c, .int .i64 m0, .int .i64 m1] 26)) rfl ((Ext.refl _ w3).setCell ⟨p, 0, none⟩ (.slice (some ⟨g, 0, none⟩) 3 c) (.inl (by simp [Ob.one]))) (Fr.refl _ _) (heap_setCell_same hb3 _)
  rw [hW4] at S4 ⊢
  have c0 := S4.ext.cell (cellOf HB.out.2.1 0)
  have HI := idx2_walk _ [x, y, z] onum qo W4 (HN.out.1.ext (HB.out.1.trans S4.ext)) (S4.ext.cell (cellOf HB.out.2.2.1 0)) (by simp)
  rw [show idxB (geM onum) [x, y, z] 0 = -1 by
    have h1 : x.num < onum := HH.out.1
    have h2 : y.num < onum := HH.out.2.1
    have h3 : z.num < onum := HH.out.2.2
    simp [idxB, geM]
    omega] at HI
  have HI := Lib.hid HI
  have HS4 := Lib.hid S4
  clear S4 hW4 hb3 HS3
  go_wp2_with fail
  refine HI.out.mono ?_
  rintro e w5 ⟨rfl, hx5⟩
  have S5 := HS4.out.quiet hx5
  have hb5 : w5.heap[p]? = some (.cells #[.slice (some ⟨g, 0, none⟩) 3 c, .int .i64 m0, .int .i64 m1] 26 (0, 0)) := S5.get 1 rfl
  have e0 := cellOf hb5 0
  have k0 := S5.ext.cell (cellOf HB.out.2.2.1 0)
  have k1 := S5.ext.cell (cellOf HB.out.2.2.1 1)
  have k2 := S5.ext.cell (cellOf HB.out.2.2.1 2)
  have k3 := S5.ext.cell (cellOf HB.out.2.2.1 3)
  have k4 := S5.ext.cell (cellOf HB.out.2.2.1 4)
  have S6 := S5.quiet ((Ext.refl [] w5).alloc (.cells #[.int .i64 onum, .int .i64 ogen, .slice tb tn tc, .bool ost, .string odt] 33))
  have hgl : g < w5.heap.size := (S5.each _ (List.mem_cons_self ..)) |> fun h => (oSl 33 5 (.slice (some ⟨g, 0, none⟩) 3 c) 3 _).lt h g (by simp [oSl, Value.ownBlock])
  have HJ := Lib.hid (ins_end g c 3 w5.heap.size (omsC [x, y, z]) ⟨onum, ogen, .slice tb tn tc, ost, odt, otr⟩ W0 _ [Ob.one p (.cells #[.slice (some ⟨g, 0, none⟩) 3 c, .int .i64 m0, .int .i64 m1] 26)] S6 (heap_alloc_at (w := w5) _) HT3.out.1 (by omega) hc3)
  clear S5 hx5 HI HS4 c0 hb5 S6
  go_wp2_with fail
  refine HJ.out.mono ?_
  rintro e w7 ⟨g2, c2, rfl, S7⟩
  have hb7 : w7.heap[p]? = some (.cells #[.slice (some ⟨g, 0, none⟩) 3 c, .int .i64 m0, .int .i64 m1] 26 (0, 0)) := S7.get 1 rfl
  have e0 := cellOf hb7 0
  have f0 := freeOf hb7 0
  have HS7 := Lib.hid S7
  clear S7 HJ k0 k1 k2 k3 k4
  go_upto_region 7 with (fail)
  clear e0 f0
  obtain ⟨W8, hW8⟩ : ∃ W8, w7.setCell ⟨p, 0, none⟩ (.slice (some ⟨g2, 0, none⟩) 4 c2) = W8 := ⟨_, rfl⟩
  have S8 := HS7.out.upd 1 (Ob.one p (.cells #[(.slice (some ⟨g2, 0, none⟩) 4 c2), .int .i64 m0, .int .i64 m1] 26)) rfl ((Ext.refl _ w7).setCell ⟨p, 0, none⟩ (.slice (some ⟨g2, 0, none⟩) 4 c2) (.inl (by simp [Ob.one]))) (Fr.refl _ _) (heap_setCell_same hb7 _)
  rw [hW8] at S8 ⊢
  have hb8 : W8.heap[p]? = some (.cells #[(.slice (some ⟨g2, 0, none⟩) 4 c2), .int .i64 m0, .int .i64 m1] 26 (0, 0)) := S8.get 1 rfl
  have hr8 : W8.ownsRow 0 33 5 (.slice (some ⟨g2, 0, none⟩) 4 c2) 4 (omsC [x, y, z, ⟨onum, ogen, .slice tb tn tc, ost, odt, otr⟩]) := S8.get 0 rfl
  have hbR := S8.ext.keep HB.out.2.2.2.1 (by simp)
  have hO : Value.ownBlock (.slice (some ⟨g2, 0, none⟩) 4 c2) ≠ some qr := fun e => by
    have h1 := S8.base (oSl 33 5 (.slice (some ⟨g2, 0, none⟩) 4 c2) 4 (omsC [x, y, z, ⟨onum, ogen, .slice tb tn tc, ost, odt, otr⟩])) (List.mem_cons_self ..) qr (by simp [oSl, e])
    have h2 := HB.out.2.2.2.2
    omega
  have k0 := cellOf hb8 0
  have k1 := cellOf hb8 1
  have k2 := cellOf hb8 2
  have l0 := cellOf hbR 0
  have l1 := cellOf hbR 1
  have l2 := cellOf hbR 2
  have f0 := freeOf hbR 0
  have f1 := freeOf hbR 1
  have f2 := freeOf hbR 2
  have HF := Lib.hid (⟨HB.out.1.trans S8.ext, hO, hbR, hr8⟩ : _ ∧ _ ∧ _ ∧ _)
  clear S8 hr8 hb8 hbR hO hW8 hb7 HS7
  go_wp2_with fail
  (try simp only [Exit.inBlock, Exit.then])
  refine bodyPost_ret (results_cell_row rfl _ _ qr 26 #[(.slice (some ⟨g2, 0, none⟩) 4 c2), .int .i64 m0, .int .i64 m1] (0, 0) _ rfl (heap_setCell_same (heap_setCell_same (heap_setCell_same HF.out.2.2.1 _) _) _) Tryz.underlying26 rfl sizeGraph) rfl ?_
  have hpW : w.heap.size ≤ qr := by have := HQ.out; omega
  have hxF := ((HF.out.1.setCell ⟨qr, 0, none⟩ (.slice (some ⟨g2, 0, none⟩) 4 c2) (.inr hpW)).setCell ⟨qr, 1, none⟩ (.int .i64 m0) (.inr hpW)).setCell ⟨qr, 2, none⟩ (.int .i64 m1) (.inr hpW)
  refine ⟨_, rfl, hxF, oms_own (L := [x, y, z, ⟨onum, ogen, .slice tb tn tc, ost, odt, otr⟩]) (ownsRow_setCell_other (ownsRow_setCell_other (ownsRow_setCell_other HF.out.2.2.2 HF.out.2.1 _) HF.out.2.1 _) HF.out.2.1 _) (fun u hu => ?_)⟩
  simp only [List.mem_cons, List.not_mem_nil, or_false] at hu
  rcases hu with rfl | rfl | rfl | rfl
  · exact (HN.out.2.2.1 _ (by simp)).ext hxF
  · exact (HN.out.2.2.1 _ (by simp)).ext hxF
  · exact (HN.out.2.2.1 _ (by simp)).ext hxF
  · exact HN.out.2.2.2.ext hxF
end Go.Proofs.YtgpgamohcafklaaGreatDoor.Rc
