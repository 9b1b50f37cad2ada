/-
  deflate: Counts walked.
-/
import Derived.Test.YtnapnaaejignaaaGreatDgD
namespace Go.Proofs.YtnapnaaejignaaaGreat.De
open Go.RowKit Bt Hu If Mt

abbrev oIs (g cap : Nat) (l : List Int) : Ob := oSl 3 1 (.slice (some ⟨g, 0, none⟩) l.length cap) l.length (l.map iz)
/-- a new row of noughts -/
theorem made (n : Nat) (hn : n ≤ 100000) {w0 w : World} {L : List Ob} (S : Sep w0 w L) :
    ∃ q W, (Instr.makeSlice 58 (.int .i64 (n : Nat)) (.int .i64 (n : Nat))).run Tryz.prog w = .ok (.slice (some ⟨q, 0, none⟩) n n) W ∧ Ext [] w W ∧ Sep w0 W (oIs q n (zers n) :: L) := by
  obtain ⟨i0, hif, hz0, hz1, hz2⟩ := info_parts infoInt7
  obtain ⟨wm, hmk, hown, hgrow⟩ := run_make_full (P := Tryz.prog) w 0 58 3 i0 (.int .i64 0) 1 Tryz.underlying58 hif hz0 hz1 .i64 .i64 n (by rw [hz2]; omega) (by unfold maxLen; omega) (by omega)
  have hx4 : Ext [] w wm := (Ext.refl [] w).grown hgrow (fun k hk => by cases hk)
  refine ⟨w.heap.size, wm, hmk, hx4, S.new hx4 (oIs w.heap.size n (zers n)) ?_ (fun q hq => by simp [oSl, Value.ownBlock] at hq; omega)⟩
  have hm : (madeCells (Value.int .i64 0).cells (n * 1)).toList = (zers n).map iz := by
    rw [zers, List.map_replicate, Nat.mul_one]
    exact toList_madeCells_one _ _
  rw [hm] at hown
  show wm.ownsRow 0 3 1 (.slice (some ⟨w.heap.size, 0, none⟩) (zers n).length n) (zers n).length ((zers n).map iz)
  rw [zers_len]
  exact hown
theorem row_at {w : World} {g cap k : Nat} {l : List Int} (h : (oIs g cap l).P w) (hk : k < l.length) : w.cell? ⟨g, k, none⟩ = some (.int .i64 (l.getD k 0)) := by
  have h : w.ownsRow 0 3 1 (.slice (some ⟨g, 0, none⟩) l.length cap) l.length (l.map iz) := h
  refine ownsRow_at h ?_
  rw [List.getElem?_map, List.getD_eq_getElem?_getD, List.getElem?_eq_getElem hk]
  rfl
theorem row_free {w : World} {g cap : Nat} {l : List Int} (h : (oIs g cap l).P w) (k : Nat) : w.frozen? ⟨g, k, none⟩ = false := by
  have h : w.ownsRow 0 3 1 (.slice (some ⟨g, 0, none⟩) l.length cap) l.length (l.map iz) := h
  exact ownsRow_free h k
theorem row_set {w0 w : World} {L : List Ob} {g cap k : Nat} {l : List Int} {x : Int} (S : Sep w0 w L) (i : Nat) (hi : L[i]? = some (oIs g cap l)) : Sep w0 (w.setCell ⟨g, k, none⟩ (.int .i64 x)) (L.set i (oIs g cap (l.set k x))) := by
  refine S.upd i (oIs g cap (l.set k x)) hi ((Ext.refl _ _).setCell _ _ (.inl (by simp [oSl, Value.ownBlock]))) (by simp only [oSl, List.length_set]; exact Fr.refl _ _) ?_
  have h : w.ownsRow 0 3 1 (.slice (some ⟨g, 0, none⟩) l.length cap) l.length (l.map iz) := S.get i hi
  have h2 := ownsRow_store (i := k) h (iz x)
  show (w.setCell ⟨g, k, none⟩ (iz x)).ownsRow 0 3 1 (.slice (some ⟨g, 0, none⟩) (l.set k x).length cap) (l.set k x).length ((l.set k x).map iz)
  rw [List.length_set, List.map_set]
  exact h2
set_option maxRecDepth 100000 in
set_option maxHeartbeats 8000000 in
theorem counts_walk (v : Value) (l : List Pc) (w : World) (hv : PcAt w v l) (hl : l.length ≤ 1048576) (hc : chkN l = 0) :
    Calls Tryz.prog 33 #[v] w fun e w' => ∃ g1 g2, e = .returned (.tuple #[.slice (some ⟨g1, 0, none⟩) 286 286, .slice (some ⟨g2, 0, none⟩) 30 30]) ∧ Sep w w' [oIs g1 286 (cntA l), oIs g2 30 (cntB l)] := by
  obtain ⟨hbad, hchk⟩ := chk_zero hc
  have C := cnt_ok l (zers 286) (zers 30) 0 hbad (zers_len _) (zers_len _) (Int.le_refl _) (Rg.zers _) (Rg.zers _)
  obtain ⟨RA, hRA⟩ : ∃ RA, cntA l = RA := ⟨_, rfl⟩
  obtain ⟨RB, hRB⟩ : ∃ RB, cntB l = RB := ⟨_, rfl⟩
  rw [hRA, hRB]
  unfold cntA at hRA
  unfold cntB at hRB
  have HRR := Lib.hid (⟨hRA, hRB⟩ : _ ∧ _)
  clear hRA hRB
  have HC9 := Lib.hid (Check_walk v l w hv hl)
  rw [hc] at HC9
  obtain ⟨ao, cap, rfl, hcell⟩ := hv
  have HC := Lib.hid hcell
  have HB := Lib.hid hbad
  clear hcell hbad hchk
  go_enter Tryz.func33, Tryz.ntmps33
  go_wp2_with fail
  refine HC9.out.mono ?_
  rintro e w1 ⟨rfl, hx⟩
  have S := (Sep.start w).quiet hx
  have HS := Lib.hid S
  clear HC9 hx S
  go_upto_region 3 with fail
  go_cut [2, 3] (fun c d wx => ∃ g1 g2, c = .slice (some ⟨g1, 0, none⟩) 286 286 ∧ d = .slice (some ⟨g2, 0, none⟩) 30 30 ∧ Sep w wx [oIs g1 286 (zers 286), oIs g2 30 (zers 30)])
  case first =>
    refine wp_region_perm (C := fun w' => ∃ x : Ex w1, w' = x.w) [] 3 (by kernel_rfl) (by kernel_rfl) ⟨Ex.mk _ ((Ext.refl [] w1).drew), rfl⟩ ?_
    simp only [pick, List.drop_succ_cons, List.drop_zero]
    refine wpQuiet_nil ?_
    have S := HS.out.quiet ((Ext.refl [] w1).drew)
    obtain ⟨V, hV⟩ : ∃ V, w1.drew = V := ⟨_, rfl⟩
    have hx0 : Ext [] w1 V := by rw [← hV]; exact (Ext.refl [] w1).drew
    rw [hV] at S ⊢
    refine anyC_two (f := 2) (i := 0) (j := 1) (by kernel_rfl) (by decide) (by decide) rfl rfl rfl rfl (fun K hK => ?_) (fun K hK => ?_)
    · obtain ⟨q1, W1, m1, x1, S1⟩ := made 286 (by decide) S
      replace m1 : (Instr.makeSlice 58 (.int .i64 286) (.int .i64 286)).run Tryz.prog V = .ok (.slice (some ⟨q1, 0, none⟩) 286 286) W1 := m1
      go_wp2_with fail
      refine hK _ _ ⟨Ex.mk _ (hx0.trans x1), rfl⟩ ?_
      clear hK K m1
      refine anyC_two (f := 1) (i := 1) (j := 2) (by kernel_rfl) (by decide) (by decide) rfl rfl rfl rfl (fun K hK => ?_) (fun K hK => ?_)
      · obtain ⟨q2, W2, m2, x2, S2⟩ := made 30 (by decide) S1
        replace m2 : (Instr.makeSlice 58 (.int .i64 30) (.int .i64 30)).run Tryz.prog W1 = .ok (.slice (some ⟨q2, 0, none⟩) 30 30) W2 := m2
        go_wp2_with fail
        refine hK _ _ ⟨Ex.mk _ ((hx0.trans x1).trans x2), rfl⟩ ?_
        clear hK K m2
        refine anyC_one (f := 0) (i := 2) (by kernel_rfl) (by decide) rfl rfl (fun K hK => ?_)
        go_wp2_with fail
        refine hK _ _ ⟨Ex.mk _ ((hx0.trans x1).trans x2), rfl⟩ ?_
        clear hK K
        refine anyC_end (by kernel_rfl) ?_
        go_wp2_with fail
        refine NoPanic.normal ?_
        go_wp2_with fail
        go_meet
        exact ⟨_, _, rfl, rfl, swap01 S2⟩
      · go_wp2_with fail
        refine hK _ _ ⟨Ex.mk _ (hx0.trans x1), rfl⟩ ?_
        clear hK K
        refine anyC_one (f := 0) (i := 1) (by kernel_rfl) (by decide) rfl rfl (fun K hK => ?_)
        obtain ⟨q2, W2, m2, x2, S2⟩ := made 30 (by decide) S1
        replace m2 : (Instr.makeSlice 58 (.int .i64 30) (.int .i64 30)).run Tryz.prog W1 = .ok (.slice (some ⟨q2, 0, none⟩) 30 30) W2 := m2
        go_wp2_with fail
        refine hK _ _ ⟨Ex.mk _ ((hx0.trans x1).trans x2), rfl⟩ ?_
        clear hK K m2
        refine anyC_end (by kernel_rfl) ?_
        go_wp2_with fail
        refine NoPanic.normal ?_
        go_wp2_with fail
        go_meet
        exact ⟨_, _, rfl, rfl, swap01 S2⟩
    · obtain ⟨q1, W1, m1, x1, S1⟩ := made 30 (by decide) S
      replace m1 : (Instr.makeSlice 58 (.int .i64 30) (.int .i64 30)).run Tryz.prog V = .ok (.slice (some ⟨q1, 0, none⟩) 30 30) W1 := m1
      go_wp2_with fail
      refine hK _ _ ⟨Ex.mk _ (hx0.trans x1), rfl⟩ ?_
      clear hK K m1
      refine anyC_one (f := 1) (i := 0) (by kernel_rfl) (by decide) rfl rfl (fun K hK => ?_)
      obtain ⟨q2, W2, m2, x2, S2⟩ := made 286 (by decide) S1
      replace m2 : (Instr.makeSlice 58 (.int .i64 286) (.int .i64 286)).run Tryz.prog W1 = .ok (.slice (some ⟨q2, 0, none⟩) 286 286) W2 := m2
      go_wp2_with fail
      refine hK _ _ ⟨Ex.mk _ ((hx0.trans x1).trans x2), rfl⟩ ?_
      clear hK K m2
      refine anyC_one (f := 0) (i := 2) (by kernel_rfl) (by decide) rfl rfl (fun K hK => ?_)
      go_wp2_with fail
      refine hK _ _ ⟨Ex.mk _ ((hx0.trans x1).trans x2), rfl⟩ ?_
      clear hK K
      refine anyC_end (by kernel_rfl) ?_
      go_wp2_with fail
      refine NoPanic.normal ?_
      go_wp2_with fail
      go_meet
      exact ⟨_, _, rfl, rfl, S2⟩
  case rest =>
    clear HS
    obtain ⟨g1, g2, rfl, rfl, S⟩ := hcut
    have HS := Lib.hid S
    clear S
    obtain ⟨R, hR⟩ : ∃ R, cntL l (zers 286) (zers 30) = R := ⟨_, rfl⟩
    rw [hR] at C
    have hrr := HRR.out
    rw [hR] at hrr
    have HRR := Lib.hid hrr
    clear hrr
    have HR := Lib.hid hR
    have HCO := Lib.hid C
    clear hR C
    go_wp2_with fail
    go_loopg [13] l.length (fun g iv wr => ∃ (k : Nat) (a b : List Int), g + k = l.length ∧ iv = .int .i64 k ∧ cntL (l.drop k) a b = R ∧ a.length = 286 ∧ b.length = 30 ∧ Rg k a ∧ Rg k b ∧ Sep w wr [oIs g1 286 a, oIs g2 30 b])
    case atStart => exact ⟨0, _, _, by omega, rfl, HR.out, zers_len _, zers_len _, Rg.zers _, Rg.zers _, HS.out⟩
    case round =>
      clear HS HR
      obtain ⟨k, a, b, hgk, rfl, hR, ha, hb, ra, rb, S⟩ := hrel
      have HS := Lib.hid S
      have HF := Lib.hid (⟨ha, hb, ra, rb⟩ : _ ∧ _ ∧ _ ∧ _)
      clear S ha hb ra rb
      by_cases hlt : k < l.length
      · obtain ⟨g, rfl⟩ : ∃ g, gk = g + 1 := ⟨gk - 1, by omega⟩
        obtain ⟨b0, off, rfl, hcell⟩ := HC.out (by omega)
        obtain ⟨x, hx⟩ : ∃ x, l[k]? = some x := ⟨_, List.getElem?_eq_getElem hlt⟩
        have hm1 : mayP x = true := by
          have h := HB.out
          unfold badN at h
          rw [List.any_eq_false] at h
          simpa using h x (List.mem_of_getElem? hx)
        have hm := mayP_iff x hm1
        clear hm1
        rw [drop_at hx, cntL] at hR
        obtain ⟨c0, c1, c2⟩ := hcell k x hx
        have c0 := Ext.cell HS.out.ext c0
        have c1 := Ext.cell HS.out.ext c1
        have c2 := Ext.cell HS.out.ext c2
        have HM := Lib.hid hm
        have HR := Lib.hid hR
        clear hcell hx hm hR
        obtain ⟨xb, xn, xk⟩ := x
        simp only at c0 c1 c2 HM HR
        have hql : (k : Int) < (l.length : Int) := by omega
        go_upto_region 7 with fail
        obtain ⟨W, hW⟩ : ∃ W, wr.alloc (.cells #[.int .u8 (xb.toNat : Nat), .int .i64 xn, .int .i64 xk] 94) = W := ⟨_, rfl⟩
        obtain ⟨pc, hpc⟩ : ∃ pc, wr.heap.size = pc := ⟨_, rfl⟩
        have hpW : W.heap[pc]? = some (.cells #[.int .u8 (xb.toNat : Nat), .int .i64 xn, .int .i64 xk] 94 (0, 0)) := by rw [← hW, ← hpc]; exact heap_alloc_at _
        have HP := Lib.hid (HS.out.new (show Ext [] wr W by rw [← hW]; exact (Ext.refl [] wr).alloc _) (Ob.one pc (.cells #[.int .u8 (xb.toNat : Nat), .int .i64 xn, .int .i64 xk] 94 (0, 0))) hpW (fun k hk => by rw [List.mem_singleton.1 hk, ← hpc]; exact Nat.le_refl _))
        simp only [hW, hpc]
        clear hW hpc c0 c1 c2 HS
        have p1 := cellOf hpW 1
        obtain ⟨ha, hb, ra, rb⟩ := HF.out
        by_cases hx0 : xn = 0
        · subst hx0
          have p0 := cellOf hpW 0
          have hx8 := xb.toNat_lt
          have hR := HR.out
          rw [if_pos rfl] at hR
          have HR := Lib.hid hR
          clear hR HM
          generalize xb.toNat = xx at *
          have r0 := row_at (g := g1) (HP.out.get 1 rfl) (k := xx) (by omega)
          have f0 := row_free (g := g1) (HP.out.get 1 rfl) xx
          have r1 := ra.at (by omega) xx
          obtain ⟨y, hy⟩ : ∃ y, a.getD xx 0 = y := ⟨_, rfl⟩
          rw [hy] at r0 r1
          have hr1 := ra.inc (by omega) xx
          have HY := Lib.hid (⟨hy, hr1, ha, hb, rb⟩ : _ ∧ _ ∧ _ ∧ _ ∧ _)
          clear hy hr1 ha hb ra rb HF hpW
          go_wp2_with fail
          have S := (row_set (k := xx) (x := y + 1) HP.out 1 rfl).tl
          have S : Sep w (W.setCell ⟨g1, xx, none⟩ (iz (y + 1))) [oIs g1 286 (a.set xx (y + 1)), oIs g2 30 b] := S
          go_roundg g
          case measure => omega
          case rel => exact ⟨k + 1, _, _, by omega, by go_num, by have := HR.out; unfold inc at this; rw [HY.out.1] at this; exact this, by rw [List.length_set]; exact HY.out.2.2.1, HY.out.2.2.2.1, by have := HY.out.2.1; unfold De.inc at this; rw [HY.out.1] at this; exact this, HY.out.2.2.2.2.mono (by omega), S⟩
        · have hm := HM.out
          obtain ⟨n, rfl⟩ : ∃ n : Nat, xn = n := ⟨xn.toNat, by omega⟩
          obtain ⟨bk, rfl⟩ : ∃ bk : Nat, xk = bk := ⟨xk.toNat, by omega⟩
          have hn1 : 3 ≤ n := by omega
          have hn2 : n ≤ 258 := by omega
          have hk1 : 1 ≤ bk := by omega
          have hk2 : bk ≤ 32768 := by omega
          have hR := HR.out
          rw [if_neg hx0, Int.toNat_natCast, Int.toNat_natCast] at hR
          obtain ⟨a1, a2, _⟩ := ls_facts n hn1 hn2
          obtain ⟨b1, _⟩ := ds_facts bk hk1 hk2
          have HW1 := Lib.hid (fun w => (by have := lenof_walk (n : Int) w; rw [show lenOfZ (n : Int) = (lsN n : Nat) by unfold lenOfZ lsN; rw [if_neg (by omega), Int.toNat_natCast]] at this; exact this : Calls Tryz.prog 48 #[.int .i64 (n : Int)] w fun e w' => e = .returned (.int .i64 (lsN n : Nat)) ∧ w = w'))
          have HW2 := Lib.hid (fun w => (by have := dstof_walk (bk : Int) w; rw [show dstOfZ (bk : Int) = (dsN bk : Nat) by unfold dstOfZ dsN; rw [if_neg (by omega), Int.toNat_natCast]] at this; exact this : Calls Tryz.prog 50 #[.int .i64 (bk : Int)] w fun e w' => e = .returned (.int .i64 (dsN bk : Nat)) ∧ w = w'))
          have HR := Lib.hid hR
          clear hR hm HM hn1 hn2 hk1 hk2
          generalize lsN n = ls at *
          generalize dsN bk = ds at *
          have r0 := row_at (g := g1) (HP.out.get 1 rfl) (k := ls) (by omega)
          have f0 := row_free (g := g1) (HP.out.get 1 rfl) ls
          have r1 := ra.at (by omega) ls
          have r2 := rb.at (by omega) ds
          obtain ⟨y, hy⟩ : ∃ y, a.getD ls 0 = y := ⟨_, rfl⟩
          obtain ⟨z, hz⟩ : ∃ z, b.getD ds 0 = z := ⟨_, rfl⟩
          rw [hy] at r0 r1
          rw [hz] at r2
          have hr1 := ra.inc (by omega) ls
          have hr2 := rb.inc (by omega) ds
          have HY := Lib.hid (⟨hy, hr1, ha, hb, hr2, hz⟩ : _ ∧ _ ∧ _ ∧ _ ∧ _ ∧ _)
          clear hy hz hr1 hr2 ha hb ra rb HF hpW
          go_wp2_with fail
          refine (HW1.out _).mono ?_
          rintro e w9 ⟨rfl, rfl⟩
          go_upto_region 10 with fail
          have S := row_set (k := ls) (x := y + 1) HP.out 1 rfl
          have S : Sep w (W.setCell ⟨g1, ls, none⟩ (iz (y + 1))) [Ob.one pc (.cells #[.int .u8 (xb.toNat : Nat), .int .i64 (n : Int), .int .i64 (bk : Int)] 94 (0, 0)), oIs g1 286 (a.set ls (y + 1)), oIs g2 30 b] := S
          obtain ⟨W2, hW2⟩ : ∃ W2, W.setCell ⟨g1, ls, none⟩ (iz (y + 1)) = W2 := ⟨_, rfl⟩
          rw [hW2] at S ⊢
          have hpW : W2.heap[pc]? = some (.cells #[.int .u8 (xb.toNat : Nat), .int .i64 (n : Int), .int .i64 (bk : Int)] 94 (0, 0)) := S.get 0 rfl
          have p2 := cellOf hpW 2
          have s0 := row_at (g := g2) (S.get 2 rfl) (k := ds) (by rw [HY.out.2.2.2.1]; omega)
          have s1 := row_free (g := g2) (S.get 2 rfl) ds
          rw [HY.out.2.2.2.2.2] at s0
          have HS := Lib.hid S
          clear hW2 S hpW r0 f0 p1 HP
          go_wp2_with fail
          refine (HW2.out _).mono ?_
          rintro e w9 ⟨rfl, rfl⟩
          go_wp2_with fail
          have S := (row_set (k := ds) (x := z + 1) HS.out 2 rfl).tl
          have S : Sep w (W2.setCell ⟨g2, ds, none⟩ (iz (z + 1))) [oIs g1 286 (a.set ls (y + 1)), oIs g2 30 (b.set ds (z + 1))] := S
          go_roundg g
          case measure => omega
          case rel =>
            obtain ⟨y1, y2, y3, y4, y5, y6⟩ := HY.out
            refine ⟨k + 1, _, _, by omega, by go_num, by have := HR.out; unfold inc at this; rw [y1, y6] at this; exact this, by rw [List.length_set]; exact y3, by rw [List.length_set]; exact y4, ?_, ?_, S⟩
            · unfold De.inc at y2
              rw [y1] at y2
              exact y2
            · unfold De.inc at y5
              rw [y6] at y5
              exact y5
      · obtain rfl : k = l.length := by omega
        rw [List.drop_length, cntL] at hR
        obtain ⟨ha, hb, ra, rb⟩ := HF.out
        have hrr := HRR.out
        rw [← hR] at hrr
        have r0 := row_at (g := g1) (HS.out.get 0 rfl) (k := 256) (by omega)
        have f0 := row_free (g := g1) (HS.out.get 0 rfl) 256
        have r1 := ra.at (by omega) 256
        obtain ⟨y, hy⟩ : ∃ y, a.getD 256 0 = y := ⟨_, rfl⟩
        rw [hy] at r0 r1
        have HY := Lib.hid (⟨hy, hrr⟩ : _ ∧ _)
        clear hy hrr ha hb ra rb HF hR
        go_wp2_with fail
        have S := row_set (k := 256) (x := y + 1) HS.out 0 rfl
        have S : Sep w (wr.setCell ⟨g1, 256, none⟩ (iz (y + 1))) [oIs g1 286 (a.set 256 (y + 1)), oIs g2 30 b] := S
        have hrr := HY.out.2
        unfold inc at hrr
        rw [HY.out.1] at hrr
        rw [hrr.1, hrr.2] at S
        exact bodyPost_ret (results_tmp2 rfl _ _ _) rfl ⟨g1, g2, rfl, S⟩
end Go.Proofs.YtnapnaaejignaaaGreat.De
