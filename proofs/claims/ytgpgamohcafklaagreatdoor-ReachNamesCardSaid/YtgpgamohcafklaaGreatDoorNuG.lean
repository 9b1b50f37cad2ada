/-
  number: Real walked.
-/
import Derived.Test.YtgpgamohcafklaaGreatDoorNuF
namespace Go.Proofs.YtgpgamohcafklaaGreatDoor.Nu
open Go.RowKit

theorem one_parts (w : World) (x : Num) : Sep w (w.alloc (.cells (nvs x) 110)) [Ob.one w.heap.size (.cells (nvs x) 110 (0, 0))] :=
  (Sep.start w).new ((Ext.refl _ w).alloc (.cells (nvs x) 110)) (Ob.one w.heap.size (.cells (nvs x) 110 (0, 0))) (heap_alloc_at _) (fun q hq => by rw [List.mem_singleton.1 hq]; exact Nat.le_refl _)
theorem or_len (l : List UInt8) : (orS l).length ≤ l.length + 1 := by
  unfold orS
  split
  · simp
  · omega
theorem upd2 {w W : World} {L : List Ob} {g : Nat} {k : Nat} {ng : Bool} {a b ta tb : List UInt8} {t : TypeId} (S : Sep w W L) (i : Nat) (hi : L[i]? = some (Ob.one g (.cells (nvs ⟨k, ng, a, b⟩) t (0, 0)))) :
    Sep w ((W.setCell ⟨g, 2, none⟩ (.string (Nu.S ta))).setCell ⟨g, 3, none⟩ (.string (Nu.S tb))) (L.set i (Ob.one g (.cells (nvs ⟨k, ng, ta, tb⟩) t (0, 0)))) := by
  refine S.upd i (Ob.one g (.cells (nvs ⟨k, ng, ta, tb⟩) t (0, 0))) hi (((Ext.refl [g] W).setCell ⟨g, 2, none⟩ _ (.inl (by simp))).setCell ⟨g, 3, none⟩ _ (.inl (by simp))) (Fr.refl _ _) ?_
  have h := S.get i hi
  show _ = _
  rw [heap_setCell_same (heap_setCell_same h _) _]
  rfl
theorem two_cells {W V : World} {g : Nat} {a b : Value} {t : TypeId} (h : W.heap[g]? = some (.cells #[a, b] t (0, 0))) (hx : Ext [] W V) : V.cell? ⟨g, 0, none⟩ = some a ∧ V.cell? ⟨g, 1, none⟩ = some b :=
  ⟨cellOf (hx.keep h (by simp)) 0, cellOf (hx.keep h (by simp)) 1⟩
set_option maxRecDepth 100000 in
set_option maxHeartbeats 2000000 in
theorem real_walk (s : ByteArray) (w : World) (hs : s.size ≤ 1000000) :
    Calls Tryz.prog 54 #[.string s] w fun e w' => e = .returned (.tuple #[.string (S (realN (B s)).1), .int .i64 (realN (B s)).2]) ∧ Ext [] w w' := by
  have H1 := Lib.hid (fun w => cut_walk s w (by omega))
  have l1 := cut_len (B s)
  rw [B_len] at l1
  have hR : realN (B s) = if (cutN (B s)).kind ≠ 2 then ([], 7) else if longN (cutN (B s)) then ([], 3) else if longN ⟨2, (bareN (cutN (B s))).neg, orS (bareN (cutN (B s))).a, orS (bareN (cutN (B s))).b⟩ then ([], 3) else (txtN (bareN (cutN (B s))), 0) := rfl
  obtain ⟨r1, r2, hr⟩ : ∃ r1 r2, realN (B s) = (r1, r2) := ⟨_, _, rfl⟩
  rw [hr] at hR ⊢
  have HR := Lib.hid hR
  clear hR hr
  generalize cutN (B s) = x at *
  have b1 := bare_len x
  have HL1 := Lib.hid (fun w => long_walk x w (by omega) (by omega))
  have HB1 := Lib.hid (fun w => bare_walk x w (by omega) (by omega))
  have o1 := or_len (bareN x).a
  have o2 := or_len (bareN x).b
  have HL2 := Lib.hid (fun k w => long_walk ⟨k, (bareN x).neg, orS (bareN x).a, orS (bareN x).b⟩ w (by show (orS _).length ≤ _; omega) (by show (orS _).length ≤ _; omega))
  generalize hlx : longN x = lx at *
  have hkb : (bareN x).kind = x.kind := rfl
  generalize bareN x = bx at *
  obtain ⟨kx, nx, ax, cx⟩ := x
  obtain ⟨k3, n3, a3, c3⟩ := bx
  obtain rfl : k3 = kx := hkb
  simp only [nv_is] at H1 HL1 HB1 HL2
  have hl9 : ∀ k, longN ⟨k, n3, orS a3, orS c3⟩ = longN ⟨2, n3, orS a3, orS c3⟩ := fun k => rfl
  simp only [hl9] at HL2
  generalize longN ⟨2, n3, orS a3, orS c3⟩ = ly at *
  have HT : txtN ⟨k3, n3, a3, c3⟩ = (if n3 then [45] else []) ++ orS a3 ++ [46] ++ orS c3 := rfl
  have HOA := Lib.hid (fun g w h0 h1 => orStr_walk a3 g w h0 h1)
  have HOB := Lib.hid (fun g w h0 h1 => orStr_walk c3 g w h0 h1)
  rw [HT] at HR
  have ha9 : (S (orS a3)).size ≤ 1048577 := by rw [S_size]; show (orS a3).length ≤ _; simp only at o1 b1 l1; omega
  have hb9 : (S (orS c3)).size ≤ 1048577 := by rw [S_size]; show (orS c3).length ≤ _; simp only at o2 b1 l1; omega
  generalize hoa : orS a3 = oa at *
  generalize hoc : orS c3 = oc at *
  obtain ⟨sg, hsg⟩ : ∃ sg : List UInt8, (if n3 then [45] else []) = sg := ⟨_, rfl⟩
  rw [hsg] at HR
  have HSG := Lib.hid hsg
  have hs9 : (S sg).size ≤ 1 := by rw [← hsg]; cases n3 <;> decide
  clear l1 b1 hlx HT hoa hoc o1 o2 hsg hl9
  show Calls Tryz.prog 54 #[.string s] w fun e w' => e = .returned (.tuple #[.string (S r1), .int .i64 r2]) ∧ Ext [] w w'
  go_enter Tryz.func54, Tryz.ntmps54
  go_wp2_with fail
  refine (H1.out _).mono ?_
  rintro e w1 ⟨rfl, hx⟩
  have HX := Lib.hid hx
  clear hx H1
  have HS := Lib.hid (one_parts w1 ⟨k3, nx, ax, cx⟩)
  go_upto_region 2 with fail
  obtain ⟨g, hg⟩ : ∃ g, w1.heap.size = g := ⟨_, rfl⟩
  obtain ⟨W, hW⟩ : ∃ W, w1.alloc (.cells #[.int .i64 (k3 : Nat), .bool nx, .string (S ax), .string (S cx)] 110) = W := ⟨_, rfl⟩
  have S0 : Sep w1 W [Ob.one w1.heap.size (.cells (nvs ⟨k3, nx, ax, cx⟩) 110 (0, 0))] := by rw [← hW]; exact HS.out
  rw [hW]
  rw [hg] at S0 ⊢
  have HS := Lib.hid S0
  clear S0 hW hg
  have HFIN := Lib.hid (fun W' (h : Ext [] w1 W') => HX.out.trans h)
  clear HX
  have h0 := HS.out.get 0 rfl
  have p0 : W.cell? ⟨g, 0, none⟩ = some (.int .i64 (k3 : Nat)) := cellOf h0 0
  have p1 : W.cell? ⟨g, 1, none⟩ = some (.bool nx) := cellOf h0 1
  have p2 : W.cell? ⟨g, 2, none⟩ = some (.string (S ax)) := cellOf h0 2
  have p3 : W.cell? ⟨g, 3, none⟩ = some (.string (S cx)) := cellOf h0 3
  by_cases hk : k3 = 2
  · subst hk
    have hR := HR.out
    rw [if_neg (by simp)] at hR
    have HR := Lib.hid hR
    clear hR
    go_wp2_with fail
    refine (HL1.out _).mono ?_
    rintro e w3 ⟨rfl, hx⟩
    have HS := Lib.hid (HS.out.quiet hx)
    clear hx
    clear p0 p1 p2 p3 h0
    have h0 := HS.out.get 0 rfl
    have p0 : w3.cell? ⟨g, 0, none⟩ = some (.int .i64 2) := cellOf h0 0
    have p1 : w3.cell? ⟨g, 1, none⟩ = some (.bool nx) := cellOf h0 1
    have p2 : w3.cell? ⟨g, 2, none⟩ = some (.string (S ax)) := cellOf h0 2
    have p3 : w3.cell? ⟨g, 3, none⟩ = some (.string (S cx)) := cellOf h0 3
    cases lx with
    | true =>
      obtain ⟨rfl, rfl⟩ : r1 = [] ∧ r2 = 3 := Prod.mk.inj (HR.out.trans (if_pos rfl))
      go_wp2_with fail
      exact bodyPost_ret (results_tmp2 rfl _ _ _) rfl ⟨rfl, HFIN.out _ HS.out.ext⟩
    | false =>
      have hR := HR.out
      rw [if_neg (by simp)] at hR
      have HR := Lib.hid hR
      clear hR
      go_wp2_with fail
      refine (HB1.out _).mono ?_
      rintro e w4 ⟨rfl, hx⟩
      have HS := Lib.hid (HS.out.quiet hx)
      clear hx
      clear p0 p1 p2 p3 h0
      have h0 := HS.out.get 0 rfl
      have p0 : w4.cell? ⟨g, 0, none⟩ = some (.int .i64 2) := cellOf h0 0
      have fp0 : w4.frozen? ⟨g, 0, none⟩ = false := freeOf h0 0
      have p1 : w4.cell? ⟨g, 1, none⟩ = some (.bool nx) := cellOf h0 1
      have fp1 : w4.frozen? ⟨g, 1, none⟩ = false := freeOf h0 1
      have p2 : w4.cell? ⟨g, 2, none⟩ = some (.string (S ax)) := cellOf h0 2
      have fp2 : w4.frozen? ⟨g, 2, none⟩ = false := freeOf h0 2
      have p3 : w4.cell? ⟨g, 3, none⟩ = some (.string (S cx)) := cellOf h0 3
      have fp3 : w4.frozen? ⟨g, 3, none⟩ = false := freeOf h0 3
      have S6 := set4_sep (p := ⟨2, n3, a3, c3⟩) HS.out 0 rfl
      obtain ⟨W6, hW6⟩ : ∃ W6, set4 w4 g ⟨2, n3, a3, c3⟩ = W6 := ⟨_, rfl⟩
      rw [hW6] at S6
      simp only [set4] at hW6
      have HS6 := Lib.hid S6
      clear S6
      go_upto_region 8 with fail
      replace hW6 : (((w4.setCell ⟨g, 0, none⟩ (.int .i64 2)).setCell ⟨g, 1, none⟩ (.bool n3)).setCell ⟨g, 2, none⟩ (.string (S a3))).setCell ⟨g, 3, none⟩ (.string (S c3)) = W6 := hW6
      rw [hW6]
      clear hW6 p0 p1 p2 p3 h0 fp0 fp1 fp2 fp3
      have h6 := HS6.out.get 0 rfl
      have s0 : W6.cell? ⟨g, 0, none⟩ = some (.int .i64 2) := cellOf h6 0
      have s1 : W6.cell? ⟨g, 1, none⟩ = some (.bool n3) := cellOf h6 1
      have s2 : W6.cell? ⟨g, 2, none⟩ = some (.string (S a3)) := cellOf h6 2
      have s3 : W6.cell? ⟨g, 3, none⟩ = some (.string (S c3)) := cellOf h6 3
      go_upto_if 18 with fail
      go_cut [5] (fun c wx => c = .string (S sg) ∧ wx = W6)
      case first =>
        have hsg := HSG.out
        cases n3 with
        | true =>
          obtain rfl : [45] = sg := hsg
          go_wp2_with fail
          go_meet
          exact ⟨rfl, rfl⟩
        | false =>
          obtain rfl : [] = sg := hsg
          go_wp2_with fail
          go_meet
          exact ⟨rfl, rfl⟩
      case rest =>
      obtain ⟨rfl, rfl⟩ := hcut
      clear s0 s1 s2 s3
      go_upto_region 10 with fail
      go_cut [] from 19 to 28 (fun wx => Sep w1 wx [Ob.one g (.cells (nvs ⟨2, n3, oa, oc⟩) 110 (0, 0))])
      case first =>
        have s0 : ∀ y : Ex wc, y.w.cell? ⟨g, 0, none⟩ = some (.int .i64 2) := fun y => cellOf (load_parts_ex h6 y) 0
        have s1 : ∀ y : Ex wc, y.w.cell? ⟨g, 1, none⟩ = some (.bool n3) := fun y => cellOf (load_parts_ex h6 y) 1
        have s2 : ∀ y : Ex wc, y.w.cell? ⟨g, 2, none⟩ = some (.string (S a3)) := fun y => cellOf (load_parts_ex h6 y) 2
        have s3 : ∀ y : Ex wc, y.w.cell? ⟨g, 3, none⟩ = some (.string (S c3)) := fun y => cellOf (load_parts_ex h6 y) 3
        refine wp_region_perm (C := fun w' => ∃ x : Ex wc, w' = x.w) [0, 1, 4, 5] 9 (by kernel_rfl) (by kernel_rfl) ⟨Ex.mk _ ((Ext.refl _ wc).drew), rfl⟩ ?_
        simp only [pick, List.getElem?_toArray, List.getElem?_cons_succ, List.getElem?_cons_zero]
        repeat (go_big_quiet_step (fail))
        refine wpQuiet_nil ?_
        have HE := Lib.hid ((Ext.refl [] wc).drew)
        clear s0 s1 s2 s3
        have HA0 := Lib.hid (fun V (h : Ext [] (wc.alloc (.cells #[.string (S a3), .string ⟨#[48]⟩] 9)) V) => two_cells (heap_alloc_at _) h)
        have HB0 := Lib.hid (fun V (h : Ext [] (wc.alloc (.cells #[.string (S c3), .string ⟨#[48]⟩] 9)) V) => two_cells (heap_alloc_at _) h)
        have HB1 := Lib.hid (fun V (h : Ext [] ((wc.alloc (.cells #[.string (S a3), .string ⟨#[48]⟩] 9)).alloc (.cells #[.string (S c3), .string ⟨#[48]⟩] 9)) V) => two_cells (alloc2 _ _ _) h)
        have HA1 := Lib.hid (fun V (h : Ext [] ((wc.alloc (.cells #[.string (S c3), .string ⟨#[48]⟩] 9)).alloc (.cells #[.string (S a3), .string ⟨#[48]⟩] 9)) V) => two_cells (alloc2 _ _ _) h)
        have h6 := HS6.out.get 0 rfl
        have k2 : ∀ o1 o2, ((wc.alloc o1).alloc o2).cell? ⟨g, 2, none⟩ = some (.string (S a3)) := fun o1 o2 => cellOf (((Ext.refl [] wc).alloc o1).alloc o2 |>.keep h6 (by simp)) 2
        have k3 : ∀ o1 o2, ((wc.alloc o1).alloc o2).cell? ⟨g, 3, none⟩ = some (.string (S c3)) := fun o1 o2 => cellOf (((Ext.refl [] wc).alloc o1).alloc o2 |>.keep h6 (by simp)) 3
        have f2 : ∀ o1 o2, ((wc.alloc o1).alloc o2).frozen? ⟨g, 2, none⟩ = false := fun o1 o2 => freeOf (((Ext.refl [] wc).alloc o1).alloc o2 |>.keep h6 (by simp)) 2
        have f3 : ∀ o1 o2, ((wc.alloc o1).alloc o2).frozen? ⟨g, 3, none⟩ = false := fun o1 o2 => freeOf (((Ext.refl [] wc).alloc o1).alloc o2 |>.keep h6 (by simp)) 3
        have HFS := Lib.hid (fun o1 o2 => (upd2 (ta := oa) (tb := oc) (HS6.out.quiet (((Ext.refl [] wc).alloc o1).alloc o2)) 0 rfl).quiet ((Ext.refl [] _).drew))
        clear h6
        refine anyC_two (f := 4) (i := 2) (j := 6) (by kernel_rfl) (by decide) (by decide) rfl rfl rfl rfl (fun K hK => ?_) (fun K hK => ?_)
        · go_wp2_with fail
          have HE := Lib.hid (HE.out.alloc (.cells #[.string (S a3), .string ⟨#[48]⟩] 9))
          refine hK _ _ ⟨Ex.mk _ HE.out, rfl⟩ ?_
          clear hK K
          refine anyC_two (f := 3) (i := 3) (j := 6) (by kernel_rfl) (by decide) (by decide) rfl rfl rfl rfl (fun K hK => ?_) (fun K hK => ?_)
          · go_wp2_with fail
            refine (HOA.out _ _ (HA0.out _ (by first | exact (Ext.refl _ _).drew | exact ((Ext.refl _ _).alloc _).drew)).1 (HA0.out _ (by first | exact (Ext.refl _ _).drew | exact ((Ext.refl _ _).alloc _).drew)).2).mono ?_
            rintro e w9 ⟨rfl, rfl⟩
            go_wp2_with fail
            refine hK _ _ ⟨Ex.mk _ HE.out, rfl⟩ ?_
            clear hK K
            refine anyC_two (f := 2) (i := 6) (j := 8) (by kernel_rfl) (by decide) (by decide) rfl rfl rfl rfl (fun K hK => ?_) (fun K hK => ?_)
            · go_wp2_with fail
              have HE := Lib.hid (HE.out.alloc (.cells #[.string (S c3), .string ⟨#[48]⟩] 9))
              refine hK _ _ ⟨Ex.mk _ HE.out, rfl⟩ ?_
              clear hK K
              refine anyC_two (f := 1) (i := 7) (j := 8) (by kernel_rfl) (by decide) (by decide) rfl rfl rfl rfl (fun K hK => ?_) (fun K hK => ?_)
              · go_wp2_with fail
                refine (HOB.out _ _ (HB1.out _ (by first | exact (Ext.refl _ _).drew | exact ((Ext.refl _ _).alloc _).drew)).1 (HB1.out _ (by first | exact (Ext.refl _ _).drew | exact ((Ext.refl _ _).alloc _).drew)).2).mono ?_
                rintro e w9 ⟨rfl, rfl⟩
                go_wp2_with fail
                refine hK _ _ ⟨Ex.mk _ HE.out, rfl⟩ ?_
                clear hK K
                refine anyC_one (f := 0) (i := 8) (by kernel_rfl) (by decide) rfl rfl (fun K hK => ?_)
                go_wp2_with fail
                refine hK _ _ ⟨Ex.mk _ HE.out, rfl⟩ ?_
                clear hK K
                refine ⟨by kernel_rfl, ?_⟩
                go_wp2_with fail
                refine NoPanic.normal ?_
                go_wp2_with fail
                go_meet
                exact HFS.out _ _
              · go_wp2_with fail
                refine hK _ _ ⟨Ex.mk _ HE.out, rfl⟩ ?_
                clear hK K
                refine anyC_one (f := 0) (i := 7) (by kernel_rfl) (by decide) rfl rfl (fun K hK => ?_)
                go_wp2_with fail
                refine (HOB.out _ _ (HB1.out _ (by first | exact (Ext.refl _ _).drew | exact ((Ext.refl _ _).alloc _).drew)).1 (HB1.out _ (by first | exact (Ext.refl _ _).drew | exact ((Ext.refl _ _).alloc _).drew)).2).mono ?_
                rintro e w9 ⟨rfl, rfl⟩
                go_wp2_with fail
                refine hK _ _ ⟨Ex.mk _ HE.out, rfl⟩ ?_
                clear hK K
                refine ⟨by kernel_rfl, ?_⟩
                go_wp2_with fail
                refine NoPanic.normal ?_
                go_wp2_with fail
                go_meet
                exact HFS.out _ _
            · go_wp2_with fail
              refine hK _ _ ⟨Ex.mk _ HE.out, rfl⟩ ?_
              clear hK K
              refine anyC_one (f := 1) (i := 6) (by kernel_rfl) (by decide) rfl rfl (fun K hK => ?_)
              go_wp2_with fail
              have HE := Lib.hid (HE.out.alloc (.cells #[.string (S c3), .string ⟨#[48]⟩] 9))
              refine hK _ _ ⟨Ex.mk _ HE.out, rfl⟩ ?_
              clear hK K
              refine anyC_one (f := 0) (i := 7) (by kernel_rfl) (by decide) rfl rfl (fun K hK => ?_)
              go_wp2_with fail
              refine (HOB.out _ _ (HB1.out _ (by first | exact (Ext.refl _ _).drew | exact ((Ext.refl _ _).alloc _).drew)).1 (HB1.out _ (by first | exact (Ext.refl _ _).drew | exact ((Ext.refl _ _).alloc _).drew)).2).mono ?_
              rintro e w9 ⟨rfl, rfl⟩
              go_wp2_with fail
              refine hK _ _ ⟨Ex.mk _ HE.out, rfl⟩ ?_
              clear hK K
              refine ⟨by kernel_rfl, ?_⟩
              go_wp2_with fail
              refine NoPanic.normal ?_
              go_wp2_with fail
              go_meet
              exact HFS.out _ _
          · go_wp2_with fail
            have HE := Lib.hid (HE.out.alloc (.cells #[.string (S c3), .string ⟨#[48]⟩] 9))
            refine hK _ _ ⟨Ex.mk _ HE.out, rfl⟩ ?_
            clear hK K
            refine anyC_one (f := 2) (i := 3) (by kernel_rfl) (by decide) rfl rfl (fun K hK => ?_)
            go_wp2_with fail
            refine (HOA.out _ _ (HA0.out _ (by first | exact (Ext.refl _ _).drew | exact ((Ext.refl _ _).alloc _).drew)).1 (HA0.out _ (by first | exact (Ext.refl _ _).drew | exact ((Ext.refl _ _).alloc _).drew)).2).mono ?_
            rintro e w9 ⟨rfl, rfl⟩
            go_wp2_with fail
            refine hK _ _ ⟨Ex.mk _ HE.out, rfl⟩ ?_
            clear hK K
            refine anyC_two (f := 1) (i := 7) (j := 8) (by kernel_rfl) (by decide) (by decide) rfl rfl rfl rfl (fun K hK => ?_) (fun K hK => ?_)
            · go_wp2_with fail
              refine (HOB.out _ _ (HB1.out _ (by first | exact (Ext.refl _ _).drew | exact ((Ext.refl _ _).alloc _).drew)).1 (HB1.out _ (by first | exact (Ext.refl _ _).drew | exact ((Ext.refl _ _).alloc _).drew)).2).mono ?_
              rintro e w9 ⟨rfl, rfl⟩
              go_wp2_with fail
              refine hK _ _ ⟨Ex.mk _ HE.out, rfl⟩ ?_
              clear hK K
              refine anyC_one (f := 0) (i := 8) (by kernel_rfl) (by decide) rfl rfl (fun K hK => ?_)
              go_wp2_with fail
              refine hK _ _ ⟨Ex.mk _ HE.out, rfl⟩ ?_
              clear hK K
              refine ⟨by kernel_rfl, ?_⟩
              go_wp2_with fail
              refine NoPanic.normal ?_
              go_wp2_with fail
              go_meet
              exact HFS.out _ _
            · go_wp2_with fail
              refine hK _ _ ⟨Ex.mk _ HE.out, rfl⟩ ?_
              clear hK K
              refine anyC_one (f := 0) (i := 7) (by kernel_rfl) (by decide) rfl rfl (fun K hK => ?_)
              go_wp2_with fail
              refine (HOB.out _ _ (HB1.out _ (by first | exact (Ext.refl _ _).drew | exact ((Ext.refl _ _).alloc _).drew)).1 (HB1.out _ (by first | exact (Ext.refl _ _).drew | exact ((Ext.refl _ _).alloc _).drew)).2).mono ?_
              rintro e w9 ⟨rfl, rfl⟩
              go_wp2_with fail
              refine hK _ _ ⟨Ex.mk _ HE.out, rfl⟩ ?_
              clear hK K
              refine ⟨by kernel_rfl, ?_⟩
              go_wp2_with fail
              refine NoPanic.normal ?_
              go_wp2_with fail
              go_meet
              exact HFS.out _ _
        · go_wp2_with fail
          have HE := Lib.hid (HE.out.alloc (.cells #[.string (S c3), .string ⟨#[48]⟩] 9))
          refine hK _ _ ⟨Ex.mk _ HE.out, rfl⟩ ?_
          clear hK K
          refine anyC_one (f := 3) (i := 2) (by kernel_rfl) (by decide) rfl rfl (fun K hK => ?_)
          go_wp2_with fail
          have HE := Lib.hid (HE.out.alloc (.cells #[.string (S a3), .string ⟨#[48]⟩] 9))
          refine hK _ _ ⟨Ex.mk _ HE.out, rfl⟩ ?_
          clear hK K
          refine anyC_one (f := 2) (i := 3) (by kernel_rfl) (by decide) rfl rfl (fun K hK => ?_)
          go_wp2_with fail
          refine (HOA.out _ _ (HA1.out _ (by first | exact (Ext.refl _ _).drew | exact ((Ext.refl _ _).alloc _).drew)).1 (HA1.out _ (by first | exact (Ext.refl _ _).drew | exact ((Ext.refl _ _).alloc _).drew)).2).mono ?_
          rintro e w9 ⟨rfl, rfl⟩
          go_wp2_with fail
          refine hK _ _ ⟨Ex.mk _ HE.out, rfl⟩ ?_
          clear hK K
          refine anyC_two (f := 1) (i := 7) (j := 8) (by kernel_rfl) (by decide) (by decide) rfl rfl rfl rfl (fun K hK => ?_) (fun K hK => ?_)
          · go_wp2_with fail
            refine (HOB.out _ _ (HB0.out _ (by first | exact (Ext.refl _ _).drew | exact ((Ext.refl _ _).alloc _).drew)).1 (HB0.out _ (by first | exact (Ext.refl _ _).drew | exact ((Ext.refl _ _).alloc _).drew)).2).mono ?_
            rintro e w9 ⟨rfl, rfl⟩
            go_wp2_with fail
            refine hK _ _ ⟨Ex.mk _ HE.out, rfl⟩ ?_
            clear hK K
            refine anyC_one (f := 0) (i := 8) (by kernel_rfl) (by decide) rfl rfl (fun K hK => ?_)
            go_wp2_with fail
            refine hK _ _ ⟨Ex.mk _ HE.out, rfl⟩ ?_
            clear hK K
            refine ⟨by kernel_rfl, ?_⟩
            go_wp2_with fail
            refine NoPanic.normal ?_
            go_wp2_with fail
            go_meet
            exact HFS.out _ _
          · go_wp2_with fail
            refine hK _ _ ⟨Ex.mk _ HE.out, rfl⟩ ?_
            clear hK K
            refine anyC_one (f := 0) (i := 7) (by kernel_rfl) (by decide) rfl rfl (fun K hK => ?_)
            go_wp2_with fail
            refine (HOB.out _ _ (HB0.out _ (by first | exact (Ext.refl _ _).drew | exact ((Ext.refl _ _).alloc _).drew)).1 (HB0.out _ (by first | exact (Ext.refl _ _).drew | exact ((Ext.refl _ _).alloc _).drew)).2).mono ?_
            rintro e w9 ⟨rfl, rfl⟩
            go_wp2_with fail
            refine hK _ _ ⟨Ex.mk _ HE.out, rfl⟩ ?_
            clear hK K
            refine ⟨by kernel_rfl, ?_⟩
            go_wp2_with fail
            refine NoPanic.normal ?_
            go_wp2_with fail
            go_meet
            exact HFS.out _ _
      case rest =>
        have HS7 := Lib.hid hcut
        clear hcut HS6
        have h7 := HS7.out.get 0 rfl
        have s0 : wc.cell? ⟨g, 0, none⟩ = some (.int .i64 2) := cellOf h7 0
        have s1 : wc.cell? ⟨g, 1, none⟩ = some (.bool n3) := cellOf h7 1
        have s2 : wc.cell? ⟨g, 2, none⟩ = some (.string (S oa)) := cellOf h7 2
        have s3 : wc.cell? ⟨g, 3, none⟩ = some (.string (S oc)) := cellOf h7 3
        have HL3 := Lib.hid (show ∀ w, Calls Tryz.prog 69 #[.agg #[.int .i64 2, .bool n3, .string (S oa), .string (S oc)]] w fun e w' => e = .returned (.bool ly) ∧ Ext [] w w' from HL2.out 2)
        clear HL2
        go_wp2_with fail
        refine (HL3.out _).mono ?_
        rintro e w8 ⟨rfl, hx⟩
        have HS8 := Lib.hid (HS7.out.quiet hx)
        clear hx s0 s1 s2 s3 h7
        have h8 := HS8.out.get 0 rfl
        cases ly with
        | true =>
          obtain ⟨rfl, rfl⟩ : r1 = [] ∧ r2 = 3 := Prod.mk.inj (HR.out.trans (if_pos rfl))
          go_wp2_with fail
          exact bodyPost_ret (results_tmp2 rfl _ _ _) rfl ⟨rfl, HFIN.out _ HS8.out.ext⟩
        | false =>
          obtain ⟨hr1, rfl⟩ : r1 = _ ∧ r2 = 0 := Prod.mk.inj (HR.out.trans (if_neg (by simp)))
          have hcat : S sg ++ S oa ++ ⟨#[46]⟩ ++ S oc = S r1 := by
            rw [hr1, show (⟨#[46]⟩ : ByteArray) = S [46] from rfl, S_app, S_app, S_app]
          have HCAT := Lib.hid hcat
          have z1 : (S sg ++ S oa).size ≤ 1048578 := by rw [ByteArray.size_append]; omega
          have z2 : (S sg ++ S oa ++ ⟨#[46]⟩).size ≤ 1048579 := by rw [ByteArray.size_append]; have : (⟨#[46]⟩ : ByteArray).size = 1 := rfl; omega
          have s2 : w8.cell? ⟨g, 2, none⟩ = some (.string (S oa)) := cellOf h8 2
          have s3 : w8.cell? ⟨g, 3, none⟩ = some (.string (S oc)) := cellOf h8 3
          clear hr1 hcat
          go_wp2_with fail
          rw [HCAT.out]
          exact bodyPost_ret (results_tmp2 rfl _ _ _) rfl ⟨rfl, HFIN.out _ HS8.out.ext⟩
  · obtain ⟨rfl, rfl⟩ : r1 = [] ∧ r2 = 7 := Prod.mk.inj (HR.out.trans (if_pos hk))
    have hkb : ((k3 : Int) == 2) = false := beq_eq_false_iff_ne.2 (by omega)
    go_wp2_with fail
    exact bodyPost_ret (results_tmp2 rfl _ _ _) rfl ⟨rfl, HFIN.out _ HS.out.ext⟩
end Go.Proofs.YtgpgamohcafklaaGreatDoor.Nu
