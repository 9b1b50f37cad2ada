/-
  tree: bare, Check walked.
-/
import Derived.Test.YtkjcjklnclahdaaDoorTrDb
import Derived.Test.YtkjcjklnclahdaaDoorTrDc
import Derived.Test.YtkjcjklnclahdaaDoorTrDd
import Derived.Test.YtkjcjklnclahdaaDoorTrDe
import Derived.Test.YtkjcjklnclahdaaDoorTrF
import Derived.Test.YtkjcjklnclahdaaDoorTrG
import Derived.Test.YtkjcjklnclahdaaDoorShA
namespace Go.Proofs.YtkjcjklnclahdaaDoor.Tr
open Go.RowKit

theorem bare_walk (x : Nd) (hw : NdWf x) (hs : x.s.size ≤ 1000000) (base : Option Addr) (cap : Nat) (w : World) :
    Calls Tryd.prog 48 #[.agg #[.int .i64 x.kind, .int .i64 x.n, .int .i64 x.gen, .string x.s, .slice base x.kids.length cap]] w fun e w' => e = .returned (.bool (bareN x)) ∧ Ext [] w w' := by
  obtain ⟨k, n, gen, s, L⟩ := x
  have h0 := hw.n
  simp only at h0 hs ⊢
  by_cases k1 : k = 1
  · subst k1; exact bare_1 n gen s L base cap w
  by_cases k2 : k = 2
  · subst k2; exact bare_2 n gen s L base cap w
  by_cases k3 : k = 3
  · subst k3; exact bare_3 n gen s L base cap h0.1 h0.2 w
  by_cases k4 : k = 4
  · subst k4; exact bare_4 n gen s L base cap hs w
  by_cases k5 : k = 5
  · subst k5; exact bare_5 n gen s L base cap w
  by_cases k6 : k = 6
  · subst k6; exact bare_6 n gen s L base cap w
  by_cases k7 : k = 7
  · subst k7; exact bare_7 n gen s L base cap w
  by_cases k8 : k = 8
  · subst k8; exact bare_8 n gen s L base cap w
  by_cases k9 : k = 9
  · subst k9; exact bare_9 n gen s L base cap w
  exact bare_x k (by omega) n gen s L base cap w
theorem node_in {w : World} {base : Option Addr} {l : List Nd} (h : NodesIn w base l) (m : Nat) (hm : m < l.length) : ∃ b o, base = some ⟨b, o, none⟩ ∧ NodeAt w b (o + m * 5) (ndAt l (m : Int)) := by
  obtain ⟨b, o, e, hn⟩ := h m hm
  have he : ndAt l (m : Int) = l[m]'hm := by rw [ndAt, Int.toNat_natCast, List.getD_eq_getElem?_getD, List.getElem?_eq_getElem hm]; rfl
  exact ⟨b, o, e, by rw [he]; exact hn⟩
theorem maxOf_bounds (D : List Int) : Lib.maxOf (D.take D.length) = Lib.maxOf D := by rw [List.take_length]
set_option maxRecDepth 100000 in
set_option maxHeartbeats 8000000 in
theorem check_walk (v : Value) (l : List Nd) (w : World) (h : NodesAt w v l) (hl : l.length ≤ 9223372036854775807) (hs : ∀ x ∈ l, x.s.size ≤ 1000000) :
    Calls Tryd.prog 19 #[v] w fun e w' => e = .returned (.int .i64 (checkN l)) ∧ Ext [] w w' := by
  by_cases hbig : 65536 < l.length
  · obtain ⟨base, cap, rfl, -, hN⟩ := h
    have hR : checkN l = 3 := if_pos hbig
    rw [hR]
    have hbz : (65536 : Int) < (l.length : Int) := by omega
    clear hR hN hs
    go_enter Tryd.func19, Tryd.ntmps19
    go_wp2_with fail
    go_step3
    go_wp2_with fail
    rw [Exit.noGoto_ret]
    go_ret
    exact ⟨rfl, Ext.refl _ _⟩
  have hbz : ¬ (65536 : Int) < (l.length : Int) := by omega
  have HW := Lib.hid (shape_walk v l w h (by omega))
  obtain ⟨base, cap, rfl, -, hN⟩ := h
  cases hsh : shapeN l with
  | none =>
    have hR : checkN l = 2 := by unfold checkN; rw [if_neg hbig, hsh]
    rw [hR]
    rw [hsh] at HW
    clear hR hN hs hsh
    go_enter Tryd.func19, Tryd.ntmps19
    go_wp2_with fail
    go_step3
    go_wp2_with fail
    refine HW.out.mono ?_
    rintro e w1 ⟨ev, dv, rfl, hx, -⟩
    have HX := Lib.hid hx
    clear hx HW
    simp only [Option.isSome_none]
    go_wp2_with fail
    rw [Exit.noGoto_ret]
    go_ret
    exact ⟨rfl, HX.out⟩
  | some p =>
    obtain ⟨E, D⟩ := p
    obtain ⟨h0, hE, hD, hK, hEnd⟩ := shape_some hsh
    rw [hsh] at HW
    have hR : checkN l = if 256 < Lib.maxOf D then 3 else if l.all (nodeOk l) then 0 else 2 := by unfold checkN; rw [if_neg hbig, hsh]
    obtain ⟨R, hRR⟩ : ∃ R, checkN l = R := ⟨_, rfl⟩
    rw [hRR] at hR ⊢
    obtain ⟨n, hn⟩ : ∃ n, l.length = n := ⟨_, rfl⟩
    have HH := Lib.hid (⟨hN, hK, hs, hn, hR⟩ : _ ∧ _ ∧ _ ∧ _ ∧ _)
    rw [hn] at hl hbz hbig h0 hD ⊢
    rw [hn] at HW
    clear hN hK hs hn hR hRR hEnd hE hsh
    go_enter Tryd.func19, Tryd.ntmps19
    go_wp2_with fail
    go_step3
    go_wp2_with fail
    refine HW.out.mono ?_
    rintro e w1 ⟨ev, dv, rfl, hx, he, hd⟩
    obtain ⟨db, dc, rfl, hI⟩ := hd
    clear he HW
    have hx1 := Lib.hid hx
    clear hx
    simp only [Option.isSome_some]
    obtain ⟨b2, o2, rfl, -⟩ := hI 0 (by omega)
    have hM := Tryd.slices_Max_int b2 o2 D.length dc D w1 (by omega) (Nat.le_refl _) (by omega) (fun j hj => by
      obtain ⟨b3, o3, e3, hc⟩ := hI j hj
      cases e3
      rw [hc, List.getD_eq_getElem?_getD, List.getElem?_eq_getElem hj]
      rfl)
    rw [List.take_length, hD] at hM
    have HM := Lib.hid hM
    rw [hD]
    clear hM hI hD
    generalize Lib.maxOf D = M at HM HH
    go_wp2_with fail
    refine HM.out.mono ?_
    clear HM
    rintro e w2 ⟨rfl, rfl⟩
    by_cases hM : 256 < M
    · go_wp2_with fail
      rw [Exit.noGoto_ret]
      go_ret
      obtain rfl : R = 3 := by rw [HH.out.2.2.2.2, if_pos hM]
      exact ⟨rfl, hx1.out⟩
    · have hR := HH.out.2.2.2.2
      rw [if_neg hM] at hR
      have HR := Lib.hid hR
      clear hR
      go_wp2_with fail
      go_step3
      go_wp2_with fail
      go_loopg [2, 26] n (fun g v2 iv wr => ∃ i : Nat, g + i = n ∧ iv = .int .i64 i ∧ (if (l.drop i).all (nodeOk l) then (0 : Int) else 2) = R ∧ Ext [] w wr)
      case atStart => exact ⟨0, by omega, rfl, by rw [HR.out]; rfl, hx1.out⟩
      case round =>
        clear HR
        obtain ⟨i, hgi, rfl, hR, hx⟩ := hrel
        by_cases hlt : i < n
        · obtain ⟨g, rfl⟩ : ∃ g, gk = g + 1 := ⟨gk - 1, by omega⟩
          have hltz : (i : Int) < (n : Int) := by omega
          have hil : i < l.length := by rw [HH.out.2.2.2.1]; exact hlt
          rw [drop_at l i hil, List.all_cons] at hR
          obtain ⟨b, o, rfl, n1, n2, n3, n4, nw, bk, ck, n5, n6⟩ := HH.out.1.ext hx i hil
          have hsx := HH.out.2.2.1 _ (List.getElem_mem hil)
          have hka : kidsAt l i = (l[i]'hil).kids := by rw [kidsAt, List.getElem?_eq_getElem hil]
          generalize l[i]'hil = x at *
          have HB := Lib.hid (fun w => bare_walk x nw hsx bk ck w)
          have HX := Lib.hid (⟨hx, hR, hka, n6⟩ : _ ∧ _ ∧ _ ∧ _)
          have hkl := nw.len
          clear hx hR hka n6 nw hsx
          go_wp2_with fail
          refine (HB.out _).mono ?_
          rintro e W ⟨rfl, hxW⟩
          have hb3 := hxW.keep (heap_alloc_at (w := wr) _) (by simp)
          have hx2 : Ext [] w W := (HX.out.1.trans ((Ext.refl [] wr).alloc _)).trans hxW
          obtain ⟨q, hq⟩ : ∃ q, wr.heap.size = q := ⟨_, rfl⟩
          rw [hq] at hb3 ⊢
          clear hq
          have hn6 := (HX.out.2.2.2.ext ((Ext.refl [] wr).alloc _)).ext hxW
          have HX2 := Lib.hid (⟨hx2, HX.out.2.1, HX.out.2.2.1, hn6⟩ : _ ∧ _ ∧ _ ∧ _)
          clear HX hx2 hn6 hxW HB n1 n2 n3 n4 n5
          have q0 : W.cell? ⟨q, 0, none⟩ = some (.int .i64 x.kind) := cellOf hb3 0
          have q4 : W.cell? ⟨q, 4, none⟩ = some (.slice bk x.kids.length ck) := cellOf hb3 4
          have HB3 := Lib.hid hb3
          clear hb3
          cases hbare : bareN x with
          | false =>
            have hR : R = 2 := by rw [← HX2.out.2.1, nodeOk, hbare]; simp
            subst hR
            go_wp2_with fail
            rw [Exit.noGoto_ret]
            go_ret
            exact ⟨rfl, HX2.out.1⟩
          | true =>
          by_cases k8 : x.kind = 8
          case neg =>
            have k8b : (x.kind != 8) = true := bne_iff_ne.2 k8
            have hok : nodeOk l x = true := by simp [nodeOk, hbare, k8]
            clear k8
            go_wp2_with fail
            go_roundg g
            case measure => omega
            case rel =>
              have := HX2.out.2.1
              rw [hok, Bool.true_and] at this
              exact ⟨i + 1, by omega, by go_num, this, HX2.out.1⟩
          case pos =>
          have k8b : (x.kind != 8) = false := by rw [k8]; rfl
          have hok : nodeOk l x = (decide (x.kids.length % 2 = 0) && risesN l none x.kids) := by simp [nodeOk, hbare, k8]
          obtain ⟨K, hK⟩ : ∃ K, x.kids.length = K := ⟨_, rfl⟩
          have HO := Lib.hid (⟨hok, hK⟩ : _ ∧ _)
          rw [hK] at q4 hkl
          clear hok k8 hK hbare
          by_cases hev : K % 2 = 0
          case neg =>
            have hR : R = 2 := by
              rw [← HX2.out.2.1, HO.out.1, HO.out.2, decide_eq_false hev]; simp
            have he1 : Int.tmod (K : Int) 2 = 1 := (show Int.tmod (K : Int) 2 = ((K % 2 : Nat) : Int) from rfl).trans (by omega)
            subst hR
            clear hev
            go_wp2_with fail
            rw [Exit.noGoto_ret]
            go_ret
            exact ⟨rfl, HX2.out.1⟩
          case pos =>
          have he1 : Int.tmod (K : Int) 2 = 0 := (show Int.tmod (K : Int) 2 = ((K % 2 : Nat) : Int) from rfl).trans (by omega)
          obtain ⟨B, hB⟩ : ∃ B, risesN l none x.kids = B := ⟨_, rfl⟩
          have hokB : nodeOk l x = B := by rw [HO.out.1, hB, HO.out.2, decide_eq_true hev, Bool.true_and]
          have HO2 := Lib.hid (⟨hokB, hB⟩ : _ ∧ _)
          clear hokB hB
          go_wp2_with fail
          clear q0 q4 k8b
          go_loopg [2, 8, 9] K (fun g2 v2 v8 v9 wx => ∃ (j : Nat) (p : Option ByteArray), g2 + j = K ∧ j % 2 = 0 ∧ v8 = .int .i64 j ∧ risesN l p (x.kids.drop j) = B ∧ ((j = 0 ∧ p = none) ∨ ∃ m : Nat, 2 ≤ j ∧ x.kids[j - 2]? = some (m : Int) ∧ m < l.length ∧ p = some (ndAt l m).s) ∧ Ext [] W wx)
          case atStart => exact ⟨0, none, by omega, rfl, rfl, HO2.out.2, .inl ⟨rfl, rfl⟩, Ext.refl _ _⟩
          case round =>
            obtain ⟨j, p, hgj, hj2, rfl, hRj, hp, hx⟩ := hrel
            have hb3 := hx.keep HB3.out (by simp)
            have q4 : wr.cell? ⟨q, 4, none⟩ = some (.slice bk K ck) := by rw [← HO.out.2]; exact cellOf hb3 4
            by_cases hjK : j < K
            · obtain ⟨g2, rfl⟩ : ∃ g2, gk = g2 + 2 := ⟨gk - 2, by omega⟩
              have hjz : (j : Int) < (K : Int) := by omega
              have hj1 : j + 1 < x.kids.length := by rw [HO.out.2]; omega
              rw [rises_step l p x.kids j hj1] at hRj
              have hr := HH.out.2.1 i hil j _ (by rw [HX2.out.2.2.1]; exact List.getElem?_eq_getElem (by omega))
              obtain ⟨bb, oo, rfl, hc⟩ := (HX2.out.2.2.2.ext hx) j (by omega)
              have hkj : x.kids[j]? = some (x.kids[j]'(by omega)) := List.getElem?_eq_getElem (by omega)
              generalize x.kids[j]'(by omega) = c at hRj hr hc hkj
              obtain ⟨m, rfl⟩ : ∃ m : Nat, c = (m : Int) := ⟨c.toNat, by omega⟩
              have hm : m < l.length := by omega
              have hxw := HX2.out.1.trans hx
              obtain ⟨b9, o9, e9, n1, n2, n3, n4, nw, bk9, ck9, n5, n6⟩ := node_in (HH.out.1.ext hxw) m hm
              cases e9
              have hmz : (m : Int) < (n : Int) := by have := HH.out.2.2.2.1; omega
              have HN := Lib.hid (⟨hkj, hRj, hp, hx, hr⟩ : _ ∧ _ ∧ _ ∧ _ ∧ _)
              have HV := Lib.hid (fun m hm => node_in (HH.out.1.ext hxw) m hm)
              obtain ⟨y, hy⟩ : ∃ y, ndAt l (m : Int) = y := ⟨_, rfl⟩
              rw [hy] at n1 n2 n3 n4 n5 HN
              have HY := Lib.hid hy
              clear hy hkj hRj hp hx hr n6 nw hxw hb3
              go_upto_region 20 with (fail)
              obtain ⟨W4, hW4⟩ : ∃ W4, wr.alloc (Obj.cells #[.int .i64 y.kind, .int .i64 y.n, .int .i64 y.gen, .string y.s, .slice bk9 y.kids.length ck9] 37) = W4 := ⟨_, rfl⟩
              have hx4 : Ext [] wr W4 := by rw [← hW4]; exact (Ext.refl [] wr).alloc _
              have hb4 : W4.heap[wr.heap.size]? = some (.cells #[.int .i64 y.kind, .int .i64 y.n, .int .i64 y.gen, .string y.s, .slice bk9 y.kids.length ck9] 37 (0, 0)) := by rw [← hW4]; exact heap_alloc_at _
              obtain ⟨q2, hq2⟩ : ∃ q2, wr.heap.size = q2 := ⟨_, rfl⟩
              rw [hq2] at hb4 ⊢
              rw [hW4]
              have q4 := hx4.cell q4
              have y0 : W4.cell? ⟨q2, 0, none⟩ = some (.int .i64 y.kind) := cellOf hb4 0
              have y3 : W4.cell? ⟨q2, 3, none⟩ = some (.string y.s) := cellOf hb4 3
              have HX4 := Lib.hid ((HX2.out.1.trans HN.out.2.2.2.1).trans hx4)
              have HX5 := Lib.hid hx4
              clear hb4 hq2 hW4 n1 n2 n3 n4 n5 hc hx4
              have hBv := HN.out.2.1
              by_cases hk6 : y.kind = 6
              case neg =>
                have hk6b : (y.kind != 6) = true := bne_iff_ne.2 hk6
                have hBf : B = false := by rw [← hBv, decide_eq_false hk6]; rfl
                have hR : R = 2 := by rw [← HX2.out.2.1, HO2.out.1, hBf]; rfl
                subst hR
                clear hk6 hBv
                go_quiet (fail)
                go_wp2_with fail
                rw [Exit.noGoto_ret]
                go_ret
                exact ⟨rfl, HX4.out.drewN _⟩
              case pos =>
              have hk6b : (y.kind != 6) = false := by rw [hk6]; rfl
              rw [decide_eq_true hk6, Bool.true_and] at hBv
              clear hk6
              rcases HN.out.2.2.1 with ⟨hj0, hp⟩ | ⟨m2, hj2', hk2, hm2, hp⟩
              · have hjf : ¬ (0 : Int) < (j : Int) := by omega
                have hjd : decide ((0 : Int) < (j : Int)) = false := decide_eq_false hjf
                have hjd2 : decide (0 < j) = false := decide_eq_false (by omega)
                rw [hp, belowN, Bool.true_and] at hBv
                have HBV := Lib.hid hBv
                clear hBv hp hj0 hjf
                go_quiet (fail)
                go_wp2_with fail
                go_roundg g2
                case measure => omega
                case rel => exact ⟨j + 2, _, by omega, by omega, by go_num, HBV.out, .inr ⟨m, by omega, by rw [Nat.add_sub_cancel]; exact HN.out.1, hm, by rw [HY.out]⟩, (HN.out.2.2.2.1.trans HX5.out).drewN _⟩
              · have hjd : decide ((0 : Int) < (j : Int)) = true := decide_eq_true (by omega)
                have hjd2 : decide (0 < j) = true := decide_eq_true (by omega)
                have hj2a : (2 : Int) ≤ (j : Int) := by omega
                obtain ⟨i2, hi2⟩ : ∃ i2, j - 2 = i2 := ⟨_, rfl⟩
                rw [hi2] at hk2
                have hi2z : (j : Int) - 2 = (i2 : Int) := by omega
                have hi2l := (List.getElem?_eq_some_iff.1 hk2).1
                have hi2K : (i2 : Int) < (K : Int) := by have := HO.out.2; omega
                obtain ⟨b7, o7, e7, hc7⟩ := (HX2.out.2.2.2.ext (HN.out.2.2.2.1.trans HX5.out)) i2 hi2l
                cases e7
                rw [(List.getElem?_eq_some_iff.1 hk2).2] at hc7
                obtain ⟨b8, o8, e8, m8⟩ := HV.out m2 hm2
                cases e8
                have m3 := HX5.out.cell m8.s
                have hm2z : (m2 : Int) < (n : Int) := by have := HH.out.2.2.2.1; omega
                obtain ⟨s2, hs2⟩ : ∃ s2, (ndAt l (m2 : Int)).s = s2 := ⟨_, rfl⟩
                rw [hs2] at m3 hp
                rw [hp, belowN] at hBv
                clear hk2 hi2 hi2l hs2 m8 hp
                cases hless : Op.bytesLess s2.toList y.s.toList with
                | false =>
                  rw [hless, Bool.false_and] at hBv
                  have hR : R = 2 := by rw [← HX2.out.2.1, HO2.out.1, ← hBv]; rfl
                  subst hR
                  clear hBv
                  go_quiet (fail)
                  go_wp2_with fail
                  rw [Exit.noGoto_ret]
                  go_ret
                  exact ⟨rfl, HX4.out.drewN _⟩
                | true =>
                  rw [hless, Bool.true_and] at hBv
                  have HBV := Lib.hid hBv
                  clear hBv
                  go_quiet (fail)
                  go_wp2_with fail
                  go_roundg g2
                  case measure => omega
                  case rel => exact ⟨j + 2, _, by omega, by omega, by go_num, HBV.out, .inr ⟨m, by omega, by rw [Nat.add_sub_cancel]; exact HN.out.1, hm, by rw [HY.out]⟩, (HN.out.2.2.2.1.trans HX5.out).drewN _⟩
            · obtain rfl : j = K := by omega
              have hBt : B = true := by rw [← hRj, List.drop_eq_nil_of_le (by rw [HO.out.2]; omega)]; rfl
              have HX3 := Lib.hid (HX2.out.1.trans hx)
              clear hRj hp hx hb3
              go_wp2_with fail
              go_roundg g
              case measure => omega
              case rel =>
                have := HX2.out.2.1
                rw [HO2.out.1, hBt, Bool.true_and] at this
                exact ⟨i + 1, by omega, by go_num, this, HX3.out⟩
        · obtain rfl : gk = 0 := by omega
          have hR0 : R = 0 := by
            rw [← hR, List.drop_eq_nil_of_le (by rw [HH.out.2.2.2.1]; omega)]; rfl
          subst hR0
          have HX := Lib.hid hx
          clear hx hR
          go_wp2_with fail
          rw [Exit.noGoto_ret]
          go_ret
          exact ⟨rfl, HX.out⟩
end Go.Proofs.YtkjcjklnclahdaaDoor.Tr
