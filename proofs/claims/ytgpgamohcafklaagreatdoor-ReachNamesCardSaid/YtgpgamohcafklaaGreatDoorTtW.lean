/-
  The document's dict and Check walked.
-/
import Derived.Test.YtgpgamohcafklaaGreatDoorTtV
import Derived.Test.YtgpgamohcafklaaGreatDoorPkX
namespace Go.Proofs.YtgpgamohcafklaaGreatDoor.Tr
open Go.RowKit

set_option maxRecDepth 100000 in
set_option maxHeartbeats 8000000 in
theorem dict17_walk (v : Value) (l : List Nd) (w : World) (h : NodesAt w v l) (i : Nat) (hi : i < l.length) (hk : ∀ (j : Nat) (c : Int), (l[i]'hi).kids[j]? = some c → (0 : Int) ≤ c ∧ c < l.length) :
    Calls Tryz.prog 39 #[v, .int .i64 i] w fun e w' => e = .returned (.bool (decide ((l[i]'hi).kids.length % 2 = 0) && risesN l none (l[i]'hi).kids)) ∧ Ext [] w w' := by
  obtain ⟨base, cap, rfl, -, hN⟩ := h
  obtain ⟨b, o, rfl, n1, n2, n3, n4, nw, bk, ck, n5, n6⟩ := hN i hi
  generalize l[i]'hi = x at *
  obtain ⟨n, hn⟩ : ∃ n, l.length = n := ⟨_, rfl⟩
  obtain ⟨R, hR⟩ : ∃ R, (decide (x.kids.length % 2 = 0) && risesN l none x.kids) = R := ⟨_, rfl⟩
  rw [hR]
  obtain ⟨K, hK⟩ : ∃ K, x.kids.length = K := ⟨_, rfl⟩
  have hkl := nw.len
  have hiz : (i : Int) < (n : Int) := by omega
  have HH := Lib.hid (⟨hN, hk, hn, hK, hR, n6⟩ : _ ∧ _ ∧ _ ∧ _ ∧ _ ∧ _)
  rw [hn] at hi ⊢
  rw [hK] at n5 hkl
  clear hN hk hn n1 n2 n3 n4 nw n6
  by_cases hev : K % 2 = 0
  case neg =>
    have hRf : R = false := by rw [← hR, hK, decide_eq_false hev, Bool.false_and]
    have he1 : Int.tmod (K : Int) 2 = 1 := (show Int.tmod (K : Int) 2 = ((K % 2 : Nat) : Int) from rfl).trans (by omega)
    subst hRf
    clear hR hK hev
    go_enter Tryz.func39, Tryz.ntmps39
    go_wp2_with fail
    go_ret
    exact ⟨rfl, Ext.refl _ _⟩
  case pos =>
  have he1 : Int.tmod (K : Int) 2 = 0 := (show Int.tmod (K : Int) 2 = ((K % 2 : Nat) : Int) from rfl).trans (by omega)
  have HO := Lib.hid (show risesN l none x.kids = R by rw [← hR, hK, decide_eq_true hev, Bool.true_and])
  have HE := Lib.hid hev
  clear hR hK hev
  go_enter Tryz.func39, Tryz.ntmps39
  go_wp2_with fail
  go_loopg [6] K (fun g2 v6 wx => ∃ (j : Nat) (p : Option ByteArray), g2 + j = K ∧ j % 2 = 0 ∧ v6 = .int .i64 j ∧ risesN l p (x.kids.drop j) = R ∧ ((j = 0 ∧ p = none) ∨ ∃ m : Nat, 2 ≤ j ∧ x.kids[j - 2]? = some (m : Int) ∧ m < l.length ∧ p = some (ndAt l m).s) ∧ Ext [] w wx)
  case atStart => exact ⟨0, none, by omega, rfl, rfl, HO.out, .inl ⟨rfl, rfl⟩, Ext.refl _ _⟩
  case round =>
    obtain ⟨j, p, hgj, hj2, rfl, hRj, hp, hx⟩ := hrel
    by_cases hjK : j < K
    · obtain ⟨g2, rfl⟩ : ∃ g2, gk = g2 + 2 := ⟨gk - 2, by have := HE.out; omega⟩
      have hjz : (j : Int) < (K : Int) := by omega
      have hKx := HH.out.2.2.2.1
      have hj1 : j + 1 < x.kids.length := by omega
      rw [rises_step l p x.kids j hj1] at hRj
      have hr := HH.out.2.1 j _ (List.getElem?_eq_getElem (by omega))
      obtain ⟨bb, oo, rfl, hc⟩ := (HH.out.2.2.2.2.2.ext hx) j (by omega)
      have hkj : x.kids[j]? = some (x.kids[j]'(by omega)) := List.getElem?_eq_getElem (by omega)
      generalize x.kids[j]'(by omega) = c at hRj hr hc hkj
      obtain ⟨m, rfl⟩ : ∃ m : Nat, c = (m : Int) := ⟨c.toNat, by omega⟩
      have hm : m < l.length := by omega
      obtain ⟨b9, o9, e9, n1, n2, n3, n4, nw, bk9, ck9, n5, n6⟩ := node_in (HH.out.1.ext hx) m hm
      cases e9
      have hmz : (m : Int) < (n : Int) := by have := HH.out.2.2.1; omega
      have HN := Lib.hid (⟨hkj, hRj, hp, hx, hr⟩ : _ ∧ _ ∧ _ ∧ _ ∧ _)
      have HV := Lib.hid (fun m hm => node_in (HH.out.1.ext hx) m hm)
      obtain ⟨y, hy⟩ : ∃ y, ndAt l (m : Int) = y := ⟨_, rfl⟩
      rw [hy] at n1 n2 n3 n4 n5 HN
      have HY := Lib.hid hy
      clear hy hkj hRj hp hx hr n6 nw hKx hj1 n2 n3 n5
      have hBv := HN.out.2.1
      by_cases hk6 : y.kind = 6
      case neg =>
        have hk6b : (y.kind != 6) = true := bne_iff_ne.2 hk6
        have hBf : R = false := by rw [← hBv, decide_eq_false hk6]; rfl
        subst hBf
        clear hk6 hBv
        go_upto_region 7 with (fail)
        go_quiet (fail)
        go_wp2_with fail
        go_ret
        exact ⟨rfl, HN.out.2.2.2.1.drewN _⟩
      case pos =>
      have hk6b : (y.kind != 6) = false := by rw [hk6]; rfl
      rw [decide_eq_true hk6, Bool.true_and] at hBv
      clear hk6
      rcases HN.out.2.2.1 with ⟨hj0, hp⟩ | ⟨m2, hj2', hk2, hm2, hp⟩
      · have hjf : ¬ (0 : Int) < (j : Int) := by omega
        have hjd : decide ((0 : Int) < (j : Int)) = false := decide_eq_false hjf
        have hjd2 : decide (0 < j) = false := decide_eq_false (by omega)
        rw [hp, belowN, Bool.true_and] at hBv
        have HBV := Lib.hid hBv
        clear hBv hp hj0 hjf
        go_upto_region 7 with (fail)
        go_quiet (fail)
        go_wp2_with fail
        go_roundg g2
        case measure => omega
        case rel => exact ⟨j + 2, _, by omega, by omega, by go_num, HBV.out, .inr ⟨m, by omega, by rw [Nat.add_sub_cancel]; exact HN.out.1, hm, by rw [HY.out]⟩, HN.out.2.2.2.1.drewN _⟩
      · have hjd : decide ((0 : Int) < (j : Int)) = true := decide_eq_true (by omega)
        have hjd2 : decide (0 < j) = true := decide_eq_true (by omega)
        have hj2a : (2 : Int) ≤ (j : Int) := by omega
        obtain ⟨i2, hi2⟩ : ∃ i2, j - 2 = i2 := ⟨_, rfl⟩
        rw [hi2] at hk2
        have hi2z : (j : Int) - 2 = (i2 : Int) := by omega
        have hi2l := (List.getElem?_eq_some_iff.1 hk2).1
        have hi2K : (i2 : Int) < (K : Int) := by have := HH.out.2.2.2.1; omega
        obtain ⟨b7, o7, e7, hc7⟩ := (HH.out.2.2.2.2.2.ext HN.out.2.2.2.1) i2 hi2l
        cases e7
        rw [(List.getElem?_eq_some_iff.1 hk2).2] at hc7
        obtain ⟨b8, o8, e8, m8⟩ := HV.out m2 hm2
        cases e8
        have m3 := m8.s
        have hm2z : (m2 : Int) < (n : Int) := by have := HH.out.2.2.1; omega
        obtain ⟨s2, hs2⟩ : ∃ s2, (ndAt l (m2 : Int)).s = s2 := ⟨_, rfl⟩
        rw [hs2] at m3 hp
        rw [hp, belowN] at hBv
        clear hk2 hi2 hi2l hs2 m8 hp
        cases hless : Op.bytesLess s2.toList y.s.toList with
        | false =>
          rw [hless, Bool.false_and] at hBv
          subst hBv
          go_upto_region 7 with (fail)
          go_quiet (fail)
          go_wp2_with fail
          go_ret
          exact ⟨rfl, HN.out.2.2.2.1.drewN _⟩
        | true =>
          rw [hless, Bool.true_and] at hBv
          have HBV := Lib.hid hBv
          clear hBv
          go_upto_region 7 with (fail)
          go_quiet (fail)
          go_wp2_with fail
          go_roundg g2
          case measure => omega
          case rel => exact ⟨j + 2, _, by omega, by omega, by go_num, HBV.out, .inr ⟨m, by omega, by rw [Nat.add_sub_cancel]; exact HN.out.1, hm, by rw [HY.out]⟩, HN.out.2.2.2.1.drewN _⟩
    · obtain rfl : j = K := by omega
      have hBt : R = true := by rw [← hRj, List.drop_eq_nil_of_le (by rw [HH.out.2.2.2.1]; omega)]; rfl
      have HX3 := Lib.hid hx
      subst hBt
      clear hRj hp hx
      go_wp2_with fail
      go_ret
      exact ⟨rfl, HX3.out⟩
set_option maxRecDepth 100000 in
set_option maxHeartbeats 8000000 in
theorem check17_walk (v : Value) (l : List Nd) (w : World) (h : NodesAt w v l) (hl : l.length ≤ 9223372036854775807) (hs : ∀ x ∈ l, x.s.size ≤ 1000000) :
    Calls Tryz.prog 25 #[v] w fun e w' => e = .returned (.int .i64 (checkN l)) ∧ Ext [] w w' := by
  by_cases hbig : 65536 < l.length
  · obtain ⟨base, cap, rfl, -, hN⟩ := h
    have hR : checkN l = 3 := if_pos hbig
    rw [hR]
    have hbz : (65536 : Int) < (l.length : Int) := by omega
    clear hR hN hs
    go_enter Tryz.func25, Tryz.ntmps25
    go_wp2_with fail
    go_ret
    exact ⟨rfl, Ext.refl _ _⟩
  have hbz : ¬ (65536 : Int) < (l.length : Int) := by omega
  have HW := Lib.hid (ends_walk v l w h (by omega))
  have HNA := Lib.hid h
  obtain ⟨base, cap, rfl, -, hN⟩ := h
  cases hsh : shapeN l with
  | none =>
    have hR : checkN l = 2 := by unfold checkN; rw [if_neg hbig, hsh]
    rw [hR]
    rw [hsh] at HW
    clear hR hN hs hsh
    go_enter Tryz.func25, Tryz.ntmps25
    go_wp2_with fail
    refine HW.out.mono ?_
    rintro e w1 ⟨ev, dv, rfl, hx, -⟩
    have HX := Lib.hid hx
    clear hx HW
    simp only [Option.isSome_none]
    go_wp2_with fail
    go_ret
    exact ⟨rfl, HX.out⟩
  | some p =>
    obtain ⟨E, D⟩ := p
    obtain ⟨h0, hE, hD, hK, hEnd⟩ := shape_some hsh
    rw [hsh] at HW
    have hR : checkN l = if 256 < Lib.maxOf D then 3 else if l.all (nodeOk l) then 0 else 2 := by unfold checkN; rw [if_neg hbig, hsh]
    obtain ⟨R, hRR⟩ : ∃ R, checkN l = R := ⟨_, rfl⟩
    rw [hRR] at hR ⊢
    obtain ⟨n, hn⟩ : ∃ n, l.length = n := ⟨_, rfl⟩
    have HD := Lib.hid (⟨HNA, hD, h0⟩ : _ ∧ _ ∧ _)
    have HH := Lib.hid (⟨hN, hK, hs, hn, hR⟩ : _ ∧ _ ∧ _ ∧ _ ∧ _)
    rw [hn] at hl hbz hbig h0 hD ⊢
    rw [hn] at HW
    clear hN hK hs hn hR hRR hEnd hE hsh HNA
    go_enter Tryz.func25, Tryz.ntmps25
    go_wp2_with fail
    refine HW.out.mono ?_
    rintro e w1 ⟨ev, dv, rfl, hx, he, hd⟩
    obtain ⟨db, dc, rfl, hI⟩ := hd
    clear he HW
    have hx1 := Lib.hid hx
    clear hx
    simp only [Option.isSome_some]
    obtain ⟨b2, o2, rfl, -⟩ := hI 0 (by omega)
    have HI := Lib.hid hI
    rw [hD]
    clear hI hD
    go_wp2_with fail
    go_loopg [6] n (fun g iv wr => ∃ i : Nat, g + i = n ∧ iv = .int .i64 i ∧ (∀ k (h : k < D.length), k < i → D[k] ≤ 256) ∧ wr = w1)
    case atStart => exact ⟨0, by omega, rfl, fun k _ h => absurd h (by omega), rfl⟩
    case round =>
      obtain ⟨i, hgi, rfl, hlow, rfl⟩ := hrel
      by_cases hlt : i < n
      · obtain ⟨g, rfl⟩ : ∃ g, gk = g + 1 := ⟨gk - 1, by omega⟩
        have hltz : (i : Int) < (n : Int) := by omega
        have hil : i < D.length := by rw [HD.out.2.1, HH.out.2.2.2.1]; exact hlt
        obtain ⟨b3, o3, e3, hc⟩ := HI.out i hil
        cases e3
        obtain ⟨d, hd⟩ : ∃ d, D[i]'hil = d := ⟨_, rfl⟩
        rw [hd] at hc
        have HL := Lib.hid (⟨hlow, hd⟩ : _ ∧ _)
        clear hlow hd
        by_cases hbd : 256 < d
        · go_wp2_with fail
          go_ret
          have hmax : 256 < Lib.maxOf D := by
            have := le_maxOf (List.getElem_mem hil)
            rw [HL.out.2] at this
            omega
          obtain rfl : R = 3 := by rw [HH.out.2.2.2.2, if_pos hmax]
          exact ⟨rfl, hx1.out⟩
        · go_wp2_with fail
          go_roundg g
          case measure => omega
          case rel =>
            refine ⟨i + 1, by omega, by go_num, fun k hk hki => ?_, rfl⟩
            rcases Nat.lt_or_eq_of_le (Nat.le_of_lt_succ hki) with h | h
            · exact HL.out.1 k hk h
            · subst h
              rw [HL.out.2]
              omega
      · obtain rfl : gk = 0 := by omega
        have hmax : ¬ 256 < Lib.maxOf D := by
          have hD := HD.out.2.1
          have := HH.out.2.2.2.1
          have h3 := maxOf_le (D := D) (M := 256) (fun e => by rw [e] at hD; simp at hD; omega) (fun x hx => by
            obtain ⟨k, hk, rfl⟩ := List.mem_iff_getElem.1 hx
            exact hlow k hk (by omega))
          omega
        have hR := HH.out.2.2.2.2
        rw [if_neg hmax] at hR
        have HR := Lib.hid hR
        clear hR hlow hmax
        go_wp2_with fail
        go_loopg [7] n (fun g iv wr => ∃ i : Nat, g + i = n ∧ iv = .int .i64 i ∧ (if (l.drop i).all (nodeOk l) then (0 : Int) else 2) = R ∧ Ext [] w wr)
        case atStart => exact ⟨0, by omega, rfl, by rw [HR.out]; rfl, hx1.out⟩
        case round =>
          clear HR hlt
          obtain ⟨i, hgi, rfl, hR, hx⟩ := hrel
          by_cases hlt : i < n
          · obtain ⟨g, rfl⟩ : ∃ g, gk = g + 1 := ⟨gk - 1, by omega⟩
            have hltz : (i : Int) < (n : Int) := by omega
            have hil : i < l.length := by rw [HH.out.2.2.2.1]; exact hlt
            rw [drop_at l i hil, List.all_cons] at hR
            obtain ⟨b, o, rfl, n1, n2, n3, n4, nw, bk, ck, n5, n6⟩ := HH.out.1.ext hx i hil
            have hsx := HH.out.2.2.1 _ (List.getElem_mem hil)
            have hka : kidsAt l i = (l[i]'hil).kids := by rw [kidsAt, List.getElem?_eq_getElem hil]
            have HDW := Lib.hid (fun (w2 : World) (hx2 : Ext [] w w2) => dict17_walk _ l w2 (HD.out.1.out.ext hx2) i hil (fun j c hj => by have := HH.out.2.1 i hil j c (by rw [hka]; exact hj); omega))
            generalize l[i]'hil = x at *
            have HB := Lib.hid (fun w => plain_walk x nw hsx bk ck w)
            have HX := Lib.hid (⟨hx, hR⟩ : _ ∧ _)
            rw [HH.out.2.2.2.1] at HDW
            clear hx hR hka n6 nw hsx
            go_wp2_with fail
            refine (HB.out _).mono ?_
            rintro e W ⟨rfl, hxW⟩
            have n1 := hxW.cell n1
            have hx2 : Ext [] w W := HX.out.1.trans hxW
            have HX2 := Lib.hid (⟨hx2, HX.out.2⟩ : _ ∧ _)
            clear HX hx2 hxW HB n2 n3 n4 n5
            cases hbare : bareN x with
            | false =>
              have hR : R = 2 := by rw [← HX2.out.2, nodeOk, hbare]; simp
              subst hR
              go_wp2_with fail
              go_ret
              exact ⟨rfl, HX2.out.1⟩
            | true =>
            by_cases k8 : x.kind = 8
            case neg =>
              have k8b : (x.kind == 8) = false := beq_eq_false_iff_ne.2 k8
              have hok : nodeOk l x = true := by simp [nodeOk, hbare, k8]
              clear k8
              go_wp2_with fail
              go_roundg g
              case measure => omega
              case rel =>
                have := HX2.out.2
                rw [hok, Bool.true_and] at this
                exact ⟨i + 1, by omega, by go_num, this, HX2.out.1⟩
            case pos =>
            have k8b : (x.kind == 8) = true := by rw [k8]; rfl
            have hok : nodeOk l x = (decide (x.kids.length % 2 = 0) && risesN l none x.kids) := by simp [nodeOk, hbare, k8]
            obtain ⟨B, hB⟩ : ∃ B, (decide (x.kids.length % 2 = 0) && risesN l none x.kids) = B := ⟨_, rfl⟩
            rw [hB] at HDW hok
            have HO := Lib.hid hok
            clear hok k8 hbare hB
            go_wp2_with fail
            refine (HDW.out _ HX2.out.1).mono ?_
            rintro e W2 ⟨rfl, hxW2⟩
            have HX3 := Lib.hid (⟨HX2.out.1.trans hxW2, HX2.out.2⟩ : _ ∧ _)
            clear hxW2 HX2 n1
            cases B with
            | false =>
              have hR : R = 2 := by rw [← HX3.out.2, HO.out]; simp
              subst hR
              go_wp2_with fail
              go_ret
              exact ⟨rfl, HX3.out.1⟩
            | true =>
              go_wp2_with fail
              go_roundg g
              case measure => omega
              case rel =>
                have := HX3.out.2
                rw [HO.out, Bool.true_and] at this
                exact ⟨i + 1, by omega, by go_num, this, HX3.out.1⟩
          · obtain rfl : gk = 0 := by omega
            have hR0 : R = 0 := by
              rw [← hR, List.drop_eq_nil_of_le (by rw [HH.out.2.2.2.1]; omega)]; rfl
            subst hR0
            have HX := Lib.hid hx
            clear hx hR
            go_wp2_with fail
            go_ret
            exact ⟨rfl, HX.out⟩
end Go.Proofs.YtgpgamohcafklaaGreatDoor.Tr
