/-
  law17.TreeCuts walked.
-/
import Derived.Test.YtkjcjklnclahdaaDoorPkX
import Derived.Test.YtkjcjklnclahdaaDoorPkW
namespace Go.Proofs.YtkjcjklnclahdaaDoor.Tr
open Go.RowKit

theorem light_lt {l : List Nd} {m : Int} (h : lightL l m = true) (hm : m ≤ 300) : Lt l ∧ l.length ≤ 300 := by
  unfold lightL at h
  rw [Bool.and_eq_true, decide_eq_true_eq, List.all_eq_true] at h
  refine ⟨⟨by omega, fun x hx => ?_⟩, by omega⟩
  have := h.1 x hx
  rw [decide_eq_true_eq] at this
  omega
theorem lt_sub {l : List Nd} (h : Lt l) (p : Nat) : Lt (subN l p) := by
  unfold subN
  split
  · refine ⟨by rw [List.length_map, List.length_drop, List.length_take]; have := h.len; omega, fun x hx => ?_⟩
    obtain ⟨y, hy, rfl⟩ := List.mem_map.1 hx
    exact h.s y (List.mem_of_mem_take (List.mem_of_mem_drop hy))
  · exact ⟨by simp, by simp⟩
def cntR (l : List Nd) : Nat := (l.filter fun x => decide (x.kind = 9)).length
set_option maxRecDepth 100000 in
set_option maxHeartbeats 2000000 in
theorem cuts_law (v : Value) (l : List Nd) (a : Int) (w : World) (h : NodesAt w v l) (hlen : l.length ≤ 9223372036854775807) (ha : -9223372036854775808 ≤ a ∧ a ≤ 9223372036854775807) :
    Calls Tryd.prog 5 #[v, .int .i64 a] w fun e w' => e = .returned (.bool true) ∧ Ext [] w w' := by
  have H1 := Lib.hid lives_walk
  have H2 := Lib.hid (fun W (hx : Ext [] w W) => light_walk v l 300 W (h.ext hx) hlen)
  cases hlt : lightL l 300 with
  | false =>
    rw [hlt] at H2
    obtain ⟨base, cap, rfl, -, -⟩ := h
    clear hlt
    go_enter Tryd.func5, Tryd.ntmps5
    go_wp2_with fail
    refine (H1.out _).mono ?_
    rintro e w1 ⟨rfl, hx1⟩
    have HX1 := Lib.hid hx1
    clear hx1
    go_wp2_with fail
    refine (H2.out _ HX1.out).mono ?_
    rintro e w2 ⟨rfl, rfl⟩
    go_wp2_with fail
    go_ret
    exact ⟨rfl, HX1.out⟩
  | true =>
  rw [hlt] at H2
  obtain ⟨hLt, h300⟩ := light_lt hlt (by omega)
  have H3 := Lib.hid (fun W (hx : Ext [] w W) => check_walk v l W (h.ext hx) hLt.len hLt.s)
  obtain ⟨c, hc⟩ : ∃ c, checkN l = c := ⟨_, rfl⟩
  rw [hc] at H3
  by_cases c0 : c = 0
  case neg =>
    have hcb : (c != 0) = true := bne_iff_ne.2 c0
    obtain ⟨base, cap, rfl, -, -⟩ := h
    clear hlt hc c0
    go_enter Tryd.func5, Tryd.ntmps5
    go_wp2_with fail
    refine (H1.out _).mono ?_
    rintro e w1 ⟨rfl, hx1⟩
    have HX1 := Lib.hid hx1
    clear hx1
    go_wp2_with fail
    refine (H2.out _ HX1.out).mono ?_
    rintro e w2 ⟨rfl, rfl⟩
    go_wp2_with fail
    refine (H3.out _ HX1.out).mono ?_
    rintro e w2 ⟨rfl, hx2⟩
    have HX2 := Lib.hid (HX1.out.trans hx2)
    clear hx2
    go_wp2_with fail
    go_ret
    exact ⟨rfl, HX2.out⟩
  case pos =>
  subst c0
  obtain ⟨h0, hn9, E2, D2, hsh, -⟩ := check_zero hc
  obtain ⟨n, hn⟩ : ∃ n, l.length = n := ⟨_, rfl⟩
  have H4 := Lib.hid (fun W => Kt.pick_any a (n : Int) W (by omega) (by omega) ha.1 ha.2)
  obtain ⟨p, hp⟩ : ∃ p : Nat, a % (n : Int) = (p : Int) := ⟨(a % (n : Int)).toNat, by have := Int.emod_nonneg a (show (n : Int) ≠ 0 by omega); omega⟩
  have hpn : p < n := by have := Int.emod_lt_of_pos a (show (0 : Int) < (n : Int) by omega); omega
  simp only [hp] at H4
  have K := cuts_ok hc (show p < l.length by omega)
  obtain ⟨s, hs⟩ : ∃ s, subN l p = s := ⟨_, rfl⟩
  have hsX : subXN l p = s := by rw [subXN, if_pos ⟨hc, by omega, by omega⟩, Int.toNat_natCast, hs]
  have hLs := lt_sub hLt p
  rw [hs] at hLs
  have H5 := Lib.hid (fun W (hx : Ext [] w W) => subX_walk v l p W (h.ext hx) hLt)
  simp only [hsX] at H5
  have H6 := Lib.hid (fun u W (hu : NodesAt W u s) => check_walk u s W hu hLs.len hLs.s)
  have H7 := Lib.hid (fun (i : Int) W (hx : Ext [] w W) => end_walk v l i W (h.ext hx) hLt)
  have H8 := Lib.hid (fun u W (hu : NodesAt W u s) => depth_walk u s W hu hLs)
  have H9 := Lib.hid (fun W (hx : Ext [] w W) => depth_walk v l W (h.ext hx) hLt)
  have H10 := Lib.hid (fun W (hx : Ext [] w W) => refs_walk v l W (h.ext hx) hLt)
  have k1 := K.sub
  have k2 := K.fin
  have k3 := K.all
  have k4 := K.deep
  have k5 := K.chain
  rw [hs] at k1 k2 k4
  simp only [k1] at H6
  have he0 : endN l 0 = (n : Int) := by rw [endN, if_pos ⟨hc, by omega, by omega⟩, show (0 : Int).toNat = 0 from rfl, k3, hn]
  obtain ⟨S, hS⟩ : ∃ S, s.length = S := ⟨_, rfl⟩
  rw [hS] at k2
  have hep : endN l p = (p : Int) + S := by rw [endN, if_pos ⟨hc, by omega, by omega⟩, Int.toNat_natCast, k2]
  have hSn : S ≤ 65536 := by
    have := (shape_some hsh).2.2.2.2 p (by omega)
    rw [show E2 = endsN l by rw [endsN, hsh], k2] at this
    omega
  obtain ⟨d1, hd1⟩ : ∃ d, depthN s = d := ⟨_, rfl⟩
  obtain ⟨d2, hd2⟩ : ∃ d, depthN l = d := ⟨_, rfl⟩
  simp only [hd1] at H8 k4
  simp only [hd2] at H9 k4
  have HK := Lib.hid (⟨hc, k2, k5, he0, hep, hn, hS⟩ : _ ∧ _ ∧ _ ∧ _ ∧ _ ∧ _ ∧ _)
  have h0' := h
  obtain ⟨base, cap, rfl, -, hN⟩ := h0'
  have HN := Lib.hid hN
  rw [hn] at h0 h300 H2 H3 H5 H7 H9 H10 ⊢
  have hnz : (0 : Int) < (n : Int) := by omega
  clear hlt hc hsh hn hp K hs hsX hLs k1 k2 k3 k5 he0 hep hS hd1 hd2 hN h0 hn9 h hLt
  go_enter Tryd.func5, Tryd.ntmps5
  go_wp2_with fail
  refine (H1.out _).mono ?_
  rintro e w1 ⟨rfl, hx1⟩
  have HX1 := Lib.hid hx1
  clear hx1 H1
  go_wp2_with fail
  refine (H2.out _ HX1.out).mono ?_
  rintro e w2 ⟨rfl, rfl⟩
  clear H2
  go_wp2_with fail
  refine (H3.out _ HX1.out).mono ?_
  rintro e w2 ⟨rfl, hx2⟩
  have HX2 := Lib.hid (HX1.out.trans hx2)
  clear hx2 H3 HX1
  go_wp2_with fail
  refine (H4.out _).mono ?_
  rintro e w3 ⟨rfl, rfl⟩
  clear H4
  go_wp2_with fail
  refine (H5.out _ HX2.out).mono ?_
  rintro e w3 ⟨v5, rfl, hx3, hN5⟩
  have hN5' := hN5
  obtain ⟨b5, c5, rfl, -, -⟩ := hN5'
  rw [HK.out.2.2.2.2.2.2] at hN5 ⊢
  have HX3 := Lib.hid (⟨HX2.out.trans hx3, hN5⟩ : _ ∧ _)
  clear hx3 hN5 H5 HX2
  go_wp2_with fail
  refine (H6.out _ _ HX3.out.2).mono ?_
  rintro e w4 ⟨rfl, hx4⟩
  have HX4 := Lib.hid (⟨HX3.out.1.trans hx4, HX3.out.2.ext hx4⟩ : _ ∧ _)
  clear hx4 H6 HX3
  go_wp2_with fail
  refine (H7.out _ _ HX4.out.1).mono ?_
  rintro e w5 ⟨rfl, hx5⟩
  have HX5 := Lib.hid (⟨HX4.out.1.trans hx5, HX4.out.2.ext hx5⟩ : _ ∧ _)
  clear hx5 HX4
  rw [HK.out.2.2.2.2.1]
  have hbb : ((p : Int) + (S : Int) != (p : Int) + (S : Int)) = false := bne_self_eq_false _
  go_wp2_with fail
  refine (H7.out _ _ HX5.out.1).mono ?_
  rintro e w6 ⟨rfl, hx6⟩
  have HX6 := Lib.hid (⟨HX5.out.1.trans hx6, HX5.out.2.ext hx6⟩ : _ ∧ _)
  clear hx6 HX5 hbb
  rw [HK.out.2.2.2.1]
  have hbb : ((n : Int) != (n : Int)) = false := bne_self_eq_false _
  go_wp2_with fail
  refine (H8.out _ _ HX6.out.2).mono ?_
  rintro e w7 ⟨rfl, hx7⟩
  have HX7 := Lib.hid (HX6.out.1.trans hx7)
  clear hx7 HX6 H8 hbb
  go_wp2_with fail
  refine (H9.out _ HX7.out).mono ?_
  rintro e w8 ⟨rfl, hx8⟩
  have HX8 := Lib.hid (HX7.out.trans hx8)
  clear hx8 HX7 H9
  have hd : ¬ d2 < d1 := by omega
  go_wp2_with fail
  clear hd k4
  obtain ⟨C, hC⟩ : ∃ C, cntR l = C := ⟨_, rfl⟩
  have HCC := Lib.hid hC
  have hCn : C ≤ n := by rw [← hC, cntR]; have := List.length_filter_le (fun x : Nd => decide (x.kind = 9)) l; have := HK.out.2.2.2.2.2.1; omega
  clear hC
  go_loopg [6, 7] n (fun g rv iv wr => ∃ i r : Nat, g + i = n ∧ iv = .int .i64 i ∧ rv = .int .i64 r ∧ r + cntR (l.drop i) = C ∧ Ext [] w wr)
  case atStart => exact ⟨0, 0, by omega, rfl, rfl, by rw [List.drop_zero, Nat.zero_add]; exact HCC.out, HX8.out⟩
  case round =>
    obtain ⟨i, r, hgi, rfl, rfl, hr, hx⟩ := hrel
    by_cases hlt : i < n
    · obtain ⟨g, rfl⟩ : ∃ g, gk = g + 1 := ⟨gk - 1, by omega⟩
      have hltz : (i : Int) < (n : Int) := by omega
      have hil : i < l.length := by rw [HK.out.2.2.2.2.2.1]; exact hlt
      rw [drop_at l i hil, cntR, List.filter_cons] at hr
      obtain ⟨b, o, rfl, n1, -⟩ := HN.out.ext hx i hil
      generalize l[i]'hil = x at *
      by_cases k9 : x.kind = 9
      · rw [if_pos (by simpa using k9), List.length_cons] at hr
        have k9b : (x.kind == 9) = true := by rw [k9]; rfl
        have HR := Lib.hid (⟨hr, hx⟩ : _ ∧ _)
        have hrC : r < C := by omega
        clear hr hx k9
        go_wp2_with fail
        go_roundg g
        case measure => omega
        case rel => exact ⟨i + 1, r + 1, by omega, by go_num, by go_num, by have := HR.out.1; unfold cntR; omega, HR.out.2⟩
      · rw [if_neg (by simpa using k9)] at hr
        have k9b : (x.kind == 9) = false := beq_eq_false_iff_ne.2 k9
        have HR := Lib.hid (⟨hr, hx⟩ : _ ∧ _)
        clear hr hx k9
        go_wp2_with fail
        go_roundg g
        case measure => omega
        case rel => exact ⟨i + 1, r, by omega, by go_num, rfl, HR.out.1, HR.out.2⟩
    · obtain rfl : gk = 0 := by omega
      have hrC : r = C := by
        rw [List.drop_eq_nil_of_le (by rw [HK.out.2.2.2.2.2.1]; omega)] at hr
        exact hr
      subst hrC
      have HXa := Lib.hid hx
      clear hx hr
      have hpl : p < l.length := by rw [HK.out.2.2.2.2.2.1]; exact hpn
      obtain ⟨b, o, rfl, nd⟩ := HN.out p hpl
      obtain ⟨-, -, -, -, -, kb, kc, n5, n6⟩ := nd
      obtain ⟨Kd, hKd⟩ : ∃ Kd, (l[p]'hpl).kids = Kd := ⟨_, rfl⟩
      rw [hKd] at n5 n6
      have hkat : kidsAt l p = Kd := by rw [kidsAt, List.getElem?_eq_getElem hpl]; exact hKd
      obtain ⟨m, hm⟩ : ∃ m, Kd.length = m := ⟨_, rfl⟩
      rw [hm] at n5
      have hmn : m ≤ 65536 := by
        obtain ⟨-, -, E5, D5, hsh5, -⟩ := check_zero HK.out.1
        have := ((shape_some hsh5).2.2.2.2 p hpl).2
        rw [hkat, hm] at this
        have := HK.out.2.2.2.2.2.1
        omega
      have hkin : ∀ (j : Nat) (c : Int), Kd[j]? = some c → (p : Int) < c ∧ c < (n : Int) := fun j c hj => by
        obtain ⟨-, -, E5, D5, hsh5, -⟩ := check_zero HK.out.1
        have := (shape_some hsh5).2.2.2.1 p hpl j c (by rw [hkat]; exact hj)
        rw [HK.out.2.2.2.2.2.1] at this
        exact this
      have hch := HK.out.2.2.1
      rw [hkat, HK.out.2.1] at hch
      have HC2 := Lib.hid (⟨n5, n6, hm, hkin, hch⟩ : _ ∧ _ ∧ _ ∧ _ ∧ _)
      have hpz : (p : Int) < (n : Int) := by omega
      clear n5 n6 hm hkin hch hkat
      go_wp2_with fail
      go_loopg [4, 8, 9] m (fun g v4 nv iv wx => ∃ (i : Nat) (nx : Int), g + i = m ∧ iv = .int .i64 i ∧ nv = .int .i64 nx ∧ chainP (endsN l) (Kd.drop i) nx ((p : Int) + (S : Int)) ∧ Ext [] w wx)
      case atStart => exact ⟨0, _, by omega, rfl, rfl, HC2.out.2.2.2.2, HXa.out⟩
      case round =>
        obtain ⟨i, nx, hgi, rfl, rfl, hch, hx⟩ := hrel
        have n5 := hx.cell HC2.out.1
        by_cases hlt2 : i < m
        · obtain ⟨g, rfl⟩ : ∃ g, gk = g + 1 := ⟨gk - 1, by omega⟩
          have hltz : (i : Int) < (m : Int) := by omega
          have hik : i < Kd.length := by rw [HC2.out.2.2.1]; exact hlt2
          rw [drop_at Kd i hik, chainP] at hch
          obtain ⟨b6, o6, rfl, c6⟩ := HC2.out.2.1 i hik
          have c6 := hx.cell c6
          obtain ⟨k1, k2⟩ := HC2.out.2.2.2.1 i _ (List.getElem?_eq_getElem hik)
          obtain ⟨hch1, hch2⟩ := hch
          rw [hch1] at c6 k1 k2
          have hen : endN l nx = (endsN l).getD nx.toNat 0 := by rw [endN, if_pos ⟨HK.out.1, by omega, by rw [HK.out.2.2.2.2.2.1]; exact k2⟩]
          have HR := Lib.hid (⟨hx, hch2, hen⟩ : _ ∧ _ ∧ _)
          have hbb : (nx != nx) = false := bne_self_eq_false _
          clear hx hch1 hch2 hen
          go_wp2_with fail
          refine (H7.out _ _ HR.out.1).mono ?_
          rintro e w9 ⟨rfl, hx9⟩
          have HX9 := Lib.hid (HR.out.1.trans hx9)
          clear hx9 n5 c6 hbb
          go_wp2_with fail
          go_roundg g
          case measure => omega
          case rel => exact ⟨i + 1, endN l nx, by omega, by go_num, rfl, by rw [HR.out.2.2]; exact HR.out.2.1, HX9.out⟩
        · obtain rfl : gk = 0 := by omega
          rw [List.drop_eq_nil_of_le (by rw [HC2.out.2.2.1]; omega), chainP] at hch
          subst hch
          have hrl : (refsN l).length = r := by rw [refsN, if_pos HK.out.1, List.length_map]; exact HCC.out
          have HXb := Lib.hid hx
          clear hx
          go_wp2_with fail
          refine (H10.out _ HXb.out).mono ?_
          rintro e w9 ⟨v9, rfl, hx9, hR9⟩
          obtain ⟨rb9, rc9, rfl, -, -⟩ := hR9
          rw [hrl]
          have HX9 := Lib.hid (HXb.out.trans hx9)
          clear hx9 n5 hrl
          go_wp2_with fail
          go_ret
          exact ⟨by simp, HX9.out⟩
end Go.Proofs.YtkjcjklnclahdaaDoor.Tr
