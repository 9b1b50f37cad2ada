/-
 Texts PkW, as far as the statement needs them.
-/
import Derived.Test.YtljachhmdogkdaaGreatDoorQPkV
namespace Go.Proofs.YtljachhmdogkdaaGreatDoor.Tr
open Go.RowKit
def sameNd (x y : Nd) : Bool := decide (x.kind = y.kind) && (decide (x.n = y.n) && (decide (x.gen = y.gen) && (x.s.toList == y.s.toList && decide (x.kids = y.kids))))
def sameL : List Nd → List Nd → Bool
 | [], [] => true
 | x :: a, y :: b => sameNd x y && sameL a b
 | _, _ => false
theorem sameNd_iff (x y : Nd) : sameNd x y = true ↔ x = y := by
 constructor
 ·intro h
  simp only [sameNd, Bool.and_eq_true, decide_eq_true_eq, beq_iff_eq] at h
  obtain ⟨h1, h2, h3, h4, h5⟩ := h
  obtain ⟨a, b, c, s, d⟩ := x
  obtain ⟨a', b', c', s', d'⟩ := y
  have := bytes_eq h4
  simp_all
 ·rintro rfl; simp [sameNd]
theorem sameL_iff : ∀ a b : List Nd, sameL a b = true ↔ a = b
 | [], [] => by simp [sameL]
 | x :: a, y :: b => by rw [sameL, Bool.and_eq_true, sameNd_iff, sameL_iff a b, List.cons.injEq]
 | [], _ :: _ => by simp [sameL]
 | _ :: _, [] => by simp [sameL]
theorem sameL_len : ∀ {a b : List Nd}, a.length ≠ b.length → sameL a b = false
 | [], [], h => absurd rfl h
 | x :: a, y :: b, h => by rw [sameL, sameL_len (a := a) (b := b) (by simpa using h), Bool.and_false]
 | [], _ :: _, _ => rfl
 | _ :: _, [], _ => rfl
def sameK : List Int → List Int → Bool
 | x :: a, y :: b => decide (x = y) && sameK a b
 | _, _ => true
theorem sameK_is : ∀ {a b : List Int}, a.length = b.length → sameK a b = decide (a = b)
 | [], [], _ => rfl
 | x :: a, y :: b, h => by
  rw [sameK, sameK_is (by simpa using h)]
  by_cases q : x = y <;> by_cases r : a = b <;> simp [q, r]
 | [], _ :: _, h => by simp at h
 | _ :: _, [], h => by simp at h
set_option maxRecDepth 100000 in
set_option maxHeartbeats 2000000 in
theorem same_walk (u v : Value) (a b : List Nd) (w : World) (hu : NodesAt w u a) (hv : NodesAt w v b) (ha : a.length ≤ 9223372036854775807) (hb : b.length ≤ 9223372036854775807) :
  Calls Tryz.prog 81 #[u, v] w fun e w' => e = .returned (.bool (sameL a b)) ∧ Ext [] w w' := by
 obtain ⟨ub, uc, rfl, -, hU⟩ := hu
 obtain ⟨vb, vc, rfl, -, hV⟩ := hv
 obtain ⟨n, hn⟩ : ∃ n, a.length = n := ⟨_, rfl⟩
 obtain ⟨m, hm⟩ : ∃ m, b.length = m := ⟨_, rfl⟩
 obtain ⟨R, hR⟩ : ∃ R, sameL a b = R := ⟨_, rfl⟩
 rw [hR]
 have HH := Lib.hid (⟨hU, hV, hn, hm, hR⟩ : _ ∧ _ ∧ _ ∧ _ ∧ _)
 rw [hn] at ha ⊢
 rw [hm] at hb ⊢
 clear hU hV hR
 by_cases hnm : n = m
 case neg =>
  have hR : R = false := by rw [← HH.out.2.2.2.2]; exact sameL_len (by rw [hn, hm]; exact hnm)
  subst hR
  have hbb : ((n : Int) != (m : Int)) = true := bne_iff_ne.2 (by omega)
  clear hn hm
  go_enter Tryz.func81, Tryz.ntmps81
  go_wp2_with fail
  go_ret
  exact ⟨rfl, Ext.refl _ _⟩
 case pos =>
 subst hnm
 have hbb : ((n : Int) != (n : Int)) = false := bne_self_eq_false _
 clear hn hm hb
 go_enter Tryz.func81, Tryz.ntmps81
 go_wp2_with fail
 clear hbb
 go_loopg [4, 5, 6] n (fun g v4 iv v6 wr => ∃ i : Nat, g + i = n ∧ iv = .int .i64 i ∧ sameL (a.drop i) (b.drop i) = R ∧ Ext [] w wr)
 case atStart => exact ⟨0, by omega, rfl, HH.out.2.2.2.2, Ext.refl _ _⟩
 case round =>
  obtain ⟨i, hgi, rfl, hR, hx⟩ := hrel
  by_cases hlt : i < n
  case neg =>
   obtain rfl : gk = 0 := by omega
   have hR0 : R = true := by rw [← hR, List.drop_eq_nil_of_le (by rw [HH.out.2.2.1]; omega), List.drop_eq_nil_of_le (by rw [HH.out.2.2.2.1]; omega)]; rfl
   subst hR0
   have HX := Lib.hid hx
   clear hx hR
   go_wp2_with fail
   go_ret
   exact ⟨rfl, HX.out⟩
  case pos =>
  obtain ⟨g, rfl⟩ : ∃ g, gk = g + 1 := ⟨gk - 1, by omega⟩
  have hltz : (i : Int) < (n : Int) := by omega
  have hia : i < a.length := by rw [HH.out.2.2.1]; exact hlt
  have hib : i < b.length := by rw [HH.out.2.2.2.1]; exact hlt
  rw [drop_at a i hia, drop_at b i hib, sameL] at hR
  obtain ⟨b1, o1, rfl, x1, x2, x3, x4, xw, xk, xc, x5, x6⟩ := HH.out.1.ext hx i hia
  obtain ⟨b2, o2, rfl, y1, y2, y3, y4, yw, yk, yc, y5, y6⟩ := HH.out.2.1.ext hx i hib
  generalize a[i]'hia = x at *
  generalize b[i]'hib = y at *
  obtain ⟨X, hX⟩ : ∃ X, x.kids.length = X := ⟨_, rfl⟩
  obtain ⟨Y, hY⟩ : ∃ Y, y.kids.length = Y := ⟨_, rfl⟩
  have hxl := xw.len
  rw [hX] at x5 hxl
  rw [hY] at y5
  have HX := Lib.hid (⟨hx, hR, x6, y6, hX, hY⟩ : _ ∧ _ ∧ _ ∧ _ ∧ _ ∧ _)
  clear hx hR x6 y6 hX hY xw yw
  have x1 : ∀ V : Ex wr, _ := fun V => V.cell x1
  have x2 : ∀ V : Ex wr, _ := fun V => V.cell x2
  have x3 : ∀ V : Ex wr, _ := fun V => V.cell x3
  have x4 : ∀ V : Ex wr, _ := fun V => V.cell x4
  have x5 : ∀ V : Ex wr, _ := fun V => V.cell x5
  have y1 : ∀ V : Ex wr, _ := fun V => V.cell y1
  have y2 : ∀ V : Ex wr, _ := fun V => V.cell y2
  have y3 : ∀ V : Ex wr, _ := fun V => V.cell y3
  have y4 : ∀ V : Ex wr, _ := fun V => V.cell y4
  have y5 : ∀ V : Ex wr, _ := fun V => V.cell y5
  by_cases q1 : x.kind = y.kind
  case neg =>
   have q1b : (x.kind != y.kind) = true := bne_iff_ne.2 q1
   have hR : R = false := by rw [← HX.out.2.1, sameNd]; simp [q1]
   subst hR
   go_upto_region 6 with (fail)
   refine wp_region_ext (by kernel_rfl) (by kernel_rfl) ?_
   simp only [List.append_eq, List.cons_append, List.nil_append]
   repeat (go_big_quiet_step (fail))
   refine wpQuiet_nil ?_
   rintro _ ⟨V, rfl⟩
   have HV := Lib.hid V.ext
   clear x1 x2 x3 x4 x5 y1 y2 y3 y4 y5
   go_wp2_with fail
   go_ret
   exact ⟨rfl, HX.out.1.trans HV.out⟩
  case pos =>
  have q1b : (x.kind != y.kind) = false := by rw [q1]; exact bne_self_eq_false _
  have Qq1 := Lib.hid q1
  clear q1
  by_cases q2 : x.n = y.n
  case neg =>
   have q2b : (x.n != y.n) = true := bne_iff_ne.2 q2
   have hR : R = false := by rw [← HX.out.2.1, sameNd]; simp [q2]
   subst hR
   go_upto_region 6 with (fail)
   refine wp_region_ext (by kernel_rfl) (by kernel_rfl) ?_
   simp only [List.append_eq, List.cons_append, List.nil_append]
   repeat (go_big_quiet_step (fail))
   refine wpQuiet_nil ?_
   rintro _ ⟨V, rfl⟩
   have HV := Lib.hid V.ext
   clear x1 x2 x3 x4 x5 y1 y2 y3 y4 y5
   go_wp2_with fail
   go_ret
   exact ⟨rfl, HX.out.1.trans HV.out⟩
  case pos =>
  have q2b : (x.n != y.n) = false := by rw [q2]; exact bne_self_eq_false _
  have Qq2 := Lib.hid q2
  clear q2
  by_cases q3 : x.gen = y.gen
  case neg =>
   have q3b : (x.gen != y.gen) = true := bne_iff_ne.2 q3
   have hR : R = false := by rw [← HX.out.2.1, sameNd]; simp [q3]
   subst hR
   go_upto_region 6 with (fail)
   refine wp_region_ext (by kernel_rfl) (by kernel_rfl) ?_
   simp only [List.append_eq, List.cons_append, List.nil_append]
   repeat (go_big_quiet_step (fail))
   refine wpQuiet_nil ?_
   rintro _ ⟨V, rfl⟩
   have HV := Lib.hid V.ext
   clear x1 x2 x3 x4 x5 y1 y2 y3 y4 y5
   go_wp2_with fail
   go_ret
   exact ⟨rfl, HX.out.1.trans HV.out⟩
  case pos =>
  have q3b : (x.gen != y.gen) = false := by rw [q3]; exact bne_self_eq_false _
  have Qq3 := Lib.hid q3
  clear q3
  cases q4 : (x.s.toList == y.s.toList) with
  | false =>
   have hR : R = false := by rw [← HX.out.2.1, sameNd]; simp [q4]
   subst hR
   go_upto_region 6 with (fail)
   refine wp_region_ext (by kernel_rfl) (by kernel_rfl) ?_
   simp only [List.append_eq, List.cons_append, List.nil_append]
   repeat (go_big_quiet_step (fail))
   refine wpQuiet_nil ?_
   rintro _ ⟨V, rfl⟩
   have HV := Lib.hid V.ext
   clear x1 x2 x3 x4 x5 y1 y2 y3 y4 y5
   go_wp2_with fail
   go_ret
   exact ⟨rfl, HX.out.1.trans HV.out⟩
  | true =>
  by_cases q5 : X = Y
  case neg =>
   have q5b : ((X : Int) != (Y : Int)) = true := bne_iff_ne.2 (by omega)
   have hkk : ¬ x.kids = y.kids := fun h => q5 (by rw [← HX.out.2.2.2.2.1, ← HX.out.2.2.2.2.2, h])
   have hR : R = false := by rw [← HX.out.2.1, sameNd]; simp [hkk]
   subst hR
   clear hkk
   go_upto_region 6 with (fail)
   refine wp_region_ext (by kernel_rfl) (by kernel_rfl) ?_
   simp only [List.append_eq, List.cons_append, List.nil_append]
   repeat (go_big_quiet_step (fail))
   refine wpQuiet_nil ?_
   rintro _ ⟨V, rfl⟩
   have HV := Lib.hid V.ext
   clear x1 x2 x3 x4 x5 y1 y2 y3 y4 y5
   go_wp2_with fail
   go_ret
   exact ⟨rfl, HX.out.1.trans HV.out⟩
  case pos =>
  subst q5
  have q5b : ((X : Int) != (X : Int)) = false := bne_self_eq_false _
  obtain ⟨K, hK⟩ : ∃ K, decide (x.kids = y.kids) = K := ⟨_, rfl⟩
  have hSN : sameNd x y = K := by rw [sameNd, Qq1.out, Qq2.out, Qq3.out, q4, hK]; simp
  have HK := Lib.hid (⟨hSN, (sameK_is (HX.out.2.2.2.2.1.trans HX.out.2.2.2.2.2.symm)).trans hK⟩ : _ ∧ _)
  clear hSN hK
  go_upto_region 6 with (fail)
  refine wp_region_ext (by kernel_rfl) (by kernel_rfl) ?_
  simp only [List.append_eq, List.cons_append, List.nil_append]
  repeat (go_big_quiet_step (fail))
  refine wpQuiet_nil ?_
  rintro _ ⟨V, rfl⟩
  have HV := Lib.hid V.ext
  go_wp2_with fail
  have HX6 := Lib.hid (⟨x5 (Ex.mk wr (Ext.refl [] wr)), y5 (Ex.mk wr (Ext.refl [] wr))⟩ : wr.cell? _ = _ ∧ wr.cell? _ = _)
  clear x1 x2 x3 x4 y1 y2 y3 y4 q1b q2b q3b q4 q5b x5 y5
  go_loopg [4, 6] X (fun g2 v4 kv wx => ∃ k : Nat, g2 + k = X ∧ kv = .int .i64 k ∧ sameK (x.kids.drop k) (y.kids.drop k) = K ∧ Ext [] wr wx)
  case atStart => exact ⟨0, by omega, rfl, HK.out.2, HV.out⟩
  case round =>
   obtain ⟨k, hgk, rfl, hKk, hx⟩ := hrel
   have x5 := hx.cell HX6.out.1
   have y5 := hx.cell HX6.out.2
   by_cases hkX : k < X
   ·obtain ⟨g2, rfl⟩ : ∃ g2, gk = g2 + 1 := ⟨gk - 1, by omega⟩
    have hkz : (k : Int) < (X : Int) := by omega
    have k1 : k < x.kids.length := by rw [HX.out.2.2.2.2.1]; exact hkX
    have k2 : k < y.kids.length := by rw [HX.out.2.2.2.2.2]; exact hkX
    rw [drop_at _ k k1, drop_at _ k k2, sameK] at hKk
    obtain ⟨b5, o5, rfl, c5⟩ := HX.out.2.2.1 k k1
    obtain ⟨b6, o6, rfl, c6⟩ := HX.out.2.2.2.1 k k2
    have c5 := hx.cell c5
    have c6 := hx.cell c6
    generalize x.kids[k]'k1 = p at *
    generalize y.kids[k]'k2 = q at *
    have HX7 := Lib.hid (⟨hx, hKk⟩ : _ ∧ _)
    clear hx hKk
    by_cases hpq : p = q
    ·subst hpq
     have hb : (p != p) = false := bne_self_eq_false _
     go_upto_region 11 with (fail)
     go_quiet (fail)
     go_wp2_with fail
     go_roundg g2
     case measure => omega
     case rel => exact ⟨k + 1, by omega, by go_num, by simpa using HX7.out.2, HX7.out.1.drewN _⟩
    ·have hb : (p != q) = true := bne_iff_ne.2 hpq
     have hK : K = false := by rw [← HX7.out.2, decide_eq_false hpq]; rfl
     have hR : R = false := by rw [← HX.out.2.1, HK.out.1, hK]; rfl
     subst hR
     go_upto_region 11 with (fail)
     go_quiet (fail)
     go_wp2_with fail
     go_ret
     exact ⟨rfl, (HX.out.1.trans HX7.out.1).drewN _⟩
   ·obtain rfl : gk = 0 := by omega
    have hK : K = true := by rw [← hKk, List.drop_eq_nil_of_le (by rw [HX.out.2.2.2.2.1]; omega), List.drop_eq_nil_of_le (by rw [HX.out.2.2.2.2.2]; omega)]; rfl
    have HX7 := Lib.hid hx
    clear hx hKk
    go_wp2_with fail
    go_roundg g
    case measure => omega
    case rel =>
     have := HX.out.2.1
     rw [HK.out.1, hK, Bool.true_and] at this
     exact ⟨i + 1, by omega, by go_num, this, HX.out.1.trans HX7.out⟩
end Go.Proofs.YtljachhmdogkdaaGreatDoor.Tr
namespace Go.Proofs.YtljachhmdogkdaaGreatDoor.Tr
open Go.RowKit
def evensN : List Int → List Int
 | k :: _ :: r => k :: evensN r
 | [k] => [k]
 | [] => []
theorem evens_step (L : List Int) (j : Nat) (hj : j + 1 < L.length) : evensN (L.drop j) = L[j]'(by omega) :: evensN (L.drop (j + 2)) := by
 rw [drop_at L j (by omega), drop_at L (j + 1) hj, evensN]
theorem ndAt_nat (l : List Nd) (k : Nat) (hk : k < l.length) : ndAt l (k : Int) = l[k]'hk := by
 rw [ndAt, Int.toNat_natCast, List.getD_eq_getElem?_getD, List.getElem?_eq_getElem hk]; rfl
def namesN (l : List Nd) : List ByteArray := if isN l 8 then (evensN (ndAt l 0).kids).map (fun k => (ndAt l k).s) else []
theorem is_facts {l : List Nd} {kind : Int} (h : isN l kind = true) : checkN l = 0 ∧ (ndAt l 0).kind = kind := by simpa [isN] using h
theorem root_kids {l : List Nd} (hc : checkN l = 0) : ∀ (j : Nat) (c : Int), (ndAt l 0).kids[j]? = some c → 0 < c ∧ c < l.length := by
 obtain ⟨h0, hn, E, D, hsh, -⟩ := check_zero hc
 obtain ⟨-, -, -, hK, -⟩ := shape_some hsh
 intro j c hj
 have e : kidsAt l 0 = (ndAt l 0).kids := by
  have := ndAt_nat l 0 h0
  rw [show ((0 : Nat) : Int) = 0 from rfl] at this
  rw [this, kidsAt, List.getElem?_eq_getElem h0]
 have := hK 0 h0 j c (by rw [e]; exact hj)
 omega
theorem root_even {l : List Nd} (h : isN l 8 = true) : (ndAt l 0).kids.length % 2 = 0 := by
 obtain ⟨hc, hk⟩ := is_facts h
 obtain ⟨h0, hn, E, D, hsh, hm, hall⟩ := check_zero hc
 have e := ndAt_nat l 0 h0
 rw [show ((0 : Nat) : Int) = 0 from rfl] at e
 have := List.all_eq_true.1 hall _ (List.getElem_mem h0)
 rw [← e, nodeOk, hk] at this
 simp at this
 exact this.2.1
theorem infoString17 : (Tryz.prog.info? 9).map (fun i => (i.zero, i.size, i.bytes)) = some (some (.string ⟨#[]⟩), 1, 16) := by kernel_rfl
def stC (l : List ByteArray) : List Value := l.map Value.string
theorem strs_own {w : World} {v : Value} {l : List ByteArray} (h : w.ownsRow 0 9 1 v l.length (stC l)) : StrsAt w v l := by
 obtain ⟨ao, cap, rfl⟩ := row_slice h
 refine ⟨ao, cap, rfl, row_le h, fun i hi => ?_⟩
 obtain ⟨g, c2, he⟩ := row_form h (by omega)
 cases he
 exact ⟨g, 0, rfl, by rw [Nat.zero_add]; exact row_cell h (by rw [stC, List.getElem?_map, List.getElem?_eq_getElem hi]; rfl)⟩
set_option maxRecDepth 100000 in
set_option maxHeartbeats 2000000 in
theorem names_walk (v : Value) (l : List Nd) (w : World) (h : NodesAt w v l) (hl : Lt l) :
  Calls Tryz.prog 150 #[v] w fun e w' => ∃ v2, e = .returned v2 ∧ Ext [] w w' ∧ StrsAt w' v2 (namesN l) := by
 obtain ⟨i0, hif, hz0, hz1, hz2⟩ := info_parts infoString17
 have HI := Lib.hid (is_walk v l 8 w h hl)
 cases his : isN l 8 with
 | false =>
  have hR : namesN l = [] := by rw [namesN, his]; rfl
  rw [hR]
  rw [his] at HI
  obtain ⟨base, cap, rfl, -, -⟩ := h
  clear hR his
  go_enter Tryz.func150, Tryz.ntmps150
  go_wp2_with fail
  refine HI.out.mono ?_
  rintro e w1 ⟨rfl, hx⟩
  have HX := Lib.hid hx
  clear hx HI
  go_wp2_with fail
  go_ret
  exact ⟨_, rfl, HX.out, none, 0, rfl, by simp, fun k hk => by cases hk⟩
 | true =>
 rw [his] at HI
 obtain ⟨hc, hk8⟩ := is_facts his
 obtain ⟨h0, hn, -⟩ := check_zero hc
 have hrk := root_kids hc
 have hev := root_even his
 obtain ⟨R, hR⟩ : ∃ R, namesN l = R := ⟨_, rfl⟩
 rw [hR]
 rw [namesN, his, if_pos rfl] at hR
 obtain ⟨base, cap, rfl, -, hN⟩ := h
 obtain ⟨b, o, rfl, hnd⟩ := node_in hN 0 h0
 rw [Nat.zero_mul, Nat.add_zero] at hnd
 rw [show ((0 : Nat) : Int) = 0 from rfl] at hnd
 obtain ⟨r1, r2, r3, r4, rw_, rb, rc, r5, r6⟩ := hnd
 obtain ⟨x, hx0⟩ : ∃ x, ndAt l 0 = x := ⟨_, rfl⟩
 rw [hx0] at hrk hev hR r5 r6 rw_
 obtain ⟨K, hK⟩ : ∃ K, x.kids.length = K := ⟨_, rfl⟩
 have hkl := rw_.len
 rw [hK] at r5 hkl hev
 obtain ⟨n, hln⟩ : ∃ n, l.length = n := ⟨_, rfl⟩
 have HH := Lib.hid (⟨hN, hrk, hR, r5, r6, hK, hln⟩ : _ ∧ _ ∧ _ ∧ _ ∧ _ ∧ _ ∧ _)
 have hK9 : K ≤ 65536 := by
  obtain ⟨-, -, E, D, hsh, -⟩ := check_zero hc
  obtain ⟨-, -, -, -, hE⟩ := shape_some hsh
  have h9 := (hE 0 h0).2
  have e : kidsAt l 0 = x.kids := by
   have := ndAt_nat l 0 h0
   rw [show ((0 : Nat) : Int) = 0 from rfl, hx0] at this
   rw [this, kidsAt, List.getElem?_eq_getElem h0]
  rw [e, hK] at h9
  omega
 rw [hln] at HI h0 hn ⊢
 have h0z : (0 : Int) < (n : Int) := by omega
 clear hN hrk hR r1 r2 r3 r4 r5 r6 rw_ hK hln hx0 his hc hk8 h0
 go_enter Tryz.func150, Tryz.ntmps150
 go_wp2_with fail
 refine HI.out.mono ?_
 rintro e w1 ⟨rfl, hx⟩
 have S := ((Sep.start w).quiet hx).new (Ext.refl _ _) (oSl 9 1 (.slice none 0 0) 0 []) (World.ownsRow_nil _ _ _ _) (fun q hq => by simp [oSl, Value.ownBlock] at hq)
 have HS := Lib.hid S
 clear hx HI S
 go_wp2_with fail
 go_loopg [3, 4] K (fun g ov iv wr => ∃ (j : Nat) (A : List ByteArray), g + j = K ∧ j % 2 = 0 ∧ iv = .int .i64 j ∧ A.length ≤ j ∧ A ++ (evensN (x.kids.drop j)).map (fun k => (ndAt l k).s) = R ∧ Sep w wr [oSl 9 1 ov A.length (stC A)])
 case atStart => exact ⟨0, [], by omega, rfl, rfl, by simp, HH.out.2.2.1, HS.out⟩
 case round =>
  clear HS
  obtain ⟨j, A, hgj, hj2, rfl, hA, hR, S⟩ := hrel
  have hr0 : wr.ownsRow 0 9 1 u3 A.length (stC A) := S.get 0 rfl
  obtain ⟨ao3, c3, rfl⟩ := row_slice hr0
  obtain ⟨m, hm⟩ : ∃ m, A.length = m := ⟨_, rfl⟩
  have r5 := S.ext.cell HH.out.2.2.2.1
  by_cases hjK : j < K
  ·obtain ⟨g, rfl⟩ : ∃ g, gk = g + 2 := ⟨gk - 2, by omega⟩
   have hjz : (j : Int) < (K : Int) := by omega
   have hj1 : j + 1 < x.kids.length := by rw [HH.out.2.2.2.2.2.1]; omega
   rw [evens_step _ j hj1] at hR
   obtain ⟨b5, o5, rfl, c5⟩ := HH.out.2.2.2.2.1 j (by omega)
   have hb := HH.out.2.1 j _ (List.getElem?_eq_getElem (by omega))
   have c5 := S.ext.cell c5
   generalize x.kids[j]'(by omega) = c at hR c5 hb
   obtain ⟨k, rfl⟩ : ∃ k : Nat, c = (k : Int) := ⟨c.toNat, by omega⟩
   have hk : k < l.length := by omega
   obtain ⟨b6, o6, e6, d1, d2, d3, d4, -⟩ := node_in (HH.out.1.ext S.ext) k hk
   cases e6
   have hkz : (k : Int) < (n : Int) := by have := HH.out.2.2.2.2.2.2; omega
   rw [List.map_cons] at hR
   obtain ⟨s, hs⟩ : ∃ s, (ndAt l (k : Int)).s = s := ⟨_, rfl⟩
   rw [hs] at d4 hR
   rw [hm] at hr0 hA ⊢
   have HX := Lib.hid (⟨S, hR, hr0, hm⟩ : _ ∧ _ ∧ _ ∧ _)
   clear S hR hr0 hm hb hs d1 d2 d3
   go_wp2_with (first | (at_builtin; refine wpList_append_lies _ rfl _ _ 55 rfl 0 9 i0 _ 1 16 Tryz.underlying55 hif hz0 hz1 hz2 rfl (by decide) (.slice ao3 m c3) m _ rfl (World.ownsRow.alloc HX.out.2.2.1 _) ⟨wr.heap.size, 0, none⟩ 1 1 [.string s] rfl rfl (cell_one_new _ _ _) (by simp [Value.oneCell']) (by decide) (by unfold maxLen; omega) (by omega) (by omega) (wr.heap.size + 1) (by simp) ?_; intro g6 cap2 w6 hown1 hgrow hat6 hlt6))
   have Pl := push_local (cap := cap2) (n := m + 1) hgrow hat6
   go_roundg g
   case measure => omega
   case rel =>
    have hl1 : (A ++ [s]).length = m + 1 := by rw [List.length_append, HX.out.2.2.2]; rfl
    refine ⟨j + 2, A ++ [s], by omega, by omega, by go_num, by omega, by rw [List.append_assoc]; exact HX.out.2.1, HX.out.1.upd 0 (oSl 9 1 (.slice (some ⟨g6, 0, none⟩) (m + 1) cap2) (A ++ [s]).length (stC (A ++ [s]))) rfl (by rw [HX.out.2.2.2]; exact Pl.1) (by rw [HX.out.2.2.2]; exact Pl.2) ?_⟩
    show World.ownsRow _ 0 9 1 _ _ _
    rw [hl1, stC, List.map_append]
    exact hown1
  ·obtain rfl : gk = 0 := by omega
   have hRA : A = R := by rw [← hR, List.drop_eq_nil_of_le (by rw [HH.out.2.2.2.2.2.1]; omega), evensN, List.map_nil, List.append_nil]
   subst hRA
   have HX := Lib.hid (⟨S.ext, strs_own hr0⟩ : _ ∧ _)
   clear hR S hr0 hA hm
   go_wp2_with fail
   go_ret
   exact ⟨_, rfl, HX.out.1, HX.out.2⟩
end Go.Proofs.YtljachhmdogkdaaGreatDoor.Tr
namespace Go.Proofs.YtljachhmdogkdaaGreatDoor.Tr
open Go.RowKit
def binF (L : List ByteArray) (s : ByteArray) : Nat → Nat → Nat → Nat
 | 0, i, _ => i
 | g + 1, i, j => if i < j then if cmpN (L.getD ((i + j) / 2) ⟨#[]⟩) s < 0 then binF L s g ((i + j) / 2 + 1) j else binF L s g i ((i + j) / 2) else i
def findN (L : List ByteArray) (s : ByteArray) : Nat := binF L s (L.length + 1) 0 L.length
def foundN (L : List ByteArray) (s : ByteArray) : Bool := decide (findN L s < L.length) && decide (cmpN (L.getD (findN L s) ⟨#[]⟩) s = 0)
theorem binF_le (L : List ByteArray) (s : ByteArray) : ∀ (g i j : Nat), i ≤ j → i ≤ binF L s g i j ∧ binF L s g i j ≤ j
 | 0, i, j, h => ⟨Nat.le_refl _, h⟩
 | g + 1, i, j, h => by
  rw [binF]
  split
  ·split
   ·have := binF_le L s g ((i + j) / 2 + 1) j (by omega); omega
   ·have := binF_le L s g i ((i + j) / 2) (by omega); omega
  ·omega
set_option maxRecDepth 100000 in
set_option maxHeartbeats 2000000 in
theorem fcmp_walk (a b : ByteArray) (w : World) : Calls Tryz.prog 151 #[.string a, .string b] w fun e w' => e = .returned (.int .i64 (cmpN a b)) ∧ Ext [] w w' := by
 have H := Lib.hid (fun w => Tryz.strings_Compare a b w)
 go_enter Tryz.func151, Tryz.ntmps151
 go_wp2_with fail
 refine (H.out _).mono ?_
 rintro e w' ⟨rfl, rfl⟩
 go_wp2_with fail
 go_ret
 exact ⟨rfl, Ext.refl _ _⟩
set_option maxRecDepth 100000 in
set_option maxHeartbeats 2000000 in
theorem bin_walk (v : Value) (L : List ByteArray) (s : ByteArray) (w : World) (h : StrsAt w v L) (hl : L.length ≤ 1048576) :
  Calls Tryz.prog 149 #[v, .string s, .func (.func 151) #[] #[]] w fun e w' => e = .returned (.tuple #[.int .i64 (findN L s : Nat), .bool (foundN L s)]) ∧ Ext [] w w' := by
 obtain ⟨base, cap, rfl, -, hT⟩ := h
 obtain ⟨n, hn⟩ : ∃ n, L.length = n := ⟨_, rfl⟩
 obtain ⟨F, hF⟩ : ∃ F, findN L s = F := ⟨_, rfl⟩
 have hFn : F ≤ n := by rw [← hF, ← hn]; exact (binF_le L s _ 0 L.length (by omega)).2
 have hfo : foundN L s = (decide (F < n) && decide (cmpN (L.getD F ⟨#[]⟩) s = 0)) := by rw [foundN, hF, hn]
 obtain ⟨Bo, hBo⟩ : ∃ Bo, foundN L s = Bo := ⟨_, rfl⟩
 rw [hF, hBo]
 rw [hBo] at hfo
 have HBO := Lib.hid hfo
 have hF2 : binF L s (n + 1) 0 n = F := by rw [← hF, findN, hn]
 have HH := Lib.hid (⟨hT, hn, hF2⟩ : _ ∧ _ ∧ _)
 rw [hn] at hl ⊢
 have hcell : ∀ (k : Nat), k < n → ∀ W, Ext [] w W → ∃ b o, base = some ⟨b, o, none⟩ ∧ W.cell? ⟨b, o + k, none⟩ = some (.string (L.getD k ⟨#[]⟩)) := fun k hk W hx => by
  obtain ⟨b, o, e, hc⟩ := hT k (by rw [hn]; exact hk)
  refine ⟨b, o, e, ?_⟩
  rw [hx.cell hc, List.getD_eq_getElem?_getD, List.getElem?_eq_getElem (by rw [hn]; exact hk)]
  rfl
 have HC := Lib.hid hcell
 clear hT hn hF hfo hF2 hcell hBo
 go_enter Tryz.func149, Tryz.ntmps149
 go_wp2_with fail
 go_loopg [9, 10, 11] n (fun g iv jv hv wr => ∃ i j g2 : Nat, j - i ≤ g ∧ g ≤ g2 ∧ i ≤ j ∧ j ≤ n ∧ iv = .int .i64 i ∧ jv = .int .i64 j ∧ binF L s (g2 + 1) i j = F ∧ Ext [] w wr)
 case atStart => exact ⟨0, n, n, by omega, by omega, by omega, by omega, rfl, rfl, HH.out.2.2, Ext.refl _ _⟩
 case round =>
  obtain ⟨i, j, g2, hg, hg2, hij, hjn, rfl, rfl, hB, hx⟩ := hrel
  by_cases hlt : i < j
  ·obtain ⟨g, rfl⟩ : ∃ g, gk = g + 1 := ⟨gk - 1, by omega⟩
   obtain ⟨g3, rfl⟩ : ∃ g3, g2 = g3 + 1 := ⟨g2 - 1, by omega⟩
   rw [binF, if_pos hlt] at hB
   obtain ⟨m, hm⟩ : ∃ m, (i + j) / 2 = m := ⟨_, rfl⟩
   rw [hm] at hB
   have hm1 : i ≤ m := by omega
   have hm2 : m < j := by omega
   have hltz : (i : Int) < (j : Int) := by omega
   have hmn : (m : Int) < (n : Int) := by omega
   obtain ⟨b, o, rfl, hc⟩ := HC.out m (by omega) wr hx
   have H := Lib.hid (fun W => fcmp_walk (L.getD m ⟨#[]⟩) s W)
   generalize L.getD m ⟨#[]⟩ = t at *
   obtain ⟨z, hz⟩ : ∃ z, cmpN t s = z := ⟨_, rfl⟩
   simp only [hz] at H hB
   have HX := Lib.hid (⟨hx, hB, hm⟩ : _ ∧ _ ∧ _)
   clear hx hB hm hz
   have hmz : ((i : Int) + (j : Int)) / 2 = (m : Int) := by have := HX.out.2.2; omega
   go_upto_region 5 with (fail)
   clear hmz
   go_wp2_with fail
   refine (H.out _).mono ?_
   rintro e w2 ⟨rfl, hx2⟩
   have HX2 := Lib.hid (HX.out.1.trans hx2)
   clear hx2 H hc
   by_cases hz0 : z < 0
   ·go_wp2_with fail
    go_roundg g
    case measure => omega
    case rel => exact ⟨m + 1, j, g3, by omega, by omega, by omega, by omega, by go_num, rfl, by have := HX.out.2.1; rwa [if_pos hz0] at this, HX2.out⟩
   ·go_wp2_with fail
    go_roundg g
    case measure => omega
    case rel => exact ⟨i, m, g3, by omega, by omega, by omega, by omega, rfl, rfl, by have := HX.out.2.1; rwa [if_neg (by omega)] at this, HX2.out⟩
  ·have hFi : F = i := by rw [← hB, binF, if_neg hlt]
   subst hFi
   have hltz : ¬ (F : Int) < (j : Int) := by omega
   have HX := Lib.hid hx
   clear hB hx
   by_cases hFN : F < n
   ·obtain ⟨b, o, rfl, hc⟩ := HC.out F hFN wr HX.out
    have H := Lib.hid (fun W => fcmp_walk (L.getD F ⟨#[]⟩) s W)
    have hFz : (F : Int) < (n : Int) := by omega
    have hQ := HBO.out
    rw [decide_eq_true hFN, Bool.true_and] at hQ
    generalize L.getD F ⟨#[]⟩ = t at *
    obtain ⟨z, hz⟩ : ∃ z, cmpN t s = z := ⟨_, rfl⟩
    simp only [hz] at H hQ
    clear hz
    subst hQ
    go_wp2_with fail
    refine (H.out _).mono ?_
    rintro e w2 ⟨rfl, hx2⟩
    have HX2 := Lib.hid (HX.out.trans hx2)
    clear hx2 H hc
    go_wp2_with fail
    go_ret2
    refine ⟨?_, HX2.out⟩
    by_cases q : z = 0 <;> simp [q]
   ·have hQ := HBO.out
    rw [decide_eq_false hFN, Bool.false_and] at hQ
    subst hQ
    have hFz : ¬ (F : Int) < (n : Int) := by omega
    go_wp2_with fail
    go_ret2
    exact ⟨rfl, HX.out⟩
theorem evens_len : ∀ (L : List Int), 2 * (evensN L).length = L.length + L.length % 2
 | [] => rfl
 | [k] => rfl
 | k :: m :: r => by
  have := evens_len r
  rw [evensN, List.length_cons, List.length_cons, List.length_cons]
  omega
theorem names_len {l : List Nd} (h : isN l 8 = true) : 2 * (namesN l).length = (ndAt l 0).kids.length := by
 have := evens_len (ndAt l 0).kids
 rw [root_even h] at this
 rw [namesN, h, if_pos rfl, List.length_map]
 omega
theorem root_len {l : List Nd} (hc : checkN l = 0) : (ndAt l 0).kids.length ≤ 65536 := by
 obtain ⟨h0, hn, E, D, hsh, -⟩ := check_zero hc
 obtain ⟨-, -, -, -, hE⟩ := shape_some hsh
 have h9 := (hE 0 h0).2
 have e : kidsAt l 0 = (ndAt l 0).kids := by
  have := ndAt_nat l 0 h0
  rw [show ((0 : Nat) : Int) = 0 from rfl] at this
  rw [this, kidsAt, List.getElem?_eq_getElem h0]
 rw [e] at h9
 omega
theorem names_small (l : List Nd) : (namesN l).length ≤ 65536 := by
 cases h : isN l 8 with
 | false => rw [namesN, h]; simp
 | true =>
  have h1 := names_len h
  have h2 := root_len (is_facts h).1
  omega
set_option maxRecDepth 100000 in
set_option maxHeartbeats 2000000 in
theorem find_walk (v : Value) (l : List Nd) (s : ByteArray) (w : World) (h : NodesAt w v l) (hl : Lt l) :
  Calls Tryz.prog 125 #[v, .string s] w fun e w' => e = .returned (.tuple #[.int .i64 (findN (namesN l) s : Nat), .bool (foundN (namesN l) s)]) ∧ Ext [] w w' := by
 have HN := Lib.hid (names_walk v l w h hl)
 have hsm := names_small l
 generalize namesN l = L at *
 have HB := Lib.hid (fun (u : Value) (W : World) (hu : StrsAt W u L) => bin_walk u L s W hu (by omega))
 obtain ⟨base, cap, rfl, -, -⟩ := h
 obtain ⟨F, hF⟩ : ∃ F, findN L s = F := ⟨_, rfl⟩
 obtain ⟨Bo, hBo⟩ : ∃ Bo, foundN L s = Bo := ⟨_, rfl⟩
 simp only [hF, hBo] at HB ⊢
 clear hF hBo hsm
 go_enter Tryz.func125, Tryz.ntmps125
 go_wp2_with fail
 refine HN.out.mono ?_
 rintro e w1 ⟨v2, rfl, hx, hS⟩
 have HB2 := Lib.hid (HB.out v2 w1 hS)
 have HX := Lib.hid hx
 clear hx hS HB HN
 go_wp2_with fail
 refine HB2.out.mono ?_
 rintro e w2 ⟨rfl, hx2⟩
 have HX2 := Lib.hid (HX.out.trans hx2)
 clear hx2 HB2 HX
 go_wp2_with fail
 go_ret2
 exact ⟨rfl, HX2.out⟩
def getN (l : List Nd) (s : ByteArray) : Option (List Nd) := if foundN (namesN l) s then some (subN l ((ndAt l 0).kids.getD (2 * findN (namesN l) s + 1) 0).toNat) else none
set_option maxRecDepth 100000 in
set_option maxHeartbeats 2000000 in
theorem get_walk (v : Value) (l : List Nd) (s : ByteArray) (w : World) (h : NodesAt w v l) (hl : Lt l) :
  Calls Tryz.prog 82 #[v, .string s] w fun e w' => ∃ v2, e = .returned (.tuple #[v2, .bool (getN l s).isSome]) ∧ Ext [] w w' ∧ NodesAt w' v2 ((getN l s).getD []) := by
 have HF := Lib.hid (find_walk v l s w h hl)
 cases hfo : foundN (namesN l) s with
 | false =>
  rw [hfo] at HF
  have hR : getN l s = none := by rw [getN, hfo]; rfl
  rw [hR]
  obtain ⟨base, cap, rfl, -, -⟩ := h
  obtain ⟨F, hF⟩ : ∃ F, findN (namesN l) s = F := ⟨_, rfl⟩
  rw [hF] at HF
  clear hR hfo hF
  go_enter Tryz.func82, Tryz.ntmps82
  go_wp2_with fail
  refine HF.out.mono ?_
  rintro e w1 ⟨rfl, hx⟩
  have HX := Lib.hid hx
  clear hx HF
  go_wp2_with fail
  go_ret2
  exact ⟨_, rfl, HX.out, none, 0, rfl, by simp, fun k hk => by cases hk⟩
 | true =>
 rw [hfo] at HF
 obtain ⟨F, hF⟩ : ∃ F, findN (namesN l) s = F := ⟨_, rfl⟩
 have hlt : F < (namesN l).length := by
  have := hfo
  rw [foundN, hF, Bool.and_eq_true] at this
  simpa using this.1
 have his : isN l 8 = true := by
  cases h8 : isN l 8 with
  | true => rfl
  | false => rw [namesN, h8] at hlt; simp at hlt
 obtain ⟨hc, -⟩ := is_facts his
 have hnl := names_len his
 have hrl := root_len hc
 have hrk := root_kids hc
 obtain ⟨h0, hn, E, D, hsh, -⟩ := check_zero hc
 have hkl : 2 * F + 1 < (ndAt l 0).kids.length := by omega
 have hcb := hrk (2 * F + 1) _ (List.getElem?_eq_getElem hkl)
 have hgd : (ndAt l 0).kids.getD (2 * F + 1) 0 = (ndAt l 0).kids[2 * F + 1]'hkl := by rw [List.getD_eq_getElem?_getD, List.getElem?_eq_getElem hkl]; rfl
 obtain ⟨k, hk⟩ : ∃ k : Nat, (ndAt l 0).kids[2 * F + 1]'hkl = (k : Int) := ⟨((ndAt l 0).kids[2 * F + 1]'hkl).toNat, by omega⟩
 have hR : getN l s = some (subN l k) := by rw [getN, hfo, if_pos rfl, hF, hgd, hk, Int.toNat_natCast]
 rw [hR]
 rw [hk] at hcb
 rw [hF] at HF
 have HSub := Lib.hid (fun W (hx : Ext [] w W) => sub_walk v l W (h.ext hx) k (by omega) hn (by rw [hsh]; simp))
 obtain ⟨base, cap, rfl, -, hN⟩ := h
 obtain ⟨b, o, rfl, hnd⟩ := node_in hN 0 h0
 rw [Nat.zero_mul, Nat.add_zero, show ((0 : Nat) : Int) = 0 from rfl] at hnd
 obtain ⟨-, -, -, -, -, rb, rc, r5, r6⟩ := hnd
 obtain ⟨b5, o5, rfl, c5⟩ := r6 (2 * F + 1) hkl
 rw [hk] at c5
 obtain ⟨K, hK⟩ : ∃ K, (ndAt l 0).kids.length = K := ⟨_, rfl⟩
 rw [hK] at r5 hkl hrl
 obtain ⟨n, hln⟩ : ∃ n, l.length = n := ⟨_, rfl⟩
 rw [hln] at HF HSub h0 ⊢
 have h0z : (0 : Int) < (n : Int) := by omega
 have hkz : 2 * (F : Int) + 1 < (K : Int) := by omega
 have HC := Lib.hid (⟨r5, c5⟩ : _ ∧ _)
 clear hR hfo hF hlt his hc hnl hrk hn hsh hcb hgd hk hN r5 c5 r6 hK hln hl h0
 go_enter Tryz.func82, Tryz.ntmps82
 go_wp2_with fail
 refine HF.out.mono ?_
 rintro e w1 ⟨rfl, hx⟩
 have HX := Lib.hid hx
 have HS2 := Lib.hid (HSub.out w1 hx)
 have r5 := hx.cell HC.out.1
 have c5 := hx.cell HC.out.2
 clear hx HF HSub HC
 go_wp2_with fail
 refine HS2.out.mono ?_
 rintro e w2 ⟨v2, rfl, hx2, hN2⟩
 have HX2 := Lib.hid (⟨HX.out.trans hx2, hN2⟩ : _ ∧ _)
 clear hx2 hN2 HS2 HX r5 c5
 go_wp2_with fail
 go_ret2
 exact ⟨_, rfl, HX2.out.1, HX2.out.2⟩
end Go.Proofs.YtljachhmdogkdaaGreatDoor.Tr
namespace Go.Proofs.YtljachhmdogkdaaGreatDoor.Tr
open Go.RowKit
def refsN (l : List Nd) : List (Int × Int) := if checkN l = 0 then (l.filter fun x => decide (x.kind = 9)).map fun x => (x.n, x.gen) else []
def rfC (l : List (Int × Int)) : List Value := l.flatMap fun p => [.int .i64 p.1, .int .i64 p.2]
theorem rfC_append (a b : List (Int × Int)) : rfC (a ++ b) = rfC a ++ rfC b := by unfold rfC; rw [List.flatMap_append]
theorem infoRef17 : (Tryz.prog.info? 24).map (fun i => (i.zero, i.size, i.bytes)) = some (some (.agg #[.int .i64 0, .int .i64 0]), 2, 16) := by kernel_rfl
theorem rfC_at : ∀ (l : List (Int × Int)) (i : Nat) (h : i < l.length), (rfC l)[i * 2]? = some (.int .i64 (l[i]'h).1) ∧ (rfC l)[i * 2 + 1]? = some (.int .i64 (l[i]'h).2)
 | [], i, h => by simp at h
 | p :: l, i, h => by
  have e : rfC (p :: l) = .int .i64 p.1 :: .int .i64 p.2 :: rfC l := by simp [rfC]
  rw [e]
  cases i with
  | zero => exact ⟨rfl, rfl⟩
  | succ i =>
   rw [show (i + 1) * 2 = i * 2 + 2 by omega]
   exact rfC_at l i (by simpa using h)
theorem cells_two9 (w : World) (x y : Value) (t : TypeId) (f : Nat × Nat := (0, 0)) : ∀ j u, [x, y][j]? = some u → (w.alloc (.cells #[x, y] t f)).cell? ((⟨w.heap.size, 0, none⟩ : Addr).add j) = some u := by
 intro j u h
 have e : (⟨w.heap.size, 0, none⟩ : Addr).add j = ⟨w.heap.size, j, none⟩ := by unfold Addr.add; split <;> simp_all
 rw [e, cellOf (heap_alloc_at _), ← h]
 simp
end Go.Proofs.YtljachhmdogkdaaGreatDoor.Tr
namespace Go.Proofs.YtljachhmdogkdaaGreatDoor.Tr
open Go.RowKit
def nullNd : Nd := ⟨1, 0, 0, ⟨#[]⟩, []⟩
def numNd (n : Int) : Nd := ⟨3, n, 0, ⟨#[]⟩, []⟩
def exL : List Nd := [⟨8, 0, 0, ⟨#[]⟩, [1, 2, 3, 4]⟩, nameNd ⟨#[65]⟩, nullNd, nameNd ⟨#[66]⟩, numNd 1]
end Go.Proofs.YtljachhmdogkdaaGreatDoor.Tr
namespace Go.Proofs.YtljachhmdogkdaaGreatDoor.Tr
open Go.RowKit
theorem one_nodes {w : World} {g : Nat} {x : Nd} (h : w.heap[g]? = some (.cells #[.int .i64 x.kind, .int .i64 x.n, .int .i64 x.gen, .string x.s, .slice none 0 0] 41)) (hk : x.kids = []) (hn : -9223372036854775808 ≤ x.n ∧ x.n ≤ 9223372036854775807) (hs : x.s.size ≤ 9223372036854775807) :
  NodesAt w (.slice (some ⟨g, 0, none⟩) 1 1) [x] :=
 ⟨_, 1, rfl, Nat.le_refl _, fun i hi => by
  obtain rfl : i = 0 := by simpa using hi
  exact ⟨g, 0, rfl, cellOf h 0, cellOf h 1, cellOf h 2, cellOf h 3, ⟨hn, hs, by show x.kids.length ≤ _; rw [hk]; exact Nat.zero_le _, fun k hk2 => by rw [show ([x][0]'hi).kids = [] from hk] at hk2; cases hk2⟩, none, 0, by rw [show ([x][0]'hi).kids = [] from hk]; exact cellOf h 4, fun i hi2 => by rw [show ([x][0]'hi).kids = [] from hk] at hi2; cases hi2⟩⟩
end Go.Proofs.YtljachhmdogkdaaGreatDoor.Tr
