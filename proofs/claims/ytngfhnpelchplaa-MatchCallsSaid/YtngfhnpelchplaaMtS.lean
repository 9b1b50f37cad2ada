/-
  MatchNames and MatchFirst walked.
-/
import Derived.Test.YtngfhnpelchplaaMtQ
import Derived.Deep.Strs
namespace Go.Proofs.Ytngfhnpelchplaa.Mt
open Go.RowKit
open Go.ChangeShapes Go.WideShapes

theorem exn_1 : findI ⟨#[97, 98, 99, 97, 98, 99, 97, 98, 99]⟩ 6 = (3, 3) := by decide +kernel
theorem exn_2 : findI ⟨#[97, 98, 97, 98]⟩ 2 = (0, 0) := by decide +kernel
theorem exn_3 : expN [(0, 3, 1)] 9 = ([], 4) := by decide +kernel
theorem exn_4 : expN [(97, 0, 0), (0, 258, 1)] 258 = ([], 3) := by decide +kernel
theorem exn_5 : expN [(97, 0, 0), (0, 3, 1)] 4 = ([97, 97, 97, 97], 0) := by decide +kernel
theorem exn_6 : chkN [(0, 2, 1)] = 2 := by decide +kernel
theorem exn_7 : chkN [(1, 3, 1)] = 2 := by decide +kernel
theorem exn_8 : sizN [(97, 0, 0), (0, 3, 1)] = 4 := by decide +kernel
theorem exn_9 : allN ByteArray.empty = [] := by decide +kernel
set_option maxRecDepth 100000 in
set_option maxHeartbeats 8000000 in
theorem names_law (w : World) : Calls Try.prog 6 #[] w fun e w' => e = .returned (.bool true) ∧ Ext [] w w' := by
  go_enter Try.func6, Try.ntmps6
  go_wp2_with fail
  refine (Find_walk _ _ _ (by decide)).mono ?_
  rw [exn_1]
  rintro e w1 ⟨rfl, hx⟩
  have HX := Lib.hid hx
  clear hx
  go_wp2_with fail
  refine (Find_walk _ _ _ (by decide)).mono ?_
  rw [exn_2]
  rintro e w2 ⟨rfl, hx⟩
  have HX := Lib.hid (HX.out.trans hx)
  clear hx
  go_wp2_with fail
  refine (Expand_walk _ [(0, 3, 1)] _ _ (PcAt.of_block _ _ rfl (heap_alloc_at _) rfl) (by decide)).mono ?_
  rw [exn_3]
  rintro e w3 ⟨rfl, hx⟩
  have HX := Lib.hid ((HX.out.alloc _).trans hx)
  clear hx
  go_wp2_with fail
  refine (Expand_walk _ [(97, 0, 0), (0, 258, 1)] _ _ (PcAt.of_block _ _ rfl (heap_alloc_at _) rfl) (by decide)).mono ?_
  rw [exn_4]
  rintro e w4 ⟨rfl, hx⟩
  have HX := Lib.hid ((HX.out.alloc _).trans hx)
  clear hx
  go_wp2_with fail
  refine (Expand_walk _ [(97, 0, 0), (0, 3, 1)] _ _ (PcAt.of_block _ _ rfl (heap_alloc_at _) rfl) (by decide)).mono ?_
  rw [exn_5]
  rintro e w5 ⟨rfl, hx⟩
  have HX := Lib.hid ((HX.out.alloc _).trans hx)
  clear hx
  go_wp2_with fail
  refine (lives09 _).mono ?_
  rintro e w6 ⟨rfl, hx⟩
  have HX := Lib.hid (HX.out.trans hx)
  clear hx
  go_wp2_with fail
  refine (Check_walk _ [(0, 2, 1)] _ (PcAt.of_block _ _ rfl (heap_alloc_at _) rfl) (by decide)).mono ?_
  rw [exn_6]
  rintro e w7 ⟨rfl, hx⟩
  have HX := Lib.hid ((HX.out.alloc _).trans hx)
  clear hx
  go_wp2_with fail
  refine (Check_walk _ [(1, 3, 1)] _ (PcAt.of_block _ _ rfl (heap_alloc_at _) rfl) (by decide)).mono ?_
  rw [exn_7]
  rintro e w8 ⟨rfl, hx⟩
  have HX := Lib.hid ((HX.out.alloc _).trans hx)
  clear hx
  go_wp2_with fail
  refine (Size_walk _ [(97, 0, 0), (0, 3, 1)] _ (PcAt.of_block _ _ rfl (heap_alloc_at _) rfl) (by decide)).mono ?_
  rw [exn_8]
  rintro e w9 ⟨rfl, hx⟩
  have HX := Lib.hid ((HX.out.alloc _).trans hx)
  clear hx
  go_wp2_with fail
  refine (All_pc _ _ (by decide)).mono ?_
  rintro e w10 ⟨v, rfl, hx, hP⟩
  rw [show (ByteArray.mk #[]) = ByteArray.empty from rfl, exn_9] at hP
  obtain ⟨ao, cap, rfl⟩ := hP.slice
  have HX := Lib.hid (HX.out.trans hx)
  clear hx hP
  go_wp2_with fail
  go_ret
  exact ⟨rfl, HX.out⟩

/-! ### the argument -/
theorem cellsPiece : Try.prog.cellsOf 34 = 3 := by kernel_rfl
theorem cellsByte9 : Try.prog.cellsOf 5 = 1 := by kernel_rfl
theorem cellsInt9 : Try.prog.cellsOf 3 = 1 := by kernel_rfl
def PcArg (w : World) (v : Value) (l : List Pc) : Prop := PcAt w v l ∧ ∃ ao cap, v = .slice ao l.length cap ∧ l.length ≤ cap ∧ cap ≤ maxLen ∧ (ao = none → cap = 0)
theorem open_pcs {H : Type} {enc : TypeId × Value → H} {w : World} {base : Nat} {sp : Nat → Bool} {held : Bool} {r : Reach} {b0 : Nat} {v : Value} {d : DataW H} {ps : List MemPlace} (hval : Value.okWide Try.prog w r b0 23 v) (hd : DataW.Trod enc Try.prog w base sp held 23 v d ps) :
    ∃ l, PcArg w v l := by
  obtain ⟨a0, len0, cap0, rfl⟩ := okWide_slice Try.underlying23 hval
  obtain ⟨fuel, hf⟩ := hd
  simp only [Value.cells] at hf
  rcases Go.Deep.open_slice Try.underlying23 hf with ⟨hc, _⟩ | ⟨a, len, cap, m, n, D, Pl, hc, _, hl, hm, hmm, _, hx⟩
  · obtain ⟨rfl, rfl, rfl⟩ : a0 = none ∧ len0 = 0 ∧ cap0 = 0 := by simpa using hc
    exact ⟨[], ⟨none, 0, rfl, fun h => absurd h (Nat.lt_irrefl 0)⟩, none, 0, rfl, Nat.le_refl _, by unfold maxLen; omega, fun _ => rfl⟩
  · obtain ⟨rfl, rfl, rfl⟩ : a0 = some a ∧ len0 = len ∧ cap0 = cap := by simpa using hc
    have hlm : len0 ≤ m := by rw [hmm]; split <;> omega
    have each : ∀ i, i < len0 → ∃ q : Pc, w.cell? (a.add (i * 3)) = some (u8v q.1) ∧ w.cell? ((a.add (i * 3)).add 1) = some (.int .i64 q.2.1) ∧ w.cell? ((a.add (i * 3)).add 2) = some (.int .i64 q.2.2) := by
      intro i hi
      obtain ⟨cs', h1, h2⟩ := hx i (by omega)
      rw [cellsPiece] at h1
      obtain ⟨_, hlen, hcell⟩ := World.cells?_some h1
      obtain ⟨y0, y1, y2, k, _, _, g0, g1, g2⟩ := Go.Deep.trod_struct3 Try.underlying34 h2
      match cs', hlen with
      | [v0, v1, v2], _ =>
        have e0 := hcell 0 (by omega)
        have e1 := hcell 1 (by omega)
        have e2 := hcell 2 (by omega)
        simp [cellsByte9, cellsInt9] at g0 g1 g2
        obtain ⟨p, hp, _, hpw⟩ := DataW.trod_int Try.underlying5 g0
        obtain ⟨q, hq, _, _⟩ := DataW.trod_int Try.underlying3 g1
        obtain ⟨s, hs, _, _⟩ := DataW.trod_int Try.underlying3 g2
        obtain ⟨x, rfl⟩ := Kt.wf_u8 hpw
        simp only [List.cons.injEq, and_true] at hp hq hs
        subst hp hq hs
        exact ⟨(x, q, s), by rw [show (a.add (i * 3)).add 0 = a.add (i * 3) from by simp [Addr.add]] at e0; simpa using e0, by simpa using e1, by simpa using e2⟩
    obtain ⟨f, hf⟩ := Go.Deep.choose_lt each
    have hfl : ((List.range len0).map f).length = len0 := by simp
    refine ⟨(List.range len0).map f, ⟨some a, cap0, by rw [hfl], fun hn => ?_⟩, some a, cap0, by rw [hfl], by rw [hfl]; exact hl, hm, fun h => by cases h⟩
    rw [hfl] at hn
    have hspot : a.spot = none := by simpa [Addr.add] using World.cell?_spot (hf 0 hn).1
    obtain ⟨b, off, sp0⟩ := a
    obtain rfl : sp0 = none := hspot
    refine ⟨b, off, rfl, fun i x hi => ?_⟩
    have hi0 : i < len0 := by have := (List.getElem?_eq_some_iff.1 hi).1; omega
    rw [List.getElem?_map, List.getElem?_range hi0] at hi
    obtain rfl : f i = x := by simpa using hi
    obtain ⟨h0, h1, h2⟩ := hf i hi0
    have ad : ∀ k, (⟨b, off, none⟩ : Addr).add k = ⟨b, off + k, none⟩ := fun k => by unfold Addr.add; split <;> simp_all
    have ad2 : ∀ o k, (⟨b, o, none⟩ : Addr).add k = ⟨b, o + k, none⟩ := fun o k => by unfold Addr.add; split <;> simp_all
    rw [ad] at h0
    rw [ad, ad2] at h1 h2
    exact ⟨h0, h1, h2⟩
theorem PcAt.take {w : World} {ao : Option Addr} {n cap : Nat} {l : List Pc} (h : PcAt w (.slice ao n cap) l) (c : Nat) (hc : c ≤ l.length) (cap2 : Nat) : PcAt w (.slice ao c cap2) (l.take c) := by
  obtain ⟨ao2, cap3, he, h⟩ := h
  injection he with h1 h2 h3
  subst h1
  have hl : (l.take c).length = c := by rw [List.length_take]; omega
  refine ⟨ao, cap2, by rw [hl], fun hn => ?_⟩
  obtain ⟨b, off, rfl, h2⟩ := h (by omega)
  refine ⟨b, off, rfl, fun i x hi => h2 i x ?_⟩
  rw [List.getElem?_take] at hi
  split at hi
  · exact hi
  · cases hi
/-! ### the first pieces, plain -/
theorem bad_take (l : List Pc) (c : Nat) (h : badN l = false) : badN (l.take c) = false := by
  unfold badN at *
  rw [List.any_eq_false] at *
  exact fun x hx => h x (List.mem_of_mem_take hx)
theorem chk_take : ∀ (l : List Pc) (c : Nat) (n : Int), chkL l n = 0 → chkL (l.take c) n = 0
  | [], c, n, h => by simp [chkL]
  | p :: l, 0, n, h => rfl
  | p :: l, c + 1, n, h => by
    rw [List.take_succ_cons, chkL]
    rw [chkL] at h
    by_cases hd : n < p.2.2
    · rw [if_pos hd] at h; cases h
    · rw [if_neg hd] at h ⊢
      exact chk_take l c _ h
theorem chkN_take (l : List Pc) (c : Nat) (h : chkN l = 0) : chkN (l.take c) = 0 := by
  obtain ⟨h1, h2⟩ := chk_zero h
  unfold chkN
  rw [bad_take l c h1]
  exact chk_take l c 0 h2
theorem repF_pre (d : Nat) : ∀ k o, ∃ u, repF d k o = o ++ u
  | 0, o => ⟨[], by rw [repF, List.append_nil]⟩
  | k + 1, o => by
    obtain ⟨u, hu⟩ := repF_pre d k (o ++ [o.getD (o.length - d) 0])
    exact ⟨_, by rw [repF, hu, List.append_assoc]⟩
theorem expL_pre : ∀ (l : List Pc) (o : List UInt8), ∃ u, expL l o = o ++ u
  | [], o => ⟨[], by rw [expL, List.append_nil]⟩
  | p :: l, o => by
    rw [expL]
    split
    · obtain ⟨u, hu⟩ := expL_pre l (o ++ [p.1])
      exact ⟨_, by rw [hu, List.append_assoc]⟩
    · obtain ⟨u, hu⟩ := repF_pre p.2.2.toNat p.2.1.toNat o
      obtain ⟨x, hx⟩ := expL_pre l (repF p.2.2.toNat p.2.1.toNat o)
      exact ⟨_, by rw [hx, hu, List.append_assoc]⟩
theorem expL_app : ∀ (l m : List Pc) (o : List UInt8), expL (l ++ m) o = expL m (expL l o)
  | [], m, o => rfl
  | p :: l, m, o => by
    rw [List.cons_append, expL, expL]
    split
    · exact expL_app l m _
    · exact expL_app l m _
theorem expL_len : ∀ (l : List Pc) (o : List UInt8), badN l = false → ((expL l o).length : Int) = sumL l o.length
  | [], o, _ => rfl
  | p :: l, o, h => by
    unfold badN at h
    rw [List.any_cons, Bool.or_eq_false_iff] at h
    have hm := mayP_iff p (by simpa using h.1)
    rw [expL, sumL]
    by_cases h0 : p.2.1 = 0
    · rw [if_pos h0, expL_len l _ h.2, h0]
      congr 1
      have : (o ++ [p.1]).length = o.length + 1 := by simp
      omega
    · rw [if_neg h0, expL_len l _ h.2, repF_len]
      congr 1
      omega
theorem first_plain (l : List Pc) (c : Nat) (h : chkN l = 0) (hl : l.length ≤ 60) : expN l 15480 = (expL l [], 0) ∧ expN (l.take c) 15480 = (expL (l.take c) [], 0) ∧ sizN l = ((expL l []).length : Int) ∧ sizN (l.take c) = ((expL (l.take c) []).length : Int) ∧
    ∃ u, expL l [] = expL (l.take c) [] ++ u := by
  have h' := chkN_take l c h
  obtain ⟨h1, h2⟩ := chk_zero h
  obtain ⟨h3, h4⟩ := chk_zero h'
  have s1 := sum_le l 0 h1 (Int.le_refl 0)
  have s2 := sum_le (l.take c) 0 h3 (Int.le_refl 0)
  have hl2 : (l.take c).length ≤ 60 := Nat.le_trans (List.length_take_le' _ _) hl
  refine ⟨?_, ?_, ?_, ?_, ?_⟩
  · unfold expN; rw [if_pos h, if_neg (by omega), if_neg (by omega)]
  · unfold expN; rw [if_pos h', if_neg (by omega), if_neg (by omega)]
  · unfold sizN; rw [if_pos h, expL_len l [] h1]; rfl
  · unfold sizN; rw [if_pos h', expL_len (l.take c) [] h3]; rfl
  · obtain ⟨u, hu⟩ := expL_pre (l.drop c) (expL (l.take c) [])
    exact ⟨u, by rw [← hu, ← expL_app, List.take_append_drop]⟩
set_option maxHeartbeats 4000000 in
theorem begins_walk (a b : List UInt8) (u : List UInt8) (w : World) (h : a = b ++ u) :
    Calls Try.prog 16 #[.string ⟨a.toArray⟩, .string ⟨b.toArray⟩] w fun e w' => e = .returned (.bool true) ∧ w = w' := by
  have e : (ByteArray.mk a.toArray).extract 0 (ByteArray.mk b.toArray).size = ByteArray.mk b.toArray := by
    apply ByteArray.ext
    rw [ByteArray.data_extract]
    apply Array.ext'
    rw [Array.toList_extract, h]
    simp [List.extract, ByteArray.size]
  have hle : (ByteArray.mk b.toArray).size ≤ (ByteArray.mk a.toArray).size := by simp [ByteArray.size, h]
  generalize ByteArray.mk a.toArray = x at *
  generalize ByteArray.mk b.toArray = y at *
  have h1 : (y.size : Int) ≤ (x.size : Int) := by omega
  clear h
  go_enter Try.func16, Try.ntmps16
  go_wp2_with fail
  go_ret
  exact ⟨by simp, rfl⟩
set_option maxRecDepth 100000 in
set_option maxHeartbeats 8000000 in
theorem first_law (v : Value) (n : Int) (w : World) (hv : ∃ l, PcArg w v l) (wn : (Lit.int .i64 n).wf = true) :
    Calls Try.prog 5 #[v, .int .i64 n] w fun e w' => e = .returned (.bool true) ∧ Ext [] w w' := by
  obtain ⟨n0, n1⟩ := Kt.wf_i64 wn
  clear wn
  obtain ⟨l, hP, ao, cap, rfl, hcap, hcm, hnil⟩ := hv
  unfold maxLen at hcm
  have HP := Lib.hid hP
  clear hP
  by_cases h6 : l.length ≤ 60
  · have h6' : ¬ 60 < l.length := by omega
    have h6'' : (l.length : Int) ≤ 60 := by omega
    by_cases hc : chkN l = 0
    · obtain ⟨c, hcn⟩ : ∃ c : Nat, n % ((l.length : Int) + 1) = c := ⟨(n % ((l.length : Int) + 1)).toNat, by have := Int.emod_nonneg n (show ((l.length : Int) + 1) ≠ 0 by omega); omega⟩
      have hcl : c ≤ l.length := by have := Int.emod_lt_of_pos n (show (0 : Int) < (l.length : Int) + 1 by omega); omega
      have HCN := Lib.hid hcn
      obtain ⟨f1, f2, f3, f4, u, f5⟩ := first_plain l c hc h6
      have htl : (l.take c).length ≤ 60 := Nat.le_trans (List.length_take_le' _ _) h6
      have HK := Lib.hid (fun w h => Check_walk (.slice ao l.length cap) l w h (by omega))
      have HE1 := Lib.hid (fun w h => Expand_walk (.slice ao l.length cap) l 15480 w h (by omega))
      have HE2 := Lib.hid (fun w h => Expand_walk (.slice ao c cap) (l.take c) 15480 w h (by omega))
      have HS1 := Lib.hid (fun w h => Size_walk (.slice ao l.length cap) l w h (by omega))
      have HS2 := Lib.hid (fun w h => Size_walk (.slice ao c cap) (l.take c) w h (by omega))
      rw [hc] at HK
      rw [f1] at HE1
      rw [f2] at HE2
      rw [f3] at HS1
      rw [f4] at HS2
      have HQ := Lib.hid (HP.out.take c hcl cap)
      obtain ⟨x, hx⟩ : ∃ x, expL l [] = x := ⟨_, rfl⟩
      obtain ⟨y, hy⟩ : ∃ y, expL (l.take c) [] = y := ⟨_, rfl⟩
      rw [hx, hy] at f5
      rw [hx] at HE1 HS1
      rw [hy] at HE2 HS2
      have HB := Lib.hid (fun w => begins_walk x y u w f5)
      have hcI : (0 : Int) ≤ (c : Int) := by omega
      have hcI2 : (c : Int) ≤ (cap : Int) := by omega
      have hxs : (ByteArray.mk x.toArray).size = x.length := by simp [ByteArray.size]
      have hys : (ByteArray.mk y.toArray).size = y.length := by simp [ByteArray.size]
      clear hc f1 f2 f3 f4 f5 hx hy hcn htl
      go_enter Try.func5, Try.ntmps5
      go_wp2_with fail
      refine (lives09 w).mono ?_
      rintro e w1 ⟨rfl, hx1⟩
      have HX := Lib.hid hx1
      clear hx1
      go_wp2_with fail
      refine (HK.out _ (HP.out.ext HX.out)).mono ?_
      rintro e w2 ⟨rfl, hx2⟩
      have HX := Lib.hid (HX.out.trans hx2)
      clear hx2 HK
      go_wp2_with fail
      refine (Kt.pick_any n ((l.length : Int) + 1) _ (by omega) (by omega) n0 n1).mono ?_; rintro e w3 ⟨rfl, rfl⟩
      rw [HCN.out]
      go_wp2_with fail
      refine (HE1.out _ (HP.out.ext HX.out)).mono ?_
      rintro e w3 ⟨rfl, hx3⟩
      have HX := Lib.hid (HX.out.trans hx3)
      clear hx3 HE1
      cases ao with
      | none =>
        obtain rfl : cap = 0 := hnil rfl
        obtain rfl : c = 0 := by omega
        go_wp2_with fail
        refine (HE2.out _ (HQ.out.ext HX.out)).mono ?_
        rintro e w4 ⟨rfl, hx4⟩
        have HX := Lib.hid (HX.out.trans hx4)
        clear hx4 HE2
        go_wp2_with fail
        refine (HB.out _).mono ?_
        rintro e w5 ⟨rfl, rfl⟩
        go_wp2_with fail
        refine (HS1.out _ (HP.out.ext HX.out)).mono ?_
        rintro e w6 ⟨rfl, hx6⟩
        have HX := Lib.hid (HX.out.trans hx6)
        clear hx6 HS1
        go_wp2_with fail
        refine (HS2.out _ (HQ.out.ext HX.out)).mono ?_
        rintro e w7 ⟨rfl, hx7⟩
        have HX := Lib.hid (HX.out.trans hx7)
        clear hx7 HS2
        go_wp2_with fail
        go_ret
        exact ⟨rfl, HX.out⟩
      | some a =>
        obtain ⟨ab, ao, asp⟩ := a
        go_wp2_with fail
        refine (HE2.out _ (HQ.out.ext HX.out)).mono ?_
        rintro e w4 ⟨rfl, hx4⟩
        have HX := Lib.hid (HX.out.trans hx4)
        clear hx4 HE2
        go_wp2_with fail
        refine (HB.out _).mono ?_
        rintro e w5 ⟨rfl, rfl⟩
        go_wp2_with fail
        refine (HS1.out _ (HP.out.ext HX.out)).mono ?_
        rintro e w6 ⟨rfl, hx6⟩
        have HX := Lib.hid (HX.out.trans hx6)
        clear hx6 HS1
        go_wp2_with fail
        refine (HS2.out _ (HQ.out.ext HX.out)).mono ?_
        rintro e w7 ⟨rfl, hx7⟩
        have HX := Lib.hid (HX.out.trans hx7)
        clear hx7 HS2
        go_wp2_with fail
        go_ret
        exact ⟨rfl, HX.out⟩
    · have hne := hc
      have HK := Lib.hid (fun w h => Check_walk (.slice ao l.length cap) l w h (by omega))
      generalize chkN l = e at *
      have q1 : (e == 0) = false := beq_eq_false_iff_ne.2 hne
      have q2 : (e != 0) = true := by simpa using hne
      clear hc hne
      go_enter Try.func5, Try.ntmps5
      go_wp2_with fail
      refine (lives09 w).mono ?_
      rintro e w1 ⟨rfl, hx1⟩
      have HX := Lib.hid hx1
      clear hx1
      go_wp2_with fail
      refine (HK.out _ (HP.out.ext HX.out)).mono ?_
      rintro e w2 ⟨rfl, hx2⟩
      have HX := Lib.hid (HX.out.trans hx2)
      clear hx2
      go_wp2_with fail
      go_ret
      exact ⟨rfl, HX.out⟩
  · have h6' : 60 < l.length := by omega
    go_enter Try.func5, Try.ntmps5
    go_wp2_with fail
    refine (lives09 w).mono ?_
    rintro e w1 ⟨rfl, hx1⟩
    go_wp2_with fail
    go_ret
    exact ⟨rfl, hx1⟩
end Go.Proofs.Ytngfhnpelchplaa.Mt
