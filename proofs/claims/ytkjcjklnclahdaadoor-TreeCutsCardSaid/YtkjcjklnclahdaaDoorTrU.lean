/-
  tree: is, End, Sub, Depth walked.
-/
import Derived.Test.YtkjcjklnclahdaaDoorTrM
namespace Go.Proofs.YtkjcjklnclahdaaDoor.Tr
open Go.RowKit

def endsN (l : List Nd) : List Int := match shapeN l with | some (E, _) => E | none => []
def depsN (l : List Nd) : List Int := match shapeN l with | some (_, D) => D | none => []
def isN (l : List Nd) (kind : Int) : Bool := decide (checkN l = 0 ∧ (ndAt l 0).kind = kind)
def endN (l : List Nd) (i : Int) : Int := if checkN l = 0 ∧ 0 ≤ i ∧ i < l.length then (endsN l).getD i.toNat 0 else 0
def subXN (l : List Nd) (i : Int) : List Nd := if checkN l = 0 ∧ 0 ≤ i ∧ i < l.length then subN l i.toNat else []
def depthN (l : List Nd) : Int := if checkN l = 0 then Lib.maxOf (depsN l) else 0
/-- a tree that is light enough to be looked at -/
structure Lt (l : List Nd) : Prop where
  len : l.length ≤ 9223372036854775807
  s : ∀ x ∈ l, x.s.size ≤ 1000000
set_option maxRecDepth 100000 in
set_option maxHeartbeats 1000000 in
theorem is_walk (v : Value) (l : List Nd) (kind : Int) (w : World) (h : NodesAt w v l) (hl : Lt l) :
    Calls Tryd.prog 50 #[v, .int .i64 kind] w fun e w' => e = .returned (.bool (isN l kind)) ∧ Ext [] w w' := by
  have HC := Lib.hid (check_walk v l w h hl.len hl.s)
  obtain ⟨c, hc⟩ : ∃ c, checkN l = c := ⟨_, rfl⟩
  rw [hc] at HC
  by_cases c0 : c = 0
  · subst c0
    obtain ⟨h0, -⟩ := check_zero hc
    obtain ⟨base, cap, rfl, -, hN⟩ := h
    obtain ⟨b, o, rfl, n1, -⟩ := node_in hN 0 h0
    rw [Nat.zero_mul, Nat.add_zero] at n1
    have hR : isN l kind = decide ((ndAt l ((0 : Nat) : Int)).kind = kind) := by rw [isN, hc]; simp
    rw [hR]
    have h0z : (0 : Int) < (l.length : Int) := by omega
    obtain ⟨k, hk⟩ : ∃ k, (ndAt l ((0 : Nat) : Int)).kind = k := ⟨_, rfl⟩
    rw [hk] at n1 ⊢
    have HN := Lib.hid n1
    clear hR hc hN hk
    go_enter Tryd.func50, Tryd.ntmps50
    go_wp2_with fail
    refine HC.out.mono ?_
    rintro e w1 ⟨rfl, hx⟩
    have n2 := hx.cell n1
    have HX := Lib.hid hx
    clear hx HC n1
    go_wp2_with fail
    go_ret
    refine ⟨?_, HX.out⟩
    by_cases q : k = kind <;> simp [q]
  · have hR : isN l kind = false := by rw [isN, hc]; simp [c0]
    rw [hR]
    obtain ⟨base, cap, rfl, -, -⟩ := h
    have hcb : (c == 0) = false := beq_eq_false_iff_ne.2 c0
    clear hR hc
    go_enter Tryd.func50, Tryd.ntmps50
    go_wp2_with fail
    refine HC.out.mono ?_
    rintro e w1 ⟨rfl, hx⟩
    have HX := Lib.hid hx
    clear hx HC
    go_wp2_with fail
    go_ret
    exact ⟨rfl, HX.out⟩
set_option maxRecDepth 100000 in
set_option maxHeartbeats 1000000 in
theorem depth_walk (v : Value) (l : List Nd) (w : World) (h : NodesAt w v l) (hl : Lt l) :
    Calls Tryd.prog 22 #[v] w fun e w' => e = .returned (.int .i64 (depthN l)) ∧ Ext [] w w' := by
  have HC := Lib.hid (check_walk v l w h hl.len hl.s)
  obtain ⟨c, hc⟩ : ∃ c, checkN l = c := ⟨_, rfl⟩
  rw [hc] at HC
  by_cases c0 : c = 0
  · subst c0
    obtain ⟨h0, hn, E, D, hsh, -⟩ := check_zero hc
    obtain ⟨-, -, hD, -⟩ := shape_some hsh
    have HS := Lib.hid (fun w1 (hx : Ext [] w w1) => shape_walk v l w1 (h.ext hx) hn)
    rw [hsh] at HS
    have hR : depthN l = Lib.maxOf D := by rw [depthN, if_pos hc, depsN, hsh]
    obtain ⟨M, hMx⟩ : ∃ M, Lib.maxOf D = M := ⟨_, rfl⟩
    rw [hR, hMx]
    have HMX := Lib.hid hMx
    obtain ⟨base, cap, rfl, -, -⟩ := h
    clear hR hc hsh hMx
    go_enter Tryd.func22, Tryd.ntmps22
    go_wp2_with fail
    refine HC.out.mono ?_
    rintro e w1 ⟨rfl, hx⟩
    have HX := Lib.hid hx
    have HS2 := Lib.hid (HS.out w1 hx)
    clear hx HC HS
    go_wp2_with fail
    refine HS2.out.mono ?_
    rintro e w2 ⟨ev, dv, rfl, hx2, -, ⟨db, dc, rfl, hI⟩⟩
    obtain ⟨b2, o2, rfl, -⟩ := hI 0 (by omega)
    have hM := Tryd.slices_Max_int b2 o2 D.length dc D w2 (by omega) (Nat.le_refl _) (by omega) (fun j hj => by
      obtain ⟨b3, o3, e3, hc⟩ := hI j hj
      cases e3
      rw [hc, List.getD_eq_getElem?_getD, List.getElem?_eq_getElem hj]
      rfl)
    rw [List.take_length, hD, HMX.out] at hM
    rw [hD]
    have HM := Lib.hid hM
    have HX2 := Lib.hid (HX.out.trans hx2)
    clear hM hI hx2 HX HS2 hD
    go_wp2_with fail
    refine HM.out.mono ?_
    rintro e w3 ⟨rfl, rfl⟩
    go_wp2_with fail
    go_ret
    exact ⟨rfl, HX2.out⟩
  · have hR : depthN l = 0 := by rw [depthN, hc, if_neg c0]
    rw [hR]
    obtain ⟨base, cap, rfl, -, -⟩ := h
    have hcb : (c != 0) = true := bne_iff_ne.2 c0
    clear hR hc
    go_enter Tryd.func22, Tryd.ntmps22
    go_wp2_with fail
    refine HC.out.mono ?_
    rintro e w1 ⟨rfl, hx⟩
    have HX := Lib.hid hx
    clear hx HC
    go_wp2_with fail
    go_ret
    exact ⟨rfl, HX.out⟩
set_option maxRecDepth 100000 in
set_option maxHeartbeats 1000000 in
theorem end_walk (v : Value) (l : List Nd) (i : Int) (w : World) (h : NodesAt w v l) (hl : Lt l) :
    Calls Tryd.prog 21 #[v, .int .i64 i] w fun e w' => e = .returned (.int .i64 (endN l i)) ∧ Ext [] w w' := by
  have HC := Lib.hid (check_walk v l w h hl.len hl.s)
  obtain ⟨c, hc⟩ : ∃ c, checkN l = c := ⟨_, rfl⟩
  rw [hc] at HC
  by_cases c0 : c = 0
  case neg =>
    have hR : endN l i = 0 := by rw [endN, hc, if_neg (by simp [c0])]
    rw [hR]
    obtain ⟨base, cap, rfl, -, -⟩ := h
    have hcb : (c != 0) = true := bne_iff_ne.2 c0
    clear hR hc
    go_enter Tryd.func21, Tryd.ntmps21
    go_wp2_with fail
    refine HC.out.mono ?_
    rintro e w1 ⟨rfl, hx⟩
    have HX := Lib.hid hx
    clear hx HC
    go_wp2_with fail
    go_ret
    exact ⟨rfl, HX.out⟩
  case pos =>
  subst c0
  by_cases hi : 0 ≤ i ∧ i < l.length
  case neg =>
    have hR : endN l i = 0 := by rw [endN, hc, if_neg (by simpa using hi)]
    rw [hR]
    obtain ⟨base, cap, rfl, -, -⟩ := h
    obtain ⟨n, hn⟩ : ∃ n, l.length = n := ⟨_, rfl⟩
    rw [hn] at HC hi ⊢
    clear hR hc hn
    by_cases h1 : i < 0
    · go_enter Tryd.func21, Tryd.ntmps21
      go_wp2_with fail
      refine HC.out.mono ?_
      rintro e w1 ⟨rfl, hx⟩
      have HX := Lib.hid hx
      clear hx HC hi
      go_wp2_with fail
      go_ret
      exact ⟨rfl, HX.out⟩
    · have h2 : (n : Int) ≤ i := by omega
      go_enter Tryd.func21, Tryd.ntmps21
      go_wp2_with fail
      refine HC.out.mono ?_
      rintro e w1 ⟨rfl, hx⟩
      have HX := Lib.hid hx
      clear hx HC hi
      go_wp2_with fail
      go_ret
      exact ⟨rfl, HX.out⟩
  case pos =>
  obtain ⟨h0, hn, E, D, hsh, -⟩ := check_zero hc
  obtain ⟨-, hE, -, -⟩ := shape_some hsh
  have HS := Lib.hid (fun w1 (hx : Ext [] w w1) => shape_walk v l w1 (h.ext hx) hn)
  rw [hsh] at HS
  obtain ⟨k, rfl⟩ : ∃ k : Nat, i = (k : Int) := ⟨i.toNat, by omega⟩
  have hR : endN l k = E.getD k 0 := by rw [endN, if_pos ⟨hc, hi⟩, endsN, hsh, Int.toNat_natCast]
  rw [hR]
  obtain ⟨base, cap, rfl, -, -⟩ := h
  obtain ⟨n, hln⟩ : ∃ n, l.length = n := ⟨_, rfl⟩
  rw [hln] at HC HS hi hE hn ⊢
  have hkn : (k : Int) < (n : Int) := hi.2
  have hkE : k < E.length := by omega
  obtain ⟨z, hz⟩ : ∃ z, E.getD k 0 = z := ⟨_, rfl⟩
  have hge : E[k]'hkE = z := by rw [← hz, List.getD_eq_getElem?_getD, List.getElem?_eq_getElem hkE]; rfl
  rw [hz]
  have HG := Lib.hid hge
  clear hR hc hsh hi hln h0 hge hz
  go_enter Tryd.func21, Tryd.ntmps21
  go_wp2_with fail
  refine HC.out.mono ?_
  rintro e w1 ⟨rfl, hx⟩
  have HX := Lib.hid hx
  have HS2 := Lib.hid (HS.out w1 hx)
  clear hx HC HS
  go_wp2_with fail
  refine HS2.out.mono ?_
  rintro e w2 ⟨ev, dv, rfl, hx2, ⟨eb, ec, rfl, hI⟩, -⟩
  obtain ⟨b2, o2, rfl, hck⟩ := hI k hkE
  rw [HG.out] at hck
  rw [hE]
  have HX2 := Lib.hid (HX.out.trans hx2)
  clear hI hx2 HX HS2 hE HG
  go_wp2_with fail
  go_ret
  exact ⟨rfl, HX2.out⟩
set_option maxRecDepth 100000 in
set_option maxHeartbeats 1000000 in
theorem subX_walk (v : Value) (l : List Nd) (i : Int) (w : World) (h : NodesAt w v l) (hl : Lt l) :
    Calls Tryd.prog 20 #[v, .int .i64 i] w fun e w' => ∃ v2, e = .returned v2 ∧ Ext [] w w' ∧ NodesAt w' v2 (subXN l i) := by
  have HE := Lib.hid (end_walk v l i w h hl)
  by_cases hi : checkN l = 0 ∧ 0 ≤ i ∧ i < l.length
  case neg =>
    have hR : endN l i = 0 := by rw [endN, if_neg hi]
    have hR2 : subXN l i = [] := by rw [subXN, if_neg hi]
    rw [hR] at HE
    rw [hR2]
    obtain ⟨base, cap, rfl, -, -⟩ := h
    clear hR hR2 hi
    go_enter Tryd.func20, Tryd.ntmps20
    go_wp2_with fail
    refine HE.out.mono ?_
    rintro e w1 ⟨rfl, hx⟩
    have HX := Lib.hid hx
    clear hx HE
    go_wp2_with fail
    go_ret
    exact ⟨_, rfl, HX.out, none, 0, rfl, by simp, fun k hk => by cases hk⟩
  case pos =>
  obtain ⟨hc, h1, h2⟩ := hi
  obtain ⟨h0, hn, E, D, hsh, -⟩ := check_zero hc
  obtain ⟨-, hE, -, -, hends⟩ := shape_some hsh
  obtain ⟨k, rfl⟩ : ∃ k : Nat, i = (k : Int) := ⟨i.toNat, by omega⟩
  have hkl : k < l.length := by omega
  have hR : endN l k = E.getD k 0 := by rw [endN, if_pos ⟨hc, h1, h2⟩, endsN, hsh, Int.toNat_natCast]
  have hR2 : subXN l k = subN l k := by rw [subXN, if_pos ⟨hc, h1, h2⟩, Int.toNat_natCast]
  rw [hR] at HE
  rw [hR2]
  have hpos := (hends k hkl).1.1
  have HS := Lib.hid (fun w1 (hx : Ext [] w w1) => sub_walk v l w1 (h.ext hx) k hkl hn (by rw [hsh]; simp))
  obtain ⟨base, cap, rfl, -, -⟩ := h
  obtain ⟨z, hz⟩ : ∃ z, E.getD k 0 = z := ⟨_, rfl⟩
  rw [hz] at HE hpos
  have hzb : (z == 0) = false := beq_eq_false_iff_ne.2 (by omega)
  clear hR hR2 hc hsh hends hE h1 h2 hz hpos
  go_enter Tryd.func20, Tryd.ntmps20
  go_wp2_with fail
  refine HE.out.mono ?_
  rintro e w1 ⟨rfl, hx⟩
  have HX := Lib.hid hx
  have HS2 := Lib.hid (HS.out w1 hx)
  clear hx HE HS
  go_wp2_with fail
  refine HS2.out.mono ?_
  rintro e w2 ⟨v2, rfl, hx2, hN⟩
  have HX2 := Lib.hid (⟨HX.out.trans hx2, hN⟩ : _ ∧ _)
  clear hx2 hN HX HS2
  go_wp2_with fail
  go_ret
  exact ⟨_, rfl, HX2.out.1, HX2.out.2⟩
end Go.Proofs.YtkjcjklnclahdaaDoor.Tr
