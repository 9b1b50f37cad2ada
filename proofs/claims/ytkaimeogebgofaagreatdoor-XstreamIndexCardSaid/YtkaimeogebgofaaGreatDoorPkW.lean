/-
  TrV, TrW, TrX, TrY, TrZ, TsA, in one text.
-/
import Derived.Test.YtkaimeogebgofaaGreatDoorPkV
/-! TrV: ref17: Same walked. -/
namespace Go.Proofs.YtkaimeogebgofaaGreatDoor.Tr
open Go.RowKit

def sameNd (x y : Nd) : Bool := decide (x.kind = y.kind) && (decide (x.n = y.n) && (decide (x.gen = y.gen) && (x.s.toList == y.s.toList && decide (x.kids = y.kids))))
def sameL : List Nd → List Nd → Bool
  | [], [] => true
  | x :: a, y :: b => sameNd x y && sameL a b
  | _, _ => false
theorem sameNd_iff (x y : Nd) : sameNd x y = true ↔ x = y := by
  constructor
  · intro h
    simp only [sameNd, Bool.and_eq_true, decide_eq_true_eq, beq_iff_eq] at h
    obtain ⟨h1, h2, h3, h4, h5⟩ := h
    obtain ⟨a, b, c, s, d⟩ := x
    obtain ⟨a', b', c', s', d'⟩ := y
    have := bytes_eq h4
    simp_all
  · rintro rfl; simp [sameNd]
theorem sameL_iff : ∀ a b : List Nd, sameL a b = true ↔ a = b
  | [], [] => by simp [sameL]
  | x :: a, y :: b => by rw [sameL, Bool.and_eq_true, sameNd_iff, sameL_iff a b, List.cons.injEq]
  | [], _ :: _ => by simp [sameL]
  | _ :: _, [] => by simp [sameL]
theorem sameL_len : ∀ {a b : List Nd}, a.length ≠ b.length → sameL a b = false
  | [], [], h => absurd rfl h
  | x :: a, y :: b, h => by rw [sameL, sameL_len (a := a) (b := b) (by simpa using h), Bool.and_false]
  | [], _ :: _, _ => rfl
  | _ :: _, [], _ => rfl
def sameK : List Int → List Int → Bool
  | x :: a, y :: b => decide (x = y) && sameK a b
  | _, _ => true
theorem sameK_is : ∀ {a b : List Int}, a.length = b.length → sameK a b = decide (a = b)
  | [], [], _ => rfl
  | x :: a, y :: b, h => by
    rw [sameK, sameK_is (by simpa using h)]
    by_cases q : x = y <;> by_cases r : a = b <;> simp [q, r]
  | [], _ :: _, h => by simp at h
  | _ :: _, [], h => by simp at h
end Go.Proofs.YtkaimeogebgofaaGreatDoor.Tr

/-! TrW: tree: Names, Refs walked; kit.Same of strings. -/
namespace Go.Proofs.YtkaimeogebgofaaGreatDoor.Tr
open Go.RowKit

def evensN : List Int → List Int
  | k :: _ :: r => k :: evensN r
  | [k] => [k]
  | [] => []
theorem evens_step (L : List Int) (j : Nat) (hj : j + 1 < L.length) : evensN (L.drop j) = L[j]'(by omega) :: evensN (L.drop (j + 2)) := by
  rw [drop_at L j (by omega), drop_at L (j + 1) hj, evensN]
theorem ndAt_nat (l : List Nd) (k : Nat) (hk : k < l.length) : ndAt l (k : Int) = l[k]'hk := by
  rw [ndAt, Int.toNat_natCast, List.getD_eq_getElem?_getD, List.getElem?_eq_getElem hk]; rfl
/-- a dict's names -/
def namesN (l : List Nd) : List ByteArray := if isN l 8 then (evensN (ndAt l 0).kids).map (fun k => (ndAt l k).s) else []
theorem is_facts {l : List Nd} {kind : Int} (h : isN l kind = true) : checkN l = 0 ∧ (ndAt l 0).kind = kind := by simpa [isN] using h
/-- what is known of the root's kids -/
theorem root_kids {l : List Nd} (hc : checkN l = 0) : ∀ (j : Nat) (c : Int), (ndAt l 0).kids[j]? = some c → 0 < c ∧ c < l.length := by
  obtain ⟨h0, hn, E, D, hsh, -⟩ := check_zero hc
  obtain ⟨-, -, -, hK, -⟩ := shape_some hsh
  intro j c hj
  have e : kidsAt l 0 = (ndAt l 0).kids := by
    have := ndAt_nat l 0 h0
    rw [show ((0 : Nat) : Int) = 0 from rfl] at this
    rw [this, kidsAt, List.getElem?_eq_getElem h0]
  have := hK 0 h0 j c (by rw [e]; exact hj)
  omega
theorem root_even {l : List Nd} (h : isN l 8 = true) : (ndAt l 0).kids.length % 2 = 0 := by
  obtain ⟨hc, hk⟩ := is_facts h
  obtain ⟨h0, hn, E, D, hsh, hm, hall⟩ := check_zero hc
  have e := ndAt_nat l 0 h0
  rw [show ((0 : Nat) : Int) = 0 from rfl] at e
  have := List.all_eq_true.1 hall _ (List.getElem_mem h0)
  rw [← e, nodeOk, hk] at this
  simp at this
  exact this.2.1
theorem infoString17 : (Tryz.prog.info? 9).map (fun i => (i.zero, i.size, i.bytes)) = some (some (.string ⟨#[]⟩), 1, 16) := by kernel_rfl
def stC (l : List ByteArray) : List Value := l.map Value.string
theorem strs_own {w : World} {v : Value} {l : List ByteArray} (h : w.ownsRow 0 9 1 v l.length (stC l)) : StrsAt w v l := by
  obtain ⟨ao, cap, rfl⟩ := row_slice h
  refine ⟨ao, cap, rfl, row_le h, fun i hi => ?_⟩
  obtain ⟨g, c2, he⟩ := row_form h (by omega)
  cases he
  exact ⟨g, 0, rfl, by rw [Nat.zero_add]; exact row_cell h (by rw [stC, List.getElem?_map, List.getElem?_eq_getElem hi]; rfl)⟩
set_option maxRecDepth 100000 in
set_option maxHeartbeats 2000000 in
theorem names_walk (v : Value) (l : List Nd) (w : World) (h : NodesAt w v l) (hl : Lt l) :
    Calls Tryz.prog 77 #[v] w fun e w' => ∃ v2, e = .returned v2 ∧ Ext [] w w' ∧ StrsAt w' v2 (namesN l) := by
  obtain ⟨i0, hif, hz0, hz1, hz2⟩ := info_parts infoString17
  have HI := Lib.hid (is_walk v l 8 w h hl)
  cases his : isN l 8 with
  | false =>
    have hR : namesN l = [] := by rw [namesN, his]; rfl
    rw [hR]
    rw [his] at HI
    obtain ⟨base, cap, rfl, -, -⟩ := h
    clear hR his
    go_enter Tryz.func77, Tryz.ntmps77
    go_wp2_with fail
    refine HI.out.mono ?_
    rintro e w1 ⟨rfl, hx⟩
    have HX := Lib.hid hx
    clear hx HI
    go_wp2_with fail
    go_ret
    exact ⟨_, rfl, HX.out, none, 0, rfl, by simp, fun k hk => by cases hk⟩
  | true =>
  rw [his] at HI
  obtain ⟨hc, hk8⟩ := is_facts his
  obtain ⟨h0, hn, -⟩ := check_zero hc
  have hrk := root_kids hc
  have hev := root_even his
  obtain ⟨R, hR⟩ : ∃ R, namesN l = R := ⟨_, rfl⟩
  rw [hR]
  rw [namesN, his, if_pos rfl] at hR
  obtain ⟨base, cap, rfl, -, hN⟩ := h
  obtain ⟨b, o, rfl, hnd⟩ := node_in hN 0 h0
  rw [Nat.zero_mul, Nat.add_zero] at hnd
  rw [show ((0 : Nat) : Int) = 0 from rfl] at hnd
  obtain ⟨r1, r2, r3, r4, rw_, rb, rc, r5, r6⟩ := hnd
  obtain ⟨x, hx0⟩ : ∃ x, ndAt l 0 = x := ⟨_, rfl⟩
  rw [hx0] at hrk hev hR r5 r6 rw_
  obtain ⟨K, hK⟩ : ∃ K, x.kids.length = K := ⟨_, rfl⟩
  have hkl := rw_.len
  rw [hK] at r5 hkl hev
  obtain ⟨n, hln⟩ : ∃ n, l.length = n := ⟨_, rfl⟩
  have HH := Lib.hid (⟨hN, hrk, hR, r5, r6, hK, hln⟩ : _ ∧ _ ∧ _ ∧ _ ∧ _ ∧ _ ∧ _)
  have hK9 : K ≤ 65536 := by
    obtain ⟨-, -, E, D, hsh, -⟩ := check_zero hc
    obtain ⟨-, -, -, -, hE⟩ := shape_some hsh
    have h9 := (hE 0 h0).2
    have e : kidsAt l 0 = x.kids := by
      have := ndAt_nat l 0 h0
      rw [show ((0 : Nat) : Int) = 0 from rfl, hx0] at this
      rw [this, kidsAt, List.getElem?_eq_getElem h0]
    rw [e, hK] at h9
    omega
  rw [hln] at HI h0 hn ⊢
  have h0z : (0 : Int) < (n : Int) := by omega
  clear hN hrk hR r1 r2 r3 r4 r5 r6 rw_ hK hln hx0 his hc hk8 h0
  go_enter Tryz.func77, Tryz.ntmps77
  go_wp2_with fail
  refine HI.out.mono ?_
  rintro e w1 ⟨rfl, hx⟩
  have S := ((Sep.start w).quiet hx).new (Ext.refl _ _) (oSl 9 1 (.slice none 0 0) 0 []) (World.ownsRow_nil _ _ _ _) (fun q hq => by simp [oSl, Value.ownBlock] at hq)
  have HS := Lib.hid S
  clear hx HI S
  go_wp2_with fail
  go_loopg [3, 4] K (fun g ov iv wr => ∃ (j : Nat) (A : List ByteArray), g + j = K ∧ j % 2 = 0 ∧ iv = .int .i64 j ∧ A.length ≤ j ∧ A ++ (evensN (x.kids.drop j)).map (fun k => (ndAt l k).s) = R ∧ Sep w wr [oSl 9 1 ov A.length (stC A)])
  case atStart => exact ⟨0, [], by omega, rfl, rfl, by simp, HH.out.2.2.1, HS.out⟩
  case round =>
    clear HS
    obtain ⟨j, A, hgj, hj2, rfl, hA, hR, S⟩ := hrel
    have hr0 : wr.ownsRow 0 9 1 u3 A.length (stC A) := S.get 0 rfl
    obtain ⟨ao3, c3, rfl⟩ := row_slice hr0
    obtain ⟨m, hm⟩ : ∃ m, A.length = m := ⟨_, rfl⟩
    have r5 := S.ext.cell HH.out.2.2.2.1
    by_cases hjK : j < K
    · obtain ⟨g, rfl⟩ : ∃ g, gk = g + 2 := ⟨gk - 2, by omega⟩
      have hjz : (j : Int) < (K : Int) := by omega
      have hj1 : j + 1 < x.kids.length := by rw [HH.out.2.2.2.2.2.1]; omega
      rw [evens_step _ j hj1] at hR
      obtain ⟨b5, o5, rfl, c5⟩ := HH.out.2.2.2.2.1 j (by omega)
      have hb := HH.out.2.1 j _ (List.getElem?_eq_getElem (by omega))
      have c5 := S.ext.cell c5
      generalize x.kids[j]'(by omega) = c at hR c5 hb
      obtain ⟨k, rfl⟩ : ∃ k : Nat, c = (k : Int) := ⟨c.toNat, by omega⟩
      have hk : k < l.length := by omega
      obtain ⟨b6, o6, e6, d1, d2, d3, d4, -⟩ := node_in (HH.out.1.ext S.ext) k hk
      cases e6
      have hkz : (k : Int) < (n : Int) := by have := HH.out.2.2.2.2.2.2; omega
      rw [List.map_cons] at hR
      obtain ⟨s, hs⟩ : ∃ s, (ndAt l (k : Int)).s = s := ⟨_, rfl⟩
      rw [hs] at d4 hR
      rw [hm] at hr0 hA ⊢
      have HX := Lib.hid (⟨S, hR, hr0, hm⟩ : _ ∧ _ ∧ _ ∧ _)
      clear S hR hr0 hm hb hs d1 d2 d3
      go_wp2_with (first | (at_builtin; refine wpList_append_lies _ rfl _ _ 49 rfl 0 9 i0 _ 1 16 Tryz.underlying49 hif hz0 hz1 hz2 rfl (by decide) (.slice ao3 m c3) m _ rfl (World.ownsRow.alloc HX.out.2.2.1 _) ⟨wr.heap.size, 0, none⟩ 1 1 [.string s] rfl rfl (cell_one_new _ _ _) (by simp [Value.oneCell']) (by decide) (by unfold maxLen; omega) (by omega) (by omega) (wr.heap.size + 1) (by simp) ?_; intro g6 cap2 w6 hown1 hgrow hat6 hlt6))
      have Pl := push_local (cap := cap2) (n := m + 1) hgrow hat6
      go_roundg g
      case measure => omega
      case rel =>
        have hl1 : (A ++ [s]).length = m + 1 := by rw [List.length_append, HX.out.2.2.2]; rfl
        refine ⟨j + 2, A ++ [s], by omega, by omega, by go_num, by omega, by rw [List.append_assoc]; exact HX.out.2.1, HX.out.1.upd 0 (oSl 9 1 (.slice (some ⟨g6, 0, none⟩) (m + 1) cap2) (A ++ [s]).length (stC (A ++ [s]))) rfl (by rw [HX.out.2.2.2]; exact Pl.1) (by rw [HX.out.2.2.2]; exact Pl.2) ?_⟩
        show World.ownsRow _ 0 9 1 _ _ _
        rw [hl1, stC, List.map_append]
        exact hown1
    · obtain rfl : gk = 0 := by omega
      have hRA : A = R := by rw [← hR, List.drop_eq_nil_of_le (by rw [HH.out.2.2.2.2.2.1]; omega), evensN, List.map_nil, List.append_nil]
      subst hRA
      have HX := Lib.hid (⟨S.ext, strs_own hr0⟩ : _ ∧ _)
      clear hR S hr0 hA hm
      go_wp2_with fail
      go_ret
      exact ⟨_, rfl, HX.out.1, HX.out.2⟩
end Go.Proofs.YtkaimeogebgofaaGreatDoor.Tr

/-! TrX: tree: find, Get walked; kit.Same of strings. -/
namespace Go.Proofs.YtkaimeogebgofaaGreatDoor.Tr
open Go.RowKit

/-- the place that BinarySearchFunc ends at -/
def binF (L : List ByteArray) (s : ByteArray) : Nat → Nat → Nat → Nat
  | 0, i, _ => i
  | g + 1, i, j => if i < j then if cmpN (L.getD ((i + j) / 2) ⟨#[]⟩) s < 0 then binF L s g ((i + j) / 2 + 1) j else binF L s g i ((i + j) / 2) else i
def findN (L : List ByteArray) (s : ByteArray) : Nat := binF L s (L.length + 1) 0 L.length
def foundN (L : List ByteArray) (s : ByteArray) : Bool := decide (findN L s < L.length) && decide (cmpN (L.getD (findN L s) ⟨#[]⟩) s = 0)
theorem binF_le (L : List ByteArray) (s : ByteArray) : ∀ (g i j : Nat), i ≤ j → i ≤ binF L s g i j ∧ binF L s g i j ≤ j
  | 0, i, j, h => ⟨Nat.le_refl _, h⟩
  | g + 1, i, j, h => by
    rw [binF]
    split
    · split
      · have := binF_le L s g ((i + j) / 2 + 1) j (by omega); omega
      · have := binF_le L s g i ((i + j) / 2) (by omega); omega
    · omega
set_option maxRecDepth 100000 in
set_option maxHeartbeats 2000000 in
theorem fcmp_walk (a b : ByteArray) (w : World) : Calls Tryz.prog 78 #[.string a, .string b] w fun e w' => e = .returned (.int .i64 (cmpN a b)) ∧ Ext [] w w' := by
  have H := Lib.hid (fun w => Tryz.strings_Compare a b w)
  go_enter Tryz.func78, Tryz.ntmps78
  go_wp2_with fail
  refine (H.out _).mono ?_
  rintro e w' ⟨rfl, rfl⟩
  go_wp2_with fail
  go_ret
  exact ⟨rfl, Ext.refl _ _⟩
set_option maxRecDepth 100000 in
set_option maxHeartbeats 2000000 in
theorem bin_walk (v : Value) (L : List ByteArray) (s : ByteArray) (w : World) (h : StrsAt w v L) (hl : L.length ≤ 1048576) :
    Calls Tryz.prog 76 #[v, .string s, .func (.func 78) #[] #[]] w fun e w' => e = .returned (.tuple #[.int .i64 (findN L s : Nat), .bool (foundN L s)]) ∧ Ext [] w w' := by
  obtain ⟨base, cap, rfl, -, hT⟩ := h
  obtain ⟨n, hn⟩ : ∃ n, L.length = n := ⟨_, rfl⟩
  obtain ⟨F, hF⟩ : ∃ F, findN L s = F := ⟨_, rfl⟩
  have hFn : F ≤ n := by rw [← hF, ← hn]; exact (binF_le L s _ 0 L.length (by omega)).2
  have hfo : foundN L s = (decide (F < n) && decide (cmpN (L.getD F ⟨#[]⟩) s = 0)) := by rw [foundN, hF, hn]
  obtain ⟨Bo, hBo⟩ : ∃ Bo, foundN L s = Bo := ⟨_, rfl⟩
  rw [hF, hBo]
  rw [hBo] at hfo
  have HBO := Lib.hid hfo
  have hF2 : binF L s (n + 1) 0 n = F := by rw [← hF, findN, hn]
  have HH := Lib.hid (⟨hT, hn, hF2⟩ : _ ∧ _ ∧ _)
  rw [hn] at hl ⊢
  have hcell : ∀ (k : Nat), k < n → ∀ W, Ext [] w W → ∃ b o, base = some ⟨b, o, none⟩ ∧ W.cell? ⟨b, o + k, none⟩ = some (.string (L.getD k ⟨#[]⟩)) := fun k hk W hx => by
    obtain ⟨b, o, e, hc⟩ := hT k (by rw [hn]; exact hk)
    refine ⟨b, o, e, ?_⟩
    rw [hx.cell hc, List.getD_eq_getElem?_getD, List.getElem?_eq_getElem (by rw [hn]; exact hk)]
    rfl
  have HC := Lib.hid hcell
  clear hT hn hF hfo hF2 hcell hBo
  go_enter Tryz.func76, Tryz.ntmps76
  go_wp2_with fail
  go_loopg [9, 10, 11] n (fun g iv jv hv wr => ∃ i j g2 : Nat, j - i ≤ g ∧ g ≤ g2 ∧ i ≤ j ∧ j ≤ n ∧ iv = .int .i64 i ∧ jv = .int .i64 j ∧ binF L s (g2 + 1) i j = F ∧ Ext [] w wr)
  case atStart => exact ⟨0, n, n, by omega, by omega, by omega, by omega, rfl, rfl, HH.out.2.2, Ext.refl _ _⟩
  case round =>
    obtain ⟨i, j, g2, hg, hg2, hij, hjn, rfl, rfl, hB, hx⟩ := hrel
    by_cases hlt : i < j
    · obtain ⟨g, rfl⟩ : ∃ g, gk = g + 1 := ⟨gk - 1, by omega⟩
      obtain ⟨g3, rfl⟩ : ∃ g3, g2 = g3 + 1 := ⟨g2 - 1, by omega⟩
      rw [binF, if_pos hlt] at hB
      obtain ⟨m, hm⟩ : ∃ m, (i + j) / 2 = m := ⟨_, rfl⟩
      rw [hm] at hB
      have hm1 : i ≤ m := by omega
      have hm2 : m < j := by omega
      have hltz : (i : Int) < (j : Int) := by omega
      have hmn : (m : Int) < (n : Int) := by omega
      obtain ⟨b, o, rfl, hc⟩ := HC.out m (by omega) wr hx
      have H := Lib.hid (fun W => fcmp_walk (L.getD m ⟨#[]⟩) s W)
      generalize L.getD m ⟨#[]⟩ = t at *
      obtain ⟨z, hz⟩ : ∃ z, cmpN t s = z := ⟨_, rfl⟩
      simp only [hz] at H hB
      have HX := Lib.hid (⟨hx, hB, hm⟩ : _ ∧ _ ∧ _)
      clear hx hB hm hz
      have hmz : ((i : Int) + (j : Int)) / 2 = (m : Int) := by have := HX.out.2.2; omega
      go_upto_region 5 with (fail)
      clear hmz
      go_wp2_with fail
      refine (H.out _).mono ?_
      rintro e w2 ⟨rfl, hx2⟩
      have HX2 := Lib.hid (HX.out.1.trans hx2)
      clear hx2 H hc
      by_cases hz0 : z < 0
      · go_wp2_with fail
        go_roundg g
        case measure => omega
        case rel => exact ⟨m + 1, j, g3, by omega, by omega, by omega, by omega, by go_num, rfl, by have := HX.out.2.1; rwa [if_pos hz0] at this, HX2.out⟩
      · go_wp2_with fail
        go_roundg g
        case measure => omega
        case rel => exact ⟨i, m, g3, by omega, by omega, by omega, by omega, rfl, rfl, by have := HX.out.2.1; rwa [if_neg (by omega)] at this, HX2.out⟩
    · have hFi : F = i := by rw [← hB, binF, if_neg hlt]
      subst hFi
      have hltz : ¬ (F : Int) < (j : Int) := by omega
      have HX := Lib.hid hx
      clear hB hx
      by_cases hFN : F < n
      · obtain ⟨b, o, rfl, hc⟩ := HC.out F hFN wr HX.out
        have H := Lib.hid (fun W => fcmp_walk (L.getD F ⟨#[]⟩) s W)
        have hFz : (F : Int) < (n : Int) := by omega
        have hQ := HBO.out
        rw [decide_eq_true hFN, Bool.true_and] at hQ
        generalize L.getD F ⟨#[]⟩ = t at *
        obtain ⟨z, hz⟩ : ∃ z, cmpN t s = z := ⟨_, rfl⟩
        simp only [hz] at H hQ
        clear hz
        subst hQ
        go_wp2_with fail
        refine (H.out _).mono ?_
        rintro e w2 ⟨rfl, hx2⟩
        have HX2 := Lib.hid (HX.out.trans hx2)
        clear hx2 H hc
        go_wp2_with fail
        go_ret2
        refine ⟨?_, HX2.out⟩
        by_cases q : z = 0 <;> simp [q]
      · have hQ := HBO.out
        rw [decide_eq_false hFN, Bool.false_and] at hQ
        subst hQ
        have hFz : ¬ (F : Int) < (n : Int) := by omega
        go_wp2_with fail
        go_ret2
        exact ⟨rfl, HX.out⟩
theorem evens_len : ∀ (L : List Int), 2 * (evensN L).length = L.length + L.length % 2
  | [] => rfl
  | [k] => rfl
  | k :: m :: r => by
    have := evens_len r
    rw [evensN, List.length_cons, List.length_cons, List.length_cons]
    omega
theorem names_len {l : List Nd} (h : isN l 8 = true) : 2 * (namesN l).length = (ndAt l 0).kids.length := by
  have := evens_len (ndAt l 0).kids
  rw [root_even h] at this
  rw [namesN, h, if_pos rfl, List.length_map]
  omega
theorem root_len {l : List Nd} (hc : checkN l = 0) : (ndAt l 0).kids.length ≤ 65536 := by
  obtain ⟨h0, hn, E, D, hsh, -⟩ := check_zero hc
  obtain ⟨-, -, -, -, hE⟩ := shape_some hsh
  have h9 := (hE 0 h0).2
  have e : kidsAt l 0 = (ndAt l 0).kids := by
    have := ndAt_nat l 0 h0
    rw [show ((0 : Nat) : Int) = 0 from rfl] at this
    rw [this, kidsAt, List.getElem?_eq_getElem h0]
  rw [e] at h9
  omega
theorem names_small (l : List Nd) : (namesN l).length ≤ 65536 := by
  cases h : isN l 8 with
  | false => rw [namesN, h]; simp
  | true =>
    have h1 := names_len h
    have h2 := root_len (is_facts h).1
    omega
set_option maxRecDepth 100000 in
set_option maxHeartbeats 2000000 in
theorem find_walk (v : Value) (l : List Nd) (s : ByteArray) (w : World) (h : NodesAt w v l) (hl : Lt l) :
    Calls Tryz.prog 55 #[v, .string s] w fun e w' => e = .returned (.tuple #[.int .i64 (findN (namesN l) s : Nat), .bool (foundN (namesN l) s)]) ∧ Ext [] w w' := by
  have HN := Lib.hid (names_walk v l w h hl)
  have hsm := names_small l
  generalize namesN l = L at *
  have HB := Lib.hid (fun (u : Value) (W : World) (hu : StrsAt W u L) => bin_walk u L s W hu (by omega))
  obtain ⟨base, cap, rfl, -, -⟩ := h
  obtain ⟨F, hF⟩ : ∃ F, findN L s = F := ⟨_, rfl⟩
  obtain ⟨Bo, hBo⟩ : ∃ Bo, foundN L s = Bo := ⟨_, rfl⟩
  simp only [hF, hBo] at HB ⊢
  clear hF hBo hsm
  go_enter Tryz.func55, Tryz.ntmps55
  go_wp2_with fail
  refine HN.out.mono ?_
  rintro e w1 ⟨v2, rfl, hx, hS⟩
  have HB2 := Lib.hid (HB.out v2 w1 hS)
  have HX := Lib.hid hx
  clear hx hS HB HN
  go_wp2_with fail
  refine HB2.out.mono ?_
  rintro e w2 ⟨rfl, hx2⟩
  have HX2 := Lib.hid (HX.out.trans hx2)
  clear hx2 HB2 HX
  go_wp2_with fail
  go_ret2
  exact ⟨rfl, HX2.out⟩
/-- what Get tells -/
def getN (l : List Nd) (s : ByteArray) : Option (List Nd) := if foundN (namesN l) s then some (subN l ((ndAt l 0).kids.getD (2 * findN (namesN l) s + 1) 0).toNat) else none
set_option maxRecDepth 100000 in
set_option maxHeartbeats 2000000 in
theorem get_walk (v : Value) (l : List Nd) (s : ByteArray) (w : World) (h : NodesAt w v l) (hl : Lt l) :
    Calls Tryz.prog 43 #[v, .string s] w fun e w' => ∃ v2, e = .returned (.tuple #[v2, .bool (getN l s).isSome]) ∧ Ext [] w w' ∧ NodesAt w' v2 ((getN l s).getD []) := by
  have HF := Lib.hid (find_walk v l s w h hl)
  cases hfo : foundN (namesN l) s with
  | false =>
    rw [hfo] at HF
    have hR : getN l s = none := by rw [getN, hfo]; rfl
    rw [hR]
    obtain ⟨base, cap, rfl, -, -⟩ := h
    obtain ⟨F, hF⟩ : ∃ F, findN (namesN l) s = F := ⟨_, rfl⟩
    rw [hF] at HF
    clear hR hfo hF
    go_enter Tryz.func43, Tryz.ntmps43
    go_wp2_with fail
    refine HF.out.mono ?_
    rintro e w1 ⟨rfl, hx⟩
    have HX := Lib.hid hx
    clear hx HF
    go_wp2_with fail
    go_ret2
    exact ⟨_, rfl, HX.out, none, 0, rfl, by simp, fun k hk => by cases hk⟩
  | true =>
  rw [hfo] at HF
  obtain ⟨F, hF⟩ : ∃ F, findN (namesN l) s = F := ⟨_, rfl⟩
  have hlt : F < (namesN l).length := by
    have := hfo
    rw [foundN, hF, Bool.and_eq_true] at this
    simpa using this.1
  have his : isN l 8 = true := by
    cases h8 : isN l 8 with
    | true => rfl
    | false => rw [namesN, h8] at hlt; simp at hlt
  obtain ⟨hc, -⟩ := is_facts his
  have hnl := names_len his
  have hrl := root_len hc
  have hrk := root_kids hc
  obtain ⟨h0, hn, E, D, hsh, -⟩ := check_zero hc
  have hkl : 2 * F + 1 < (ndAt l 0).kids.length := by omega
  have hcb := hrk (2 * F + 1) _ (List.getElem?_eq_getElem hkl)
  have hgd : (ndAt l 0).kids.getD (2 * F + 1) 0 = (ndAt l 0).kids[2 * F + 1]'hkl := by rw [List.getD_eq_getElem?_getD, List.getElem?_eq_getElem hkl]; rfl
  obtain ⟨k, hk⟩ : ∃ k : Nat, (ndAt l 0).kids[2 * F + 1]'hkl = (k : Int) := ⟨((ndAt l 0).kids[2 * F + 1]'hkl).toNat, by omega⟩
  have hR : getN l s = some (subN l k) := by rw [getN, hfo, if_pos rfl, hF, hgd, hk, Int.toNat_natCast]
  rw [hR]
  rw [hk] at hcb
  rw [hF] at HF
  have HSub := Lib.hid (fun W (hx : Ext [] w W) => sub_walk v l W (h.ext hx) k (by omega) hn (by rw [hsh]; simp))
  obtain ⟨base, cap, rfl, -, hN⟩ := h
  obtain ⟨b, o, rfl, hnd⟩ := node_in hN 0 h0
  rw [Nat.zero_mul, Nat.add_zero, show ((0 : Nat) : Int) = 0 from rfl] at hnd
  obtain ⟨-, -, -, -, -, rb, rc, r5, r6⟩ := hnd
  obtain ⟨b5, o5, rfl, c5⟩ := r6 (2 * F + 1) hkl
  rw [hk] at c5
  obtain ⟨K, hK⟩ : ∃ K, (ndAt l 0).kids.length = K := ⟨_, rfl⟩
  rw [hK] at r5 hkl hrl
  obtain ⟨n, hln⟩ : ∃ n, l.length = n := ⟨_, rfl⟩
  rw [hln] at HF HSub h0 ⊢
  have h0z : (0 : Int) < (n : Int) := by omega
  have hkz : 2 * (F : Int) + 1 < (K : Int) := by omega
  have HC := Lib.hid (⟨r5, c5⟩ : _ ∧ _)
  clear hR hfo hF hlt his hc hnl hrk hn hsh hcb hgd hk hN r5 c5 r6 hK hln hl h0
  go_enter Tryz.func43, Tryz.ntmps43
  go_wp2_with fail
  refine HF.out.mono ?_
  rintro e w1 ⟨rfl, hx⟩
  have HX := Lib.hid hx
  have HS2 := Lib.hid (HSub.out w1 hx)
  have r5 := hx.cell HC.out.1
  have c5 := hx.cell HC.out.2
  clear hx HF HSub HC
  go_wp2_with fail
  refine HS2.out.mono ?_
  rintro e w2 ⟨v2, rfl, hx2, hN2⟩
  have HX2 := Lib.hid (⟨HX.out.trans hx2, hN2⟩ : _ ∧ _)
  clear hx2 hN2 HS2 HX r5 c5
  go_wp2_with fail
  go_ret2
  exact ⟨_, rfl, HX2.out.1, HX2.out.2⟩
end Go.Proofs.YtkaimeogebgofaaGreatDoor.Tr

/-! TrY: tree: Refs walked; kit.Same of strings. -/
namespace Go.Proofs.YtkaimeogebgofaaGreatDoor.Tr
open Go.RowKit

def sameS : List ByteArray → List ByteArray → Bool
  | [], [] => true
  | x :: a, y :: b => (x.toList == y.toList) && sameS a b
  | _, _ => false
theorem sameS_iff : ∀ a b : List ByteArray, sameS a b = true ↔ a = b
  | [], [] => by simp [sameS]
  | x :: a, y :: b => by
    rw [sameS, Bool.and_eq_true, sameS_iff a b, List.cons.injEq, beq_iff_eq]
    exact ⟨fun h => ⟨bytes_eq h.1, h.2⟩, fun h => ⟨by rw [h.1], h.2⟩⟩
  | [], _ :: _ => by simp [sameS]
  | _ :: _, [] => by simp [sameS]
theorem sameS_len : ∀ {a b : List ByteArray}, a.length ≠ b.length → sameS a b = false
  | [], [], h => absurd rfl h
  | x :: a, y :: b, h => by rw [sameS, sameS_len (a := a) (b := b) (by simpa using h), Bool.and_false]
  | [], _ :: _, _ => rfl
  | _ :: _, [], _ => rfl
/-! ### Refs -/
def refsN (l : List Nd) : List (Int × Int) := if checkN l = 0 then (l.filter fun x => decide (x.kind = 9)).map fun x => (x.n, x.gen) else []
def rfC (l : List (Int × Int)) : List Value := l.flatMap fun p => [.int .i64 p.1, .int .i64 p.2]
theorem rfC_append (a b : List (Int × Int)) : rfC (a ++ b) = rfC a ++ rfC b := by unfold rfC; rw [List.flatMap_append]
def RefsAt (w : World) (v : Value) (l : List (Int × Int)) : Prop := ∃ base cap, v = .slice base l.length cap ∧ l.length ≤ cap ∧ ∀ i (h : i < l.length), ∃ b o, base = some ⟨b, o, none⟩ ∧ w.cell? ⟨b, o + i * 2, none⟩ = some (.int .i64 (l[i]'h).1) ∧ w.cell? ⟨b, o + i * 2 + 1, none⟩ = some (.int .i64 (l[i]'h).2)
theorem rfC_at : ∀ (l : List (Int × Int)) (i : Nat) (h : i < l.length), (rfC l)[i * 2]? = some (.int .i64 (l[i]'h).1) ∧ (rfC l)[i * 2 + 1]? = some (.int .i64 (l[i]'h).2)
  | [], i, h => by simp at h
  | p :: l, i, h => by
    have e : rfC (p :: l) = .int .i64 p.1 :: .int .i64 p.2 :: rfC l := by simp [rfC]
    rw [e]
    cases i with
    | zero => exact ⟨rfl, rfl⟩
    | succ i =>
      rw [show (i + 1) * 2 = i * 2 + 2 by omega]
      exact rfC_at l i (by simpa using h)
theorem cells_two9 (w : World) (x y : Value) (t : TypeId) (f : Nat × Nat := (0, 0)) : ∀ j u, [x, y][j]? = some u → (w.alloc (.cells #[x, y] t f)).cell? ((⟨w.heap.size, 0, none⟩ : Addr).add j) = some u := by
  intro j u h
  have e : (⟨w.heap.size, 0, none⟩ : Addr).add j = ⟨w.heap.size, j, none⟩ := by unfold Addr.add; split <;> simp_all
  rw [e, cellOf (heap_alloc_at _), ← h]
  simp
end Go.Proofs.YtkaimeogebgofaaGreatDoor.Tr

/-! TrZ: tree: the chapter's example, plain. -/
namespace Go.Proofs.YtkaimeogebgofaaGreatDoor.Tr
open Go.RowKit
def nullNd : Nd := ⟨1, 0, 0, ⟨#[]⟩, []⟩
def numNd (n : Int) : Nd := ⟨3, n, 0, ⟨#[]⟩, []⟩
def exL : List Nd := [⟨8, 0, 0, ⟨#[]⟩, [1, 2, 3, 4]⟩, nameNd ⟨#[65]⟩, nullNd, nameNd ⟨#[66]⟩, numNd 1]
theorem nm_a : nameN ⟨#[65]⟩ = 0 := by rfl
theorem nm_b : nameN ⟨#[66]⟩ = 0 := by rfl
theorem sh_ex : shapeN exL = some ([5, 2, 3, 4, 5], [1, 2, 2, 2, 2]) := by rfl
theorem less_ab : Op.bytesLess (ByteArray.toList ⟨#[65]⟩) (ByteArray.toList ⟨#[66]⟩) = true := by
  rw [ByteArray.toList_eq, ByteArray.toList_eq]; rfl
theorem ck_ex : checkN exL = 0 := by
  unfold checkN
  rw [sh_ex]
  have e1 : bareN (nameNd ⟨#[65]⟩) = true := by simp [bareN, nameNd, nm_a]
  have e2 : bareN (nameNd ⟨#[66]⟩) = true := by simp [bareN, nameNd, nm_b]
  have e3 : bareN nullNd = true := by simp [bareN, nullNd]
  have e4 : bareN (numNd 1) = true := by simp [bareN, numNd]
  have e5 : bareN ⟨8, 0, 0, ⟨#[]⟩, [1, 2, 3, 4]⟩ = true := by simp [bareN]
  have e6 : risesN exL none [1, 2, 3, 4] = true := by
    show (decide ((6 : Int) = 6) && true && (decide ((6 : Int) = 6) && belowN (some ⟨#[65]⟩) ⟨#[66]⟩ && true)) = true
    rw [show belowN (some ⟨#[65]⟩) ⟨#[66]⟩ = true from less_ab]
    rfl
  have e7 : exL.all (nodeOk exL) = true := by
    show (nodeOk exL _ && (nodeOk exL _ && (nodeOk exL _ && (nodeOk exL _ && (nodeOk exL _ && true))))) = true
    have o1 : nodeOk exL ⟨8, 0, 0, ⟨#[]⟩, [1, 2, 3, 4]⟩ = true := by rw [nodeOk, e5]; simp [e6]
    have o2 : nodeOk exL (nameNd ⟨#[65]⟩) = true := by rw [nodeOk, e1]; rfl
    have o3 : nodeOk exL nullNd = true := by rw [nodeOk, e3]; rfl
    have o4 : nodeOk exL (nameNd ⟨#[66]⟩) = true := by rw [nodeOk, e2]; rfl
    have o5 : nodeOk exL (numNd 1) = true := by rw [nodeOk, e4]; rfl
    rw [o1, o2, o3, o4, o5]
    rfl
  rw [e7]
  rfl
theorem cmp_ba : cmpN ⟨#[66]⟩ ⟨#[65]⟩ = 1 := rfl
theorem cmp_ab : cmpN ⟨#[65]⟩ ⟨#[66]⟩ = -1 := rfl
theorem cmp_aa : cmpN ⟨#[65]⟩ ⟨#[65]⟩ = 0 := rfl
theorem nm_ex : namesN exL = [⟨#[65]⟩, ⟨#[66]⟩] := by
  have h : isN exL 8 = true := by rw [isN, ck_ex]; rfl
  rw [namesN, h]
  rfl
theorem get_ex : getN exL ⟨#[65]⟩ = some [nullNd] := by
  have h1 : findN [⟨#[65]⟩, ⟨#[66]⟩] ⟨#[65]⟩ = 0 := rfl
  have h2 : foundN [⟨#[65]⟩, ⟨#[66]⟩] ⟨#[65]⟩ = true := rfl
  rw [getN, nm_ex, h1, h2]
  have h3 : ((ndAt exL 0).kids.getD (2 * 0 + 1) 0).toNat = 2 := rfl
  rw [h3, if_pos rfl, subN, sh_ex]
  rfl
theorem one_ok {x : Nd} (hk : x.kids = []) (h8 : x.kind ≠ 8) (hb : bareN x = true) : checkN [x] = 0 := by
  have hs : shapeN [x] = some ([1], [1]) := by
    obtain ⟨a, b, c, d, e⟩ := x
    simp only at hk
    subst hk
    rfl
  unfold checkN
  rw [hs]
  have : [x].all (nodeOk [x]) = true := by simp [nodeOk, hb, h8]
  rw [this]
  rfl
theorem ck_null : checkN [nullNd] = 0 := one_ok rfl (by decide) (by simp [bareN, nullNd])
theorem ck_num : checkN [numNd 1] = 0 := one_ok rfl (by decide) (by simp [bareN, numNd])
theorem dict_ex : dictionN [⟨#[66]⟩, ⟨#[65]⟩] [[numNd 1], [nullNd]] = (exL, 0) := by
  have h1 : firstN [[numNd 1], [nullNd]] = 0 := by rw [firstN, ck_num, if_pos rfl, firstN, ck_null, if_pos rfl, firstN]
  have h2 : ([⟨#[66]⟩, ⟨#[65]⟩] : List ByteArray).any (fun s => decide (nameN s ≠ 0)) = false := by simp [nm_a, nm_b]
  rw [dictionN, h1, h2, if_neg (by simp), if_neg (by simp), dictN]
  have h3 : sortG (fun p : Ent => p.1) (([⟨#[66]⟩, ⟨#[65]⟩] : List ByteArray).zip [[numNd 1], [nullNd]]) = [(⟨#[65]⟩, [nullNd]), (⟨#[66]⟩, [numNd 1])] := rfl
  have h4 : twiceF none [(⟨#[65]⟩, [nullNd]), (⟨#[66]⟩, [numNd 1])] = false := by
    simp [twiceF, likeN, ByteArray.toList_eq]
  rw [h3, h4, if_neg (by simp)]
  have h5 : underN 8 (allN [(⟨#[65]⟩, [nullNd]), (⟨#[66]⟩, [numNd 1])]) = if checkN exL = 0 then (exL, 0) else ([], checkN exL) := rfl
  rw [h5, ck_ex, if_pos rfl]
end Go.Proofs.YtkaimeogebgofaaGreatDoor.Tr

/-! TsA: law17: the chapter's example, lives walked. -/
namespace Go.Proofs.YtkaimeogebgofaaGreatDoor.Tr
open Go.RowKit

theorem one_nodes {w : World} {g : Nat} {x : Nd} (h : w.heap[g]? = some (.cells #[.int .i64 x.kind, .int .i64 x.n, .int .i64 x.gen, .string x.s, .slice none 0 0] 47)) (hk : x.kids = []) (hn : -9223372036854775808 ≤ x.n ∧ x.n ≤ 9223372036854775807) (hs : x.s.size ≤ 9223372036854775807) :
    NodesAt w (.slice (some ⟨g, 0, none⟩) 1 1) [x] :=
  ⟨_, 1, rfl, Nat.le_refl _, fun i hi => by
    obtain rfl : i = 0 := by simpa using hi
    exact ⟨g, 0, rfl, cellOf h 0, cellOf h 1, cellOf h 2, cellOf h 3, ⟨hn, hs, by show x.kids.length ≤ _; rw [hk]; exact Nat.zero_le _, fun k hk2 => by rw [show ([x][0]'hi).kids = [] from hk] at hk2; cases hk2⟩, none, 0, by rw [show ([x][0]'hi).kids = [] from hk]; exact cellOf h 4, fun i hi2 => by rw [show ([x][0]'hi).kids = [] from hk] at hi2; cases hi2⟩⟩
theorem strs2 {w : World} {g : Nat} {a b : ByteArray} {t : TypeId} {f : Nat × Nat} (h : w.heap[g]? = some (.cells #[.string a, .string b] t f)) : StrsAt w (.slice (some ⟨g, 0, none⟩) 2 2) [a, b] :=
  ⟨_, 2, rfl, Nat.le_refl _, fun i hi => by
    match i, hi with
    | 0, _ => exact ⟨g, 0, rfl, cellOf h 0⟩
    | 1, _ => exact ⟨g, 0, rfl, cellOf h 1⟩⟩
theorem trees2 {w : World} {g : Nat} {u v : Value} {a b : List Nd} {t : TypeId} {f : Nat × Nat} (h : w.heap[g]? = some (.cells #[u, v] t f)) (hu : NodesAt w u a) (hv : NodesAt w v b) : TreesAt w (.slice (some ⟨g, 0, none⟩) 2 2) [a, b] :=
  ⟨_, 2, rfl, Nat.le_refl _, fun i hi => by
    match i, hi with
    | 0, _ => exact ⟨g, 0, u, rfl, cellOf h 0, hu⟩
    | 1, _ => exact ⟨g, 0, v, rfl, cellOf h 1, hv⟩⟩
theorem lt_ex : Lt exL := ⟨by decide, by decide⟩
/-- the five nodes as they are written out -/
def ex25 (g : Nat) : Obj := .cells #[.int .i64 8, .int .i64 0, .int .i64 0, .string ⟨#[]⟩, .slice (some ⟨g, 0, none⟩) 4 4, .int .i64 6, .int .i64 0, .int .i64 0, .string ⟨#[65]⟩, .slice none 0 0, .int .i64 1, .int .i64 0, .int .i64 0, .string ⟨#[]⟩, .slice none 0 0, .int .i64 6, .int .i64 0, .int .i64 0, .string ⟨#[66]⟩, .slice none 0 0, .int .i64 3, .int .i64 1, .int .i64 0, .string ⟨#[]⟩, .slice none 0 0] 47
theorem wf0 (x : Nd) (hk : x.kids = []) (hn : -9223372036854775808 ≤ x.n ∧ x.n ≤ 9223372036854775807) (hs : x.s.size ≤ 9223372036854775807) : NdWf x := ⟨hn, hs, by rw [hk]; exact Nat.zero_le _, fun k hk2 => by rw [hk] at hk2; cases hk2⟩
theorem wf_root : NdWf ⟨8, 0, 0, ⟨#[]⟩, [1, 2, 3, 4]⟩ := ⟨by decide, by decide, by decide, by decide⟩
theorem ex_lit {w : World} {g q : Nat} (hg : w.heap[g]? = some (.cells #[.int .i64 1, .int .i64 2, .int .i64 3, .int .i64 4] 3)) (hq : w.heap[q]? = some (ex25 g)) : NodesAt w (.slice (some ⟨q, 0, none⟩) 5 5) exL :=
  ⟨_, 5, rfl, Nat.le_refl _, fun i hi => by
    match i, hi with
    | 0, _ => exact ⟨q, 0, rfl, cellOf hq 0, cellOf hq 1, cellOf hq 2, cellOf hq 3, wf_root, some ⟨g, 0, none⟩, 4, cellOf hq 4, fun k hk => by
        match k, hk with
        | 0, _ => exact ⟨g, 0, rfl, cellOf hg 0⟩
        | 1, _ => exact ⟨g, 0, rfl, cellOf hg 1⟩
        | 2, _ => exact ⟨g, 0, rfl, cellOf hg 2⟩
        | 3, _ => exact ⟨g, 0, rfl, cellOf hg 3⟩⟩
    | 1, _ => exact ⟨q, 0, rfl, cellOf hq 5, cellOf hq 6, cellOf hq 7, cellOf hq 8, wf0 (nameNd ⟨#[65]⟩) rfl (by decide) (by decide), none, 0, cellOf hq 9, fun k hk => by cases hk⟩
    | 2, _ => exact ⟨q, 0, rfl, cellOf hq 10, cellOf hq 11, cellOf hq 12, cellOf hq 13, wf0 nullNd rfl (by decide) (by decide), none, 0, cellOf hq 14, fun k hk => by cases hk⟩
    | 3, _ => exact ⟨q, 0, rfl, cellOf hq 15, cellOf hq 16, cellOf hq 17, cellOf hq 18, wf0 (nameNd ⟨#[66]⟩) rfl (by decide) (by decide), none, 0, cellOf hq 19, fun k hk => by cases hk⟩
    | 4, _ => exact ⟨q, 0, rfl, cellOf hq 20, cellOf hq 21, cellOf hq 22, cellOf hq 23, wf0 (numNd 1) rfl (by decide) (by decide), none, 0, cellOf hq 24, fun k hk => by cases hk⟩⟩
end Go.Proofs.YtkaimeogebgofaaGreatDoor.Tr
