/-
  TrV, TrW, TrX, TrY, TrZ, TsA, in one text.
-/
import Derived.Test.YtgpgamohcafklaaGreatDoorPkV
/-! TrV: ref17: Same walked. -/
namespace Go.Proofs.YtgpgamohcafklaaGreatDoor.Tr
open Go.RowKit

def sameNd (x y : Nd) : Bool := decide (x.kind = y.kind) && (decide (x.n = y.n) && (decide (x.gen = y.gen) && (x.s.toList == y.s.toList && decide (x.kids = y.kids))))
def sameL : List Nd → List Nd → Bool
  | [], [] => true
  | x :: a, y :: b => sameNd x y && sameL a b
  | _, _ => false
theorem sameNd_iff (x y : Nd) : sameNd x y = true ↔ x = y := by
  constructor
  · intro h
    simp only [sameNd, Bool.and_eq_true, decide_eq_true_eq, beq_iff_eq] at h
    obtain ⟨h1, h2, h3, h4, h5⟩ := h
    obtain ⟨a, b, c, s, d⟩ := x
    obtain ⟨a', b', c', s', d'⟩ := y
    have := bytes_eq h4
    simp_all
  · rintro rfl; simp [sameNd]
theorem sameL_iff : ∀ a b : List Nd, sameL a b = true ↔ a = b
  | [], [] => by simp [sameL]
  | x :: a, y :: b => by rw [sameL, Bool.and_eq_true, sameNd_iff, sameL_iff a b, List.cons.injEq]
  | [], _ :: _ => by simp [sameL]
  | _ :: _, [] => by simp [sameL]
theorem sameL_len : ∀ {a b : List Nd}, a.length ≠ b.length → sameL a b = false
  | [], [], h => absurd rfl h
  | x :: a, y :: b, h => by rw [sameL, sameL_len (a := a) (b := b) (by simpa using h), Bool.and_false]
  | [], _ :: _, _ => rfl
  | _ :: _, [], _ => rfl
def sameK : List Int → List Int → Bool
  | x :: a, y :: b => decide (x = y) && sameK a b
  | _, _ => true
theorem sameK_is : ∀ {a b : List Int}, a.length = b.length → sameK a b = decide (a = b)
  | [], [], _ => rfl
  | x :: a, y :: b, h => by
    rw [sameK, sameK_is (by simpa using h)]
    by_cases q : x = y <;> by_cases r : a = b <;> simp [q, r]
  | [], _ :: _, h => by simp at h
  | _ :: _, [], h => by simp at h
end Go.Proofs.YtgpgamohcafklaaGreatDoor.Tr

/-! TrW: tree: Names, Refs walked; kit.Same of strings. -/
namespace Go.Proofs.YtgpgamohcafklaaGreatDoor.Tr
open Go.RowKit

def evensN : List Int → List Int
  | k :: _ :: r => k :: evensN r
  | [k] => [k]
  | [] => []
theorem evens_step (L : List Int) (j : Nat) (hj : j + 1 < L.length) : evensN (L.drop j) = L[j]'(by omega) :: evensN (L.drop (j + 2)) := by
  rw [drop_at L j (by omega), drop_at L (j + 1) hj, evensN]
theorem ndAt_nat (l : List Nd) (k : Nat) (hk : k < l.length) : ndAt l (k : Int) = l[k]'hk := by
  rw [ndAt, Int.toNat_natCast, List.getD_eq_getElem?_getD, List.getElem?_eq_getElem hk]; rfl
/-- a dict's names -/
def namesN (l : List Nd) : List ByteArray := if isN l 8 then (evensN (ndAt l 0).kids).map (fun k => (ndAt l k).s) else []
theorem is_facts {l : List Nd} {kind : Int} (h : isN l kind = true) : checkN l = 0 ∧ (ndAt l 0).kind = kind := by simpa [isN] using h
/-- what is known of the root's kids -/
theorem root_kids {l : List Nd} (hc : checkN l = 0) : ∀ (j : Nat) (c : Int), (ndAt l 0).kids[j]? = some c → 0 < c ∧ c < l.length := by
  obtain ⟨h0, hn, E, D, hsh, -⟩ := check_zero hc
  obtain ⟨-, -, -, hK, -⟩ := shape_some hsh
  intro j c hj
  have e : kidsAt l 0 = (ndAt l 0).kids := by
    have := ndAt_nat l 0 h0
    rw [show ((0 : Nat) : Int) = 0 from rfl] at this
    rw [this, kidsAt, List.getElem?_eq_getElem h0]
  have := hK 0 h0 j c (by rw [e]; exact hj)
  omega
theorem root_even {l : List Nd} (h : isN l 8 = true) : (ndAt l 0).kids.length % 2 = 0 := by
  obtain ⟨hc, hk⟩ := is_facts h
  obtain ⟨h0, hn, E, D, hsh, hm, hall⟩ := check_zero hc
  have e := ndAt_nat l 0 h0
  rw [show ((0 : Nat) : Int) = 0 from rfl] at e
  have := List.all_eq_true.1 hall _ (List.getElem_mem h0)
  rw [← e, nodeOk, hk] at this
  simp at this
  exact this.2.1
theorem infoString17 : (Tryz.prog.info? 9).map (fun i => (i.zero, i.size, i.bytes)) = some (some (.string ⟨#[]⟩), 1, 16) := by kernel_rfl
def stC (l : List ByteArray) : List Value := l.map Value.string
theorem strs_own {w : World} {v : Value} {l : List ByteArray} (h : w.ownsRow 0 9 1 v l.length (stC l)) : StrsAt w v l := by
  obtain ⟨ao, cap, rfl⟩ := row_slice h
  refine ⟨ao, cap, rfl, row_le h, fun i hi => ?_⟩
  obtain ⟨g, c2, he⟩ := row_form h (by omega)
  cases he
  exact ⟨g, 0, rfl, by rw [Nat.zero_add]; exact row_cell h (by rw [stC, List.getElem?_map, List.getElem?_eq_getElem hi]; rfl)⟩
end Go.Proofs.YtgpgamohcafklaaGreatDoor.Tr

/-! TrX: tree: find, Get walked; kit.Same of strings. -/
namespace Go.Proofs.YtgpgamohcafklaaGreatDoor.Tr
open Go.RowKit

/-- the place that BinarySearchFunc ends at -/
def binF (L : List ByteArray) (s : ByteArray) : Nat → Nat → Nat → Nat
  | 0, i, _ => i
  | g + 1, i, j => if i < j then if cmpN (L.getD ((i + j) / 2) ⟨#[]⟩) s < 0 then binF L s g ((i + j) / 2 + 1) j else binF L s g i ((i + j) / 2) else i
def findN (L : List ByteArray) (s : ByteArray) : Nat := binF L s (L.length + 1) 0 L.length
def foundN (L : List ByteArray) (s : ByteArray) : Bool := decide (findN L s < L.length) && decide (cmpN (L.getD (findN L s) ⟨#[]⟩) s = 0)
theorem binF_le (L : List ByteArray) (s : ByteArray) : ∀ (g i j : Nat), i ≤ j → i ≤ binF L s g i j ∧ binF L s g i j ≤ j
  | 0, i, j, h => ⟨Nat.le_refl _, h⟩
  | g + 1, i, j, h => by
    rw [binF]
    split
    · split
      · have := binF_le L s g ((i + j) / 2 + 1) j (by omega); omega
      · have := binF_le L s g i ((i + j) / 2) (by omega); omega
    · omega
theorem evens_len : ∀ (L : List Int), 2 * (evensN L).length = L.length + L.length % 2
  | [] => rfl
  | [k] => rfl
  | k :: m :: r => by
    have := evens_len r
    rw [evensN, List.length_cons, List.length_cons, List.length_cons]
    omega
theorem names_len {l : List Nd} (h : isN l 8 = true) : 2 * (namesN l).length = (ndAt l 0).kids.length := by
  have := evens_len (ndAt l 0).kids
  rw [root_even h] at this
  rw [namesN, h, if_pos rfl, List.length_map]
  omega
theorem root_len {l : List Nd} (hc : checkN l = 0) : (ndAt l 0).kids.length ≤ 65536 := by
  obtain ⟨h0, hn, E, D, hsh, -⟩ := check_zero hc
  obtain ⟨-, -, -, -, hE⟩ := shape_some hsh
  have h9 := (hE 0 h0).2
  have e : kidsAt l 0 = (ndAt l 0).kids := by
    have := ndAt_nat l 0 h0
    rw [show ((0 : Nat) : Int) = 0 from rfl] at this
    rw [this, kidsAt, List.getElem?_eq_getElem h0]
  rw [e] at h9
  omega
theorem names_small (l : List Nd) : (namesN l).length ≤ 65536 := by
  cases h : isN l 8 with
  | false => rw [namesN, h]; simp
  | true =>
    have h1 := names_len h
    have h2 := root_len (is_facts h).1
    omega
/-- what Get tells -/
def getN (l : List Nd) (s : ByteArray) : Option (List Nd) := if foundN (namesN l) s then some (subN l ((ndAt l 0).kids.getD (2 * findN (namesN l) s + 1) 0).toNat) else none
end Go.Proofs.YtgpgamohcafklaaGreatDoor.Tr

/-! TrY: tree: Refs walked; kit.Same of strings. -/
namespace Go.Proofs.YtgpgamohcafklaaGreatDoor.Tr
open Go.RowKit

def sameS : List ByteArray → List ByteArray → Bool
  | [], [] => true
  | x :: a, y :: b => (x.toList == y.toList) && sameS a b
  | _, _ => false
theorem sameS_iff : ∀ a b : List ByteArray, sameS a b = true ↔ a = b
  | [], [] => by simp [sameS]
  | x :: a, y :: b => by
    rw [sameS, Bool.and_eq_true, sameS_iff a b, List.cons.injEq, beq_iff_eq]
    exact ⟨fun h => ⟨bytes_eq h.1, h.2⟩, fun h => ⟨by rw [h.1], h.2⟩⟩
  | [], _ :: _ => by simp [sameS]
  | _ :: _, [] => by simp [sameS]
theorem sameS_len : ∀ {a b : List ByteArray}, a.length ≠ b.length → sameS a b = false
  | [], [], h => absurd rfl h
  | x :: a, y :: b, h => by rw [sameS, sameS_len (a := a) (b := b) (by simpa using h), Bool.and_false]
  | [], _ :: _, _ => rfl
  | _ :: _, [], _ => rfl
/-! ### Refs -/
def refsN (l : List Nd) : List (Int × Int) := if checkN l = 0 then (l.filter fun x => decide (x.kind = 9)).map fun x => (x.n, x.gen) else []
def rfC (l : List (Int × Int)) : List Value := l.flatMap fun p => [.int .i64 p.1, .int .i64 p.2]
theorem rfC_append (a b : List (Int × Int)) : rfC (a ++ b) = rfC a ++ rfC b := by unfold rfC; rw [List.flatMap_append]
def RefsAt (w : World) (v : Value) (l : List (Int × Int)) : Prop := ∃ base cap, v = .slice base l.length cap ∧ l.length ≤ cap ∧ ∀ i (h : i < l.length), ∃ b o, base = some ⟨b, o, none⟩ ∧ w.cell? ⟨b, o + i * 2, none⟩ = some (.int .i64 (l[i]'h).1) ∧ w.cell? ⟨b, o + i * 2 + 1, none⟩ = some (.int .i64 (l[i]'h).2)
theorem infoRef17 : (Tryz.prog.info? 24).map (fun i => (i.zero, i.size, i.bytes)) = some (some (.agg #[.int .i64 0, .int .i64 0]), 2, 16) := by kernel_rfl
theorem rfC_at : ∀ (l : List (Int × Int)) (i : Nat) (h : i < l.length), (rfC l)[i * 2]? = some (.int .i64 (l[i]'h).1) ∧ (rfC l)[i * 2 + 1]? = some (.int .i64 (l[i]'h).2)
  | [], i, h => by simp at h
  | p :: l, i, h => by
    have e : rfC (p :: l) = .int .i64 p.1 :: .int .i64 p.2 :: rfC l := by simp [rfC]
    rw [e]
    cases i with
    | zero => exact ⟨rfl, rfl⟩
    | succ i =>
      rw [show (i + 1) * 2 = i * 2 + 2 by omega]
      exact rfC_at l i (by simpa using h)
theorem refs_own {w : World} {v : Value} {l : List (Int × Int)} (h : w.ownsRow 0 24 2 v l.length (rfC l)) : RefsAt w v l := by
  obtain ⟨ao, cap, rfl⟩ := row_slice h
  refine ⟨ao, cap, rfl, row_le h, fun i hi => ?_⟩
  obtain ⟨g, c2, he⟩ := row_form h (by omega)
  cases he
  obtain ⟨h1, h2⟩ := rfC_at l i hi
  exact ⟨g, 0, rfl, by rw [Nat.zero_add]; exact row_cell h h1, by rw [Nat.zero_add]; exact row_cell h h2⟩
theorem cells_two9 (w : World) (x y : Value) (t : TypeId) (f : Nat × Nat := (0, 0)) : ∀ j u, [x, y][j]? = some u → (w.alloc (.cells #[x, y] t f)).cell? ((⟨w.heap.size, 0, none⟩ : Addr).add j) = some u := by
  intro j u h
  have e : (⟨w.heap.size, 0, none⟩ : Addr).add j = ⟨w.heap.size, j, none⟩ := by unfold Addr.add; split <;> simp_all
  rw [e, cellOf (heap_alloc_at _), ← h]
  simp
set_option maxRecDepth 100000 in
set_option maxHeartbeats 2000000 in
theorem refs_walk (v : Value) (l : List Nd) (w : World) (h : NodesAt w v l) (hl : Lt l) :
    Calls Tryz.prog 23 #[v] w fun e w' => ∃ v2, e = .returned v2 ∧ Ext [] w w' ∧ RefsAt w' v2 (refsN l) := by
  obtain ⟨i0, hif, hz0, hz1, hz2⟩ := info_parts infoRef17
  have HC := Lib.hid (check_walk v l w h hl.len hl.s)
  obtain ⟨c, hc⟩ : ∃ c, checkN l = c := ⟨_, rfl⟩
  rw [hc] at HC
  by_cases c0 : c = 0
  case neg =>
    have hR : refsN l = [] := by rw [refsN, hc, if_neg c0]
    rw [hR]
    obtain ⟨base, cap, rfl, -, -⟩ := h
    have hcb : (c != 0) = true := bne_iff_ne.2 c0
    clear hR hc
    go_enter Tryz.func23, Tryz.ntmps23
    go_wp2_with fail
    refine HC.out.mono ?_
    rintro e w1 ⟨rfl, hx⟩
    have HX := Lib.hid hx
    clear hx HC
    go_wp2_with fail
    go_ret
    exact ⟨_, rfl, HX.out, none, 0, rfl, by simp, fun k hk => by cases hk⟩
  case pos =>
  subst c0
  obtain ⟨h0, hn, -⟩ := check_zero hc
  obtain ⟨R, hR⟩ : ∃ R, refsN l = R := ⟨_, rfl⟩
  rw [hR]
  rw [refsN, if_pos hc] at hR
  obtain ⟨base, cap, rfl, -, hN⟩ := h
  obtain ⟨n, hln⟩ : ∃ n, l.length = n := ⟨_, rfl⟩
  have HH := Lib.hid (⟨hN, hR, hln⟩ : _ ∧ _ ∧ _)
  rw [hln] at HC hn ⊢
  clear hN hR hln hc h0
  go_enter Tryz.func23, Tryz.ntmps23
  go_wp2_with fail
  refine HC.out.mono ?_
  rintro e w1 ⟨rfl, hx⟩
  have S := ((Sep.start w).quiet hx).new (Ext.refl _ _) (oSl 24 2 (.slice none 0 0) 0 []) (World.ownsRow_nil _ _ _ _) (fun q hq => by simp [oSl, Value.ownBlock] at hq)
  have HS := Lib.hid S
  clear hx HC S
  go_wp2_with fail
  go_loopg [3, 5, 11] n (fun g ov v5 iv wr => ∃ (i : Nat) (A : List (Int × Int)), g + i = n ∧ iv = .int .i64 i ∧ A.length ≤ i ∧ A ++ ((l.drop i).filter fun x => decide (x.kind = 9)).map (fun x => (x.n, x.gen)) = R ∧ Sep w wr [oSl 24 2 ov A.length (rfC A)])
  case atStart => exact ⟨0, [], by omega, rfl, by simp, HH.out.2.1, HS.out⟩
  case round =>
    clear HS
    obtain ⟨i, A, hgi, rfl, hA, hR, S⟩ := hrel
    have hr0 : wr.ownsRow 0 24 2 u3 A.length (rfC A) := S.get 0 rfl
    obtain ⟨ao3, c3, rfl⟩ := row_slice hr0
    obtain ⟨m, hm⟩ : ∃ m, A.length = m := ⟨_, rfl⟩
    by_cases hlt : i < n
    · obtain ⟨g, rfl⟩ : ∃ g, gk = g + 1 := ⟨gk - 1, by omega⟩
      have hltz : (i : Int) < (n : Int) := by omega
      have hil : i < l.length := by rw [HH.out.2.2]; exact hlt
      rw [drop_at l i hil, List.filter_cons] at hR
      obtain ⟨b, o, rfl, n1, n2, n3, n4, nw, bk, ck, n5, -⟩ := HH.out.1.ext S.ext i hil
      generalize l[i]'hil = x at *
      rw [hm] at hr0 hA ⊢
      have HX := Lib.hid (⟨S, hR, hr0, hm⟩ : _ ∧ _ ∧ _ ∧ _)
      clear S hR hr0 hm nw
      by_cases k9 : x.kind = 9
      · have hR := HX.out.2.1
        rw [if_pos (by simpa using k9), List.map_cons] at hR
        have HR := Lib.hid hR
        have k9b : (x.kind == 9) = true := by rw [k9]; rfl
        clear hR k9
        go_wp2_with (first | (at_builtin; refine wpList_append_lies _ rfl _ _ 35 rfl 0 24 i0 _ 2 16 Tryz.underlying35 hif hz0 hz1 hz2 rfl (by decide) (.slice ao3 m c3) m _ rfl (World.ownsRow.alloc (World.ownsRow.alloc HX.out.2.2.1 _) _) ⟨wr.heap.size + 1, 0, none⟩ 1 1 [.int .i64 x.n, .int .i64 x.gen] rfl rfl (by have := cells_two9 (wr.alloc (.cells #[.int .i64 x.kind, .int .i64 x.n, .int .i64 x.gen, .string x.s, .slice bk x.kids.length ck] 47)) (.int .i64 x.n) (.int .i64 x.gen) 24; rw [show (wr.alloc (.cells #[.int .i64 x.kind, .int .i64 x.n, .int .i64 x.gen, .string x.s, .slice bk x.kids.length ck] 47)).heap.size = wr.heap.size + 1 by simp] at this; exact this) (by simp [Value.oneCell']) (by decide) (by unfold maxLen; omega) (by omega) (by omega) (wr.heap.size + 2) (by simp) ?_; intro g6 cap2 w6 hown1 hgrow hat6 hlt6))
        have Pl := push_local (w := wr.alloc (.cells #[.int .i64 x.kind, .int .i64 x.n, .int .i64 x.gen, .string x.s, .slice bk x.kids.length ck] 47)) (cap := cap2) (n := m + 1) hgrow (by rcases hat6 with q1 | q1; exact .inl q1; exact .inr (by simp; omega))
        have S2 := HX.out.1.quiet ((Ext.refl [] wr).alloc (.cells #[.int .i64 x.kind, .int .i64 x.n, .int .i64 x.gen, .string x.s, .slice bk x.kids.length ck] 47))
        go_roundg g
        case measure => omega
        case rel =>
          have hl1 : (A ++ [(x.n, x.gen)]).length = m + 1 := by rw [List.length_append, HX.out.2.2.2]; rfl
          refine ⟨i + 1, A ++ [(x.n, x.gen)], by omega, by go_num, by omega, by rw [List.append_assoc]; exact HR.out, S2.upd 0 (oSl 24 2 (.slice (some ⟨g6, 0, none⟩) (m + 1) cap2) (A ++ [(x.n, x.gen)]).length (rfC (A ++ [(x.n, x.gen)]))) rfl (by rw [HX.out.2.2.2]; exact Pl.1) (by rw [HX.out.2.2.2]; exact Pl.2) ?_⟩
          show World.ownsRow _ 0 24 2 _ _ _
          rw [hl1, rfC_append]
          exact hown1
      · have hR := HX.out.2.1
        rw [if_neg (by simpa using k9)] at hR
        have HR := Lib.hid hR
        have k9b : (x.kind == 9) = false := beq_eq_false_iff_ne.2 k9
        clear hR k9
        go_wp2_with fail
        go_roundg g
        case measure => omega
        case rel => exact ⟨i + 1, A, by omega, by go_num, by rw [HX.out.2.2.2]; omega, HR.out, by have := HX.out.1.quiet ((Ext.refl [] wr).alloc (.cells #[.int .i64 x.kind, .int .i64 x.n, .int .i64 x.gen, .string x.s, .slice bk x.kids.length ck] 47)); rw [HX.out.2.2.2] at this ⊢; exact this⟩
    · obtain rfl : gk = 0 := by omega
      have hRA : A = R := by rw [← hR, List.drop_eq_nil_of_le (by rw [HH.out.2.2]; omega)]; simp
      subst hRA
      have HX := Lib.hid (⟨S.ext, refs_own hr0⟩ : _ ∧ _)
      clear hR S hr0 hA hm
      go_wp2_with fail
      go_ret
      exact ⟨_, rfl, HX.out.1, HX.out.2⟩
end Go.Proofs.YtgpgamohcafklaaGreatDoor.Tr

/-! TrZ: tree: the chapter's example, plain. -/
namespace Go.Proofs.YtgpgamohcafklaaGreatDoor.Tr
open Go.RowKit
def nullNd : Nd := ⟨1, 0, 0, ⟨#[]⟩, []⟩
def numNd (n : Int) : Nd := ⟨3, n, 0, ⟨#[]⟩, []⟩
def exL : List Nd := [⟨8, 0, 0, ⟨#[]⟩, [1, 2, 3, 4]⟩, nameNd ⟨#[65]⟩, nullNd, nameNd ⟨#[66]⟩, numNd 1]
theorem nm_a : nameN ⟨#[65]⟩ = 0 := by rfl
theorem nm_b : nameN ⟨#[66]⟩ = 0 := by rfl
theorem sh_ex : shapeN exL = some ([5, 2, 3, 4, 5], [1, 2, 2, 2, 2]) := by rfl
theorem less_ab : Op.bytesLess (ByteArray.toList ⟨#[65]⟩) (ByteArray.toList ⟨#[66]⟩) = true := by
  rw [ByteArray.toList_eq, ByteArray.toList_eq]; rfl
theorem ck_ex : checkN exL = 0 := by
  unfold checkN
  rw [sh_ex]
  have e1 : bareN (nameNd ⟨#[65]⟩) = true := by simp [bareN, nameNd, nm_a]
  have e2 : bareN (nameNd ⟨#[66]⟩) = true := by simp [bareN, nameNd, nm_b]
  have e3 : bareN nullNd = true := by simp [bareN, nullNd]
  have e4 : bareN (numNd 1) = true := by simp [bareN, numNd]
  have e5 : bareN ⟨8, 0, 0, ⟨#[]⟩, [1, 2, 3, 4]⟩ = true := by simp [bareN]
  have e6 : risesN exL none [1, 2, 3, 4] = true := by
    show (decide ((6 : Int) = 6) && true && (decide ((6 : Int) = 6) && belowN (some ⟨#[65]⟩) ⟨#[66]⟩ && true)) = true
    rw [show belowN (some ⟨#[65]⟩) ⟨#[66]⟩ = true from less_ab]
    rfl
  have e7 : exL.all (nodeOk exL) = true := by
    show (nodeOk exL _ && (nodeOk exL _ && (nodeOk exL _ && (nodeOk exL _ && (nodeOk exL _ && true))))) = true
    have o1 : nodeOk exL ⟨8, 0, 0, ⟨#[]⟩, [1, 2, 3, 4]⟩ = true := by rw [nodeOk, e5]; simp [e6]
    have o2 : nodeOk exL (nameNd ⟨#[65]⟩) = true := by rw [nodeOk, e1]; rfl
    have o3 : nodeOk exL nullNd = true := by rw [nodeOk, e3]; rfl
    have o4 : nodeOk exL (nameNd ⟨#[66]⟩) = true := by rw [nodeOk, e2]; rfl
    have o5 : nodeOk exL (numNd 1) = true := by rw [nodeOk, e4]; rfl
    rw [o1, o2, o3, o4, o5]
    rfl
  rw [e7]
  rfl
theorem cmp_ba : cmpN ⟨#[66]⟩ ⟨#[65]⟩ = 1 := rfl
theorem cmp_ab : cmpN ⟨#[65]⟩ ⟨#[66]⟩ = -1 := rfl
theorem cmp_aa : cmpN ⟨#[65]⟩ ⟨#[65]⟩ = 0 := rfl
theorem nm_ex : namesN exL = [⟨#[65]⟩, ⟨#[66]⟩] := by
  have h : isN exL 8 = true := by rw [isN, ck_ex]; rfl
  rw [namesN, h]
  rfl
theorem get_ex : getN exL ⟨#[65]⟩ = some [nullNd] := by
  have h1 : findN [⟨#[65]⟩, ⟨#[66]⟩] ⟨#[65]⟩ = 0 := rfl
  have h2 : foundN [⟨#[65]⟩, ⟨#[66]⟩] ⟨#[65]⟩ = true := rfl
  rw [getN, nm_ex, h1, h2]
  have h3 : ((ndAt exL 0).kids.getD (2 * 0 + 1) 0).toNat = 2 := rfl
  rw [h3, if_pos rfl, subN, sh_ex]
  rfl
theorem one_ok {x : Nd} (hk : x.kids = []) (h8 : x.kind ≠ 8) (hb : bareN x = true) : checkN [x] = 0 := by
  have hs : shapeN [x] = some ([1], [1]) := by
    obtain ⟨a, b, c, d, e⟩ := x
    simp only at hk
    subst hk
    rfl
  unfold checkN
  rw [hs]
  have : [x].all (nodeOk [x]) = true := by simp [nodeOk, hb, h8]
  rw [this]
  rfl
theorem ck_null : checkN [nullNd] = 0 := one_ok rfl (by decide) (by simp [bareN, nullNd])
theorem ck_num : checkN [numNd 1] = 0 := one_ok rfl (by decide) (by simp [bareN, numNd])
theorem dict_ex : dictionN [⟨#[66]⟩, ⟨#[65]⟩] [[numNd 1], [nullNd]] = (exL, 0) := by
  have h1 : firstN [[numNd 1], [nullNd]] = 0 := by rw [firstN, ck_num, if_pos rfl, firstN, ck_null, if_pos rfl, firstN]
  have h2 : ([⟨#[66]⟩, ⟨#[65]⟩] : List ByteArray).any (fun s => decide (nameN s ≠ 0)) = false := by simp [nm_a, nm_b]
  rw [dictionN, h1, h2, if_neg (by simp), if_neg (by simp), dictN]
  have h3 : sortG (fun p : Ent => p.1) (([⟨#[66]⟩, ⟨#[65]⟩] : List ByteArray).zip [[numNd 1], [nullNd]]) = [(⟨#[65]⟩, [nullNd]), (⟨#[66]⟩, [numNd 1])] := rfl
  have h4 : twiceF none [(⟨#[65]⟩, [nullNd]), (⟨#[66]⟩, [numNd 1])] = false := by
    simp [twiceF, likeN, ByteArray.toList_eq]
  rw [h3, h4, if_neg (by simp)]
  have h5 : underN 8 (allN [(⟨#[65]⟩, [nullNd]), (⟨#[66]⟩, [numNd 1])]) = if checkN exL = 0 then (exL, 0) else ([], checkN exL) := rfl
  rw [h5, ck_ex, if_pos rfl]
end Go.Proofs.YtgpgamohcafklaaGreatDoor.Tr

/-! TsA: law17: the chapter's example, lives walked. -/
namespace Go.Proofs.YtgpgamohcafklaaGreatDoor.Tr
open Go.RowKit

theorem one_nodes {w : World} {g : Nat} {x : Nd} (h : w.heap[g]? = some (.cells #[.int .i64 x.kind, .int .i64 x.n, .int .i64 x.gen, .string x.s, .slice none 0 0] 47)) (hk : x.kids = []) (hn : -9223372036854775808 ≤ x.n ∧ x.n ≤ 9223372036854775807) (hs : x.s.size ≤ 9223372036854775807) :
    NodesAt w (.slice (some ⟨g, 0, none⟩) 1 1) [x] :=
  ⟨_, 1, rfl, Nat.le_refl _, fun i hi => by
    obtain rfl : i = 0 := by simpa using hi
    exact ⟨g, 0, rfl, cellOf h 0, cellOf h 1, cellOf h 2, cellOf h 3, ⟨hn, hs, by show x.kids.length ≤ _; rw [hk]; exact Nat.zero_le _, fun k hk2 => by rw [show ([x][0]'hi).kids = [] from hk] at hk2; cases hk2⟩, none, 0, by rw [show ([x][0]'hi).kids = [] from hk]; exact cellOf h 4, fun i hi2 => by rw [show ([x][0]'hi).kids = [] from hk] at hi2; cases hi2⟩⟩
theorem strs2 {w : World} {g : Nat} {a b : ByteArray} {t : TypeId} {f : Nat × Nat} (h : w.heap[g]? = some (.cells #[.string a, .string b] t f)) : StrsAt w (.slice (some ⟨g, 0, none⟩) 2 2) [a, b] :=
  ⟨_, 2, rfl, Nat.le_refl _, fun i hi => by
    match i, hi with
    | 0, _ => exact ⟨g, 0, rfl, cellOf h 0⟩
    | 1, _ => exact ⟨g, 0, rfl, cellOf h 1⟩⟩
theorem trees2 {w : World} {g : Nat} {u v : Value} {a b : List Nd} {t : TypeId} {f : Nat × Nat} (h : w.heap[g]? = some (.cells #[u, v] t f)) (hu : NodesAt w u a) (hv : NodesAt w v b) : TreesAt w (.slice (some ⟨g, 0, none⟩) 2 2) [a, b] :=
  ⟨_, 2, rfl, Nat.le_refl _, fun i hi => by
    match i, hi with
    | 0, _ => exact ⟨g, 0, u, rfl, cellOf h 0, hu⟩
    | 1, _ => exact ⟨g, 0, v, rfl, cellOf h 1, hv⟩⟩
theorem lt_ex : Lt exL := ⟨by decide, by decide⟩
/-- the five nodes as they are written out -/
def ex25 (g : Nat) : Obj := .cells #[.int .i64 8, .int .i64 0, .int .i64 0, .string ⟨#[]⟩, .slice (some ⟨g, 0, none⟩) 4 4, .int .i64 6, .int .i64 0, .int .i64 0, .string ⟨#[65]⟩, .slice none 0 0, .int .i64 1, .int .i64 0, .int .i64 0, .string ⟨#[]⟩, .slice none 0 0, .int .i64 6, .int .i64 0, .int .i64 0, .string ⟨#[66]⟩, .slice none 0 0, .int .i64 3, .int .i64 1, .int .i64 0, .string ⟨#[]⟩, .slice none 0 0] 47
theorem wf0 (x : Nd) (hk : x.kids = []) (hn : -9223372036854775808 ≤ x.n ∧ x.n ≤ 9223372036854775807) (hs : x.s.size ≤ 9223372036854775807) : NdWf x := ⟨hn, hs, by rw [hk]; exact Nat.zero_le _, fun k hk2 => by rw [hk] at hk2; cases hk2⟩
theorem wf_root : NdWf ⟨8, 0, 0, ⟨#[]⟩, [1, 2, 3, 4]⟩ := ⟨by decide, by decide, by decide, by decide⟩
theorem ex_lit {w : World} {g q : Nat} (hg : w.heap[g]? = some (.cells #[.int .i64 1, .int .i64 2, .int .i64 3, .int .i64 4] 3)) (hq : w.heap[q]? = some (ex25 g)) : NodesAt w (.slice (some ⟨q, 0, none⟩) 5 5) exL :=
  ⟨_, 5, rfl, Nat.le_refl _, fun i hi => by
    match i, hi with
    | 0, _ => exact ⟨q, 0, rfl, cellOf hq 0, cellOf hq 1, cellOf hq 2, cellOf hq 3, wf_root, some ⟨g, 0, none⟩, 4, cellOf hq 4, fun k hk => by
        match k, hk with
        | 0, _ => exact ⟨g, 0, rfl, cellOf hg 0⟩
        | 1, _ => exact ⟨g, 0, rfl, cellOf hg 1⟩
        | 2, _ => exact ⟨g, 0, rfl, cellOf hg 2⟩
        | 3, _ => exact ⟨g, 0, rfl, cellOf hg 3⟩⟩
    | 1, _ => exact ⟨q, 0, rfl, cellOf hq 5, cellOf hq 6, cellOf hq 7, cellOf hq 8, wf0 (nameNd ⟨#[65]⟩) rfl (by decide) (by decide), none, 0, cellOf hq 9, fun k hk => by cases hk⟩
    | 2, _ => exact ⟨q, 0, rfl, cellOf hq 10, cellOf hq 11, cellOf hq 12, cellOf hq 13, wf0 nullNd rfl (by decide) (by decide), none, 0, cellOf hq 14, fun k hk => by cases hk⟩
    | 3, _ => exact ⟨q, 0, rfl, cellOf hq 15, cellOf hq 16, cellOf hq 17, cellOf hq 18, wf0 (nameNd ⟨#[66]⟩) rfl (by decide) (by decide), none, 0, cellOf hq 19, fun k hk => by cases hk⟩
    | 4, _ => exact ⟨q, 0, rfl, cellOf hq 20, cellOf hq 21, cellOf hq 22, cellOf hq 23, wf0 (numNd 1) rfl (by decide) (by decide), none, 0, cellOf hq 24, fun k hk => by cases hk⟩⟩
end Go.Proofs.YtgpgamohcafklaaGreatDoor.Tr
