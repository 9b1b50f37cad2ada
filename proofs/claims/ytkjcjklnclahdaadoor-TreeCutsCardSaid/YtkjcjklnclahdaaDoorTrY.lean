/-
  tree: Refs walked; kit.Same of strings.
-/
import Derived.Test.YtkjcjklnclahdaaDoorTrW
namespace Go.Proofs.YtkjcjklnclahdaaDoor.Tr
open Go.RowKit

def sameS : List ByteArray → List ByteArray → Bool
  | [], [] => true
  | x :: a, y :: b => (x.toList == y.toList) && sameS a b
  | _, _ => false
theorem sameS_iff : ∀ a b : List ByteArray, sameS a b = true ↔ a = b
  | [], [] => by simp [sameS]
  | x :: a, y :: b => by
    rw [sameS, Bool.and_eq_true, sameS_iff a b, List.cons.injEq, beq_iff_eq]
    exact ⟨fun h => ⟨bytes_eq h.1, h.2⟩, fun h => ⟨by rw [h.1], h.2⟩⟩
  | [], _ :: _ => by simp [sameS]
  | _ :: _, [] => by simp [sameS]
theorem sameS_len : ∀ {a b : List ByteArray}, a.length ≠ b.length → sameS a b = false
  | [], [], h => absurd rfl h
  | x :: a, y :: b, h => by rw [sameS, sameS_len (a := a) (b := b) (by simpa using h), Bool.and_false]
  | [], _ :: _, _ => rfl
  | _ :: _, [], _ => rfl
set_option maxRecDepth 100000 in
set_option maxHeartbeats 2000000 in
theorem sameS_walk (u v : Value) (a b : List ByteArray) (w : World) (hu : StrsAt w u a) (hv : StrsAt w v b) (ha : a.length ≤ 9223372036854775807) (hb : b.length ≤ 9223372036854775807) :
    Calls Tryd.prog 32 #[u, v] w fun e w' => e = .returned (.bool (sameS a b)) ∧ Ext [] w w' := by
  obtain ⟨ub, uc, rfl, -, hU⟩ := hu
  obtain ⟨vb, vc, rfl, -, hV⟩ := hv
  obtain ⟨n, hn⟩ : ∃ n, a.length = n := ⟨_, rfl⟩
  obtain ⟨m, hm⟩ : ∃ m, b.length = m := ⟨_, rfl⟩
  obtain ⟨R, hR⟩ : ∃ R, sameS a b = R := ⟨_, rfl⟩
  rw [hR]
  have HH := Lib.hid (⟨hU, hV, hn, hm, hR⟩ : _ ∧ _ ∧ _ ∧ _ ∧ _)
  rw [hn] at ha ⊢
  rw [hm] at hb ⊢
  clear hU hV hR
  by_cases hnm : n = m
  case neg =>
    have hR : R = false := by rw [← HH.out.2.2.2.2]; exact sameS_len (by rw [hn, hm]; exact hnm)
    subst hR
    have hbb : ((n : Int) != (m : Int)) = true := bne_iff_ne.2 (by omega)
    clear hn hm
    go_enter Tryd.func32, Tryd.ntmps32
    go_wp2_with fail
    go_ret
    exact ⟨rfl, Ext.refl _ _⟩
  case pos =>
  subst hnm
  have hbb : ((n : Int) != (n : Int)) = false := bne_self_eq_false _
  clear hn hm hb
  go_enter Tryd.func32, Tryd.ntmps32
  go_wp2_with fail
  clear hbb
  go_loopg [4, 5] n (fun g v4 iv wr => ∃ i : Nat, g + i = n ∧ iv = .int .i64 i ∧ sameS (a.drop i) (b.drop i) = R ∧ Ext [] w wr)
  case atStart => exact ⟨0, by omega, rfl, HH.out.2.2.2.2, Ext.refl _ _⟩
  case round =>
    obtain ⟨i, hgi, rfl, hR, hx⟩ := hrel
    by_cases hlt : i < n
    case neg =>
      obtain rfl : gk = 0 := by omega
      have hR0 : R = true := by rw [← hR, List.drop_eq_nil_of_le (by rw [HH.out.2.2.1]; omega), List.drop_eq_nil_of_le (by rw [HH.out.2.2.2.1]; omega)]; rfl
      subst hR0
      have HX := Lib.hid hx
      clear hx hR
      go_wp2_with fail
      go_ret
      exact ⟨rfl, HX.out⟩
    case pos =>
    obtain ⟨g, rfl⟩ : ∃ g, gk = g + 1 := ⟨gk - 1, by omega⟩
    have hltz : (i : Int) < (n : Int) := by omega
    have hia : i < a.length := by rw [HH.out.2.2.1]; exact hlt
    have hib : i < b.length := by rw [HH.out.2.2.2.1]; exact hlt
    rw [drop_at a i hia, drop_at b i hib, sameS] at hR
    obtain ⟨b1, o1, rfl, x1⟩ := HH.out.1 i hia
    obtain ⟨b2, o2, rfl, y1⟩ := HH.out.2.1 i hib
    have x1 := hx.cell x1
    have y1 := hx.cell y1
    generalize a[i]'hia = x at *
    generalize b[i]'hib = y at *
    have HX := Lib.hid (⟨hx, hR⟩ : _ ∧ _)
    clear hx hR
    cases q4 : (x.toList == y.toList) with
    | false =>
      have hR : R = false := by rw [← HX.out.2, q4]; rfl
      subst hR
      go_upto_region 6 with (fail)
      go_quiet (fail)
      go_wp2_with fail
      go_ret
      exact ⟨rfl, HX.out.1.drewN _⟩
    | true =>
      have HQ := Lib.hid q4
      go_upto_region 6 with (fail)
      go_quiet (fail)
      go_wp2_with fail
      go_roundg g
      case measure => omega
      case rel => exact ⟨i + 1, by omega, by go_num, by have := HX.out.2; rwa [HQ.out, Bool.true_and] at this, HX.out.1.drewN _⟩
/-! ### Refs -/
def refsN (l : List Nd) : List (Int × Int) := if checkN l = 0 then (l.filter fun x => decide (x.kind = 9)).map fun x => (x.n, x.gen) else []
def rfC (l : List (Int × Int)) : List Value := l.flatMap fun p => [.int .i64 p.1, .int .i64 p.2]
theorem rfC_append (a b : List (Int × Int)) : rfC (a ++ b) = rfC a ++ rfC b := by unfold rfC; rw [List.flatMap_append]
def RefsAt (w : World) (v : Value) (l : List (Int × Int)) : Prop := ∃ base cap, v = .slice base l.length cap ∧ l.length ≤ cap ∧ ∀ i (h : i < l.length), ∃ b o, base = some ⟨b, o, none⟩ ∧ w.cell? ⟨b, o + i * 2, none⟩ = some (.int .i64 (l[i]'h).1) ∧ w.cell? ⟨b, o + i * 2 + 1, none⟩ = some (.int .i64 (l[i]'h).2)
theorem infoRef17 : (Tryd.prog.info? 59).map (fun i => (i.zero, i.size, i.bytes)) = some (some (.agg #[.int .i64 0, .int .i64 0]), 2, 16) := by kernel_rfl
theorem rfC_at : ∀ (l : List (Int × Int)) (i : Nat) (h : i < l.length), (rfC l)[i * 2]? = some (.int .i64 (l[i]'h).1) ∧ (rfC l)[i * 2 + 1]? = some (.int .i64 (l[i]'h).2)
  | [], i, h => by simp at h
  | p :: l, i, h => by
    have e : rfC (p :: l) = .int .i64 p.1 :: .int .i64 p.2 :: rfC l := by simp [rfC]
    rw [e]
    cases i with
    | zero => exact ⟨rfl, rfl⟩
    | succ i =>
      rw [show (i + 1) * 2 = i * 2 + 2 by omega]
      exact rfC_at l i (by simpa using h)
theorem refs_own {w : World} {v : Value} {l : List (Int × Int)} (h : w.ownsRow 0 59 2 v l.length (rfC l)) : RefsAt w v l := by
  obtain ⟨ao, cap, rfl⟩ := row_slice h
  refine ⟨ao, cap, rfl, row_le h, fun i hi => ?_⟩
  obtain ⟨g, c2, he⟩ := row_form h (by omega)
  cases he
  obtain ⟨h1, h2⟩ := rfC_at l i hi
  exact ⟨g, 0, rfl, by rw [Nat.zero_add]; exact row_cell h h1, by rw [Nat.zero_add]; exact row_cell h h2⟩
theorem cells_two9 (w : World) (x y : Value) (t : TypeId) (f : Nat × Nat := (0, 0)) : ∀ j u, [x, y][j]? = some u → (w.alloc (.cells #[x, y] t f)).cell? ((⟨w.heap.size, 0, none⟩ : Addr).add j) = some u := by
  intro j u h
  have e : (⟨w.heap.size, 0, none⟩ : Addr).add j = ⟨w.heap.size, j, none⟩ := by unfold Addr.add; split <;> simp_all
  rw [e, cellOf (heap_alloc_at _), ← h]
  simp
set_option maxRecDepth 100000 in
set_option maxHeartbeats 2000000 in
theorem refs_walk (v : Value) (l : List Nd) (w : World) (h : NodesAt w v l) (hl : Lt l) :
    Calls Tryd.prog 23 #[v] w fun e w' => ∃ v2, e = .returned v2 ∧ Ext [] w w' ∧ RefsAt w' v2 (refsN l) := by
  obtain ⟨i0, hif, hz0, hz1, hz2⟩ := info_parts infoRef17
  have HC := Lib.hid (check_walk v l w h hl.len hl.s)
  obtain ⟨c, hc⟩ : ∃ c, checkN l = c := ⟨_, rfl⟩
  rw [hc] at HC
  by_cases c0 : c = 0
  case neg =>
    have hR : refsN l = [] := by rw [refsN, hc, if_neg c0]
    rw [hR]
    obtain ⟨base, cap, rfl, -, -⟩ := h
    have hcb : (c != 0) = true := bne_iff_ne.2 c0
    clear hR hc
    go_enter Tryd.func23, Tryd.ntmps23
    go_wp2_with fail
    refine HC.out.mono ?_
    rintro e w1 ⟨rfl, hx⟩
    have HX := Lib.hid hx
    clear hx HC
    go_wp2_with fail
    go_ret
    exact ⟨_, rfl, HX.out, none, 0, rfl, by simp, fun k hk => by cases hk⟩
  case pos =>
  subst c0
  obtain ⟨h0, hn, -⟩ := check_zero hc
  obtain ⟨R, hR⟩ : ∃ R, refsN l = R := ⟨_, rfl⟩
  rw [hR]
  rw [refsN, if_pos hc] at hR
  obtain ⟨base, cap, rfl, -, hN⟩ := h
  obtain ⟨n, hln⟩ : ∃ n, l.length = n := ⟨_, rfl⟩
  have HH := Lib.hid (⟨hN, hR, hln⟩ : _ ∧ _ ∧ _)
  rw [hln] at HC hn ⊢
  clear hN hR hln hc h0
  go_enter Tryd.func23, Tryd.ntmps23
  go_wp2_with fail
  refine HC.out.mono ?_
  rintro e w1 ⟨rfl, hx⟩
  have S := ((Sep.start w).quiet hx).new (Ext.refl _ _) (oSl 59 2 (.slice none 0 0) 0 []) (World.ownsRow_nil _ _ _ _) (fun q hq => by simp [oSl, Value.ownBlock] at hq)
  have HS := Lib.hid S
  clear hx HC S
  go_wp2_with fail
  go_loopg [3, 5, 11] n (fun g ov v5 iv wr => ∃ (i : Nat) (A : List (Int × Int)), g + i = n ∧ iv = .int .i64 i ∧ A.length ≤ i ∧ A ++ ((l.drop i).filter fun x => decide (x.kind = 9)).map (fun x => (x.n, x.gen)) = R ∧ Sep w wr [oSl 59 2 ov A.length (rfC A)])
  case atStart => exact ⟨0, [], by omega, rfl, by simp, HH.out.2.1, HS.out⟩
  case round =>
    clear HS
    obtain ⟨i, A, hgi, rfl, hA, hR, S⟩ := hrel
    have hr0 : wr.ownsRow 0 59 2 u3 A.length (rfC A) := S.get 0 rfl
    obtain ⟨ao3, c3, rfl⟩ := row_slice hr0
    obtain ⟨m, hm⟩ : ∃ m, A.length = m := ⟨_, rfl⟩
    by_cases hlt : i < n
    · obtain ⟨g, rfl⟩ : ∃ g, gk = g + 1 := ⟨gk - 1, by omega⟩
      have hltz : (i : Int) < (n : Int) := by omega
      have hil : i < l.length := by rw [HH.out.2.2]; exact hlt
      rw [drop_at l i hil, List.filter_cons] at hR
      obtain ⟨b, o, rfl, n1, n2, n3, n4, nw, bk, ck, n5, -⟩ := HH.out.1.ext S.ext i hil
      generalize l[i]'hil = x at *
      rw [hm] at hr0 hA ⊢
      have HX := Lib.hid (⟨S, hR, hr0, hm⟩ : _ ∧ _ ∧ _ ∧ _)
      clear S hR hr0 hm nw
      by_cases k9 : x.kind = 9
      · have hR := HX.out.2.1
        rw [if_pos (by simpa using k9), List.map_cons] at hR
        have HR := Lib.hid hR
        have k9b : (x.kind == 9) = true := by rw [k9]; rfl
        clear hR k9
        go_wp2_with (first | (at_builtin; refine wpList_append_lies _ rfl _ _ 45 rfl 0 59 i0 _ 2 16 Tryd.underlying45 hif hz0 hz1 hz2 rfl (by decide) (.slice ao3 m c3) m _ rfl (World.ownsRow.alloc (World.ownsRow.alloc HX.out.2.2.1 _) _) ⟨wr.heap.size + 1, 0, none⟩ 1 1 [.int .i64 x.n, .int .i64 x.gen] rfl rfl (by have := cells_two9 (wr.alloc (.cells #[.int .i64 x.kind, .int .i64 x.n, .int .i64 x.gen, .string x.s, .slice bk x.kids.length ck] 37)) (.int .i64 x.n) (.int .i64 x.gen) 59; rw [show (wr.alloc (.cells #[.int .i64 x.kind, .int .i64 x.n, .int .i64 x.gen, .string x.s, .slice bk x.kids.length ck] 37)).heap.size = wr.heap.size + 1 by simp] at this; exact this) (by simp [Value.oneCell']) (by decide) (by unfold maxLen; omega) (by omega) (by omega) (wr.heap.size + 2) (by simp) ?_; intro g6 cap2 w6 hown1 hgrow hat6 hlt6))
        have Pl := push_local (w := wr.alloc (.cells #[.int .i64 x.kind, .int .i64 x.n, .int .i64 x.gen, .string x.s, .slice bk x.kids.length ck] 37)) (cap := cap2) (n := m + 1) hgrow (by rcases hat6 with q1 | q1; exact .inl q1; exact .inr (by simp; omega))
        have S2 := HX.out.1.quiet ((Ext.refl [] wr).alloc (.cells #[.int .i64 x.kind, .int .i64 x.n, .int .i64 x.gen, .string x.s, .slice bk x.kids.length ck] 37))
        go_roundg g
        case measure => omega
        case rel =>
          have hl1 : (A ++ [(x.n, x.gen)]).length = m + 1 := by rw [List.length_append, HX.out.2.2.2]; rfl
          refine ⟨i + 1, A ++ [(x.n, x.gen)], by omega, by go_num, by omega, by rw [List.append_assoc]; exact HR.out, S2.upd 0 (oSl 59 2 (.slice (some ⟨g6, 0, none⟩) (m + 1) cap2) (A ++ [(x.n, x.gen)]).length (rfC (A ++ [(x.n, x.gen)]))) rfl (by rw [HX.out.2.2.2]; exact Pl.1) (by rw [HX.out.2.2.2]; exact Pl.2) ?_⟩
          show World.ownsRow _ 0 59 2 _ _ _
          rw [hl1, rfC_append]
          exact hown1
      · have hR := HX.out.2.1
        rw [if_neg (by simpa using k9)] at hR
        have HR := Lib.hid hR
        have k9b : (x.kind == 9) = false := beq_eq_false_iff_ne.2 k9
        clear hR k9
        go_wp2_with fail
        go_roundg g
        case measure => omega
        case rel => exact ⟨i + 1, A, by omega, by go_num, by rw [HX.out.2.2.2]; omega, HR.out, by have := HX.out.1.quiet ((Ext.refl [] wr).alloc (.cells #[.int .i64 x.kind, .int .i64 x.n, .int .i64 x.gen, .string x.s, .slice bk x.kids.length ck] 37)); rw [HX.out.2.2.2] at this ⊢; exact this⟩
    · obtain rfl : gk = 0 := by omega
      have hRA : A = R := by rw [← hR, List.drop_eq_nil_of_le (by rw [HH.out.2.2]; omega)]; simp
      subst hRA
      have HX := Lib.hid (⟨S.ext, refs_own hr0⟩ : _ ∧ _)
      clear hR S hr0 hA hm
      go_wp2_with fail
      go_ret
      exact ⟨_, rfl, HX.out.1, HX.out.2⟩
end Go.Proofs.YtkjcjklnclahdaaDoor.Tr
