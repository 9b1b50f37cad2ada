/-
  huff: cmp.Compare, cmp.Or at int; the nodes' order walked.
-/
import Derived.Test.YtchhgbhbldfofaaHuQ
import Derived.Test.YtchhgbhbldfofaaKit
import Derived.Test.YtchhgbhbldfofaaRow
namespace Go.Proofs.Ytchhgbhbldfofaa.Hu
open Go.RowKit

set_option maxHeartbeats 2000000 in
theorem isNaN_walk (a : Int) (w : World) : Calls Try.prog 48 #[.int .i64 a] w fun e w' => e = .returned (.bool false) ∧ w = w' := by
  go_enter Try.func48, Try.ntmps48
  go_wp2
  go_ret
  exact ⟨rfl, rfl⟩
set_option maxRecDepth 100000 in
set_option maxHeartbeats 4000000 in
theorem cmp_walk (a b : Int) (w : World) : Calls Try.prog 37 #[.int .i64 a, .int .i64 b] w fun e w' => e = .returned (.int .i64 (cmpZ a b)) ∧ w = w' := by
  rcases cmpZ_cases a b with ⟨h, e⟩ | ⟨h, e⟩ | ⟨h, e⟩
  · rw [e]
    clear e
    go_enter Try.func37, Try.ntmps37
    go_wp2_with fail
    refine (isNaN_walk _ _).mono ?_; rintro e w1 ⟨rfl, rfl⟩
    go_wp2_with fail
    refine (isNaN_walk _ _).mono ?_; rintro e w1 ⟨rfl, rfl⟩
    go_wp2_with fail
    go_ret
    exact ⟨rfl, rfl⟩
  · rw [e]
    have h' : ¬ a < b := by omega
    clear e
    go_enter Try.func37, Try.ntmps37
    go_wp2_with fail
    refine (isNaN_walk _ _).mono ?_; rintro e w1 ⟨rfl, rfl⟩
    go_wp2_with fail
    refine (isNaN_walk _ _).mono ?_; rintro e w1 ⟨rfl, rfl⟩
    go_wp2_with fail
    go_ret
    exact ⟨rfl, rfl⟩
  · rw [e]
    subst h
    have h' : ¬ a < a := by omega
    clear e
    go_enter Try.func37, Try.ntmps37
    go_wp2_with fail
    refine (isNaN_walk _ _).mono ?_; rintro e w1 ⟨rfl, rfl⟩
    go_wp2_with fail
    refine (isNaN_walk _ _).mono ?_; rintro e w1 ⟨rfl, rfl⟩
    go_wp2_with fail
    go_ret
    exact ⟨rfl, rfl⟩
set_option maxRecDepth 100000 in
set_option maxHeartbeats 4000000 in
theorem or_walk (a b c : Int) (g cap : Nat) (w : World) (h0 : w.cell? ⟨g, 0, none⟩ = some (.int .i64 a)) (h1 : w.cell? ⟨g, 1, none⟩ = some (.int .i64 b)) (h2 : w.cell? ⟨g, 2, none⟩ = some (.int .i64 c)) :
    Calls Try.prog 86 #[.slice (some ⟨g, 0, none⟩) 3 cap] w fun e w' => e = .returned (.int .i64 (or3 a b c)) ∧ w = w' := by
  obtain ⟨R, hR⟩ : ∃ R, or3 a b c = R := ⟨_, rfl⟩
  rw [hR]
  have HR := Lib.hid hR
  have HC := Lib.hid (⟨h0, h1, h2⟩ : _ ∧ _ ∧ _)
  clear hR h0 h1 h2
  go_enter Try.func86, Try.ntmps86
  go_wp2_with fail
  go_loopg [5, 8] 3 (fun gg _ iv wr => ∃ k : Nat, gg + k = 3 ∧ iv = .int .i64 k ∧ (0 < k → a = 0) ∧ (1 < k → b = 0) ∧ (2 < k → c = 0) ∧ w = wr)
  case atStart => exact ⟨0, by omega, rfl, by omega, by omega, by omega, rfl⟩
  case round =>
    obtain ⟨k, hk, rfl, k0, k1, k2, rfl⟩ := hrel
    by_cases hlt : k < 3
    · have hv : ∃ x, w.cell? ⟨g, k, none⟩ = some (.int .i64 x) ∧ (x ≠ 0 → R = x) ∧ (x = 0 → (0 < k + 1 → a = 0) ∧ (1 < k + 1 → b = 0) ∧ (2 < k + 1 → c = 0)) := by
        have hR := HR.out
        unfold or3 at hR
        match k, hlt with
        | 0, _ => exact ⟨a, HC.out.1, fun h => by rw [if_pos h] at hR; exact hR.symm, fun h => ⟨fun _ => h, by omega, by omega⟩⟩
        | 1, _ => exact ⟨b, HC.out.2.1, fun h => by rw [if_neg (by simp [k0 (by omega)]), if_pos h] at hR; exact hR.symm, fun h => ⟨fun _ => k0 (by omega), fun _ => h, by omega⟩⟩
        | 2, _ => exact ⟨c, HC.out.2.2, fun h => by rw [if_neg (by simp [k0 (by omega)]), if_neg (by simp [k1 (by omega)])] at hR; exact hR.symm, fun h => ⟨fun _ => k0 (by omega), fun _ => k1 (by omega), fun _ => h⟩⟩
      obtain ⟨x, hx, hx1, hx2⟩ := hv
      have HX1 := Lib.hid hx1
      have HX2 := Lib.hid hx2
      clear hx1 hx2 k0 k1 k2
      by_cases h0 : x = 0
      · subst h0
        go_wp2_with fail
        go_roundg (3 - (k + 1))
        case measure => omega
        case rel => exact ⟨k + 1, by omega, by go_num, (HX2.out (by trivial)).1, (HX2.out (by trivial)).2.1, (HX2.out (by trivial)).2.2, rfl⟩
      · have e0 : (x == 0) = false := beq_eq_false_iff_ne.2 h0
        have e1 : (x != 0) = true := by simpa using h0
        have hRx := HX1.out h0
        subst hRx
        clear h0
        go_wp2_with fail
        go_ret
        exact ⟨rfl, rfl⟩
    · obtain rfl : k = 3 := by omega
      have hR : R = 0 := by
        have hR := HR.out
        unfold or3 at hR
        rw [if_neg (by simp [k0 (by omega)]), if_neg (by simp [k1 (by omega)])] at hR
        rw [← hR]; exact k2 (by omega)
      subst hR
      clear k0 k1 k2
      go_wp2_with fail
      go_ret
      exact ⟨rfl, rfl⟩
/-! ### nodes in memory -/
abbrev ptr (a : Nat) : Value := .pointer (some ⟨a, 0, none⟩)
abbrev ndO (x : Nd) (p : Value) : Obj := .cells #[.int .i64 x.cnt, .bool x.mk, .int .i64 (x.age : Int), p] 94 (0, 0)
set_option maxHeartbeats 2000000 in
theorem made_walk (a : Nat) (x : Nd) (p : Value) (w : World) (h : w.heap[a]? = some (ndO x p)) : Calls Try.prog 85 #[ptr a] w fun e w' => e = .returned (.int .i64 (b2i x.mk)) ∧ w = w' := by
  have c1 : w.cell? ⟨a, 1, none⟩ = some (.bool x.mk) := cellOf h 1
  cases hm : x.mk
  · rw [hm] at c1
    clear hm h
    go_enter Try.func85, Try.ntmps85
    go_wp2
    go_ret
    exact ⟨rfl, rfl⟩
  · rw [hm] at c1
    clear hm h
    go_enter Try.func85, Try.ntmps85
    go_wp2
    go_ret
    exact ⟨rfl, rfl⟩
set_option maxRecDepth 100000 in
set_option maxHeartbeats 8000000 in
theorem compare_walk (a b : Nat) (x y : Nd) (p q : Value) (w : World) (ha : w.heap[a]? = some (ndO x p)) (hb : w.heap[b]? = some (ndO y q)) :
    Calls Try.prog 84 #[ptr a, ptr b] w fun e w' => e = .returned (.int .i64 (ordZ x y)) ∧ Ext [] w w' := by
  have a0 : ∀ z : Ex w, z.w.cell? ⟨a, 0, none⟩ = some (.int .i64 x.cnt) := fun z => cellOf (z.heap ha) 0
  have a2 : ∀ z : Ex w, z.w.cell? ⟨a, 2, none⟩ = some (.int .i64 (x.age : Int)) := fun z => cellOf (z.heap ha) 2
  have b0 : ∀ z : Ex w, z.w.cell? ⟨b, 0, none⟩ = some (.int .i64 y.cnt) := fun z => cellOf (z.heap hb) 0
  have b2 : ∀ z : Ex w, z.w.cell? ⟨b, 2, none⟩ = some (.int .i64 (y.age : Int)) := fun z => cellOf (z.heap hb) 2
  have HAB := Lib.hid (⟨ha, hb⟩ : _ ∧ _)
  clear ha hb
  go_enter Try.func84, Try.ntmps84
  go_wp2_with fail
  refine wp_region_quiet_tail (C := fun w' => ∃ x : Ex w, w' = x.w) 25 (by kernel_rfl) (by kernel_rfl) ⟨Ex.mk _ ((Ext.refl [] w).drew), rfl⟩ ?_
  simp only [List.take_succ_cons, List.take_zero, List.drop_succ_cons, List.drop_zero]
  repeat (go_big_quiet_step (first
    | (go_at_call 37; refine (cmp_walk _ _ _).mono ?_; rintro e w' ⟨rfl, rfl⟩; exact ⟨rfl, _, rfl⟩)
    | (go_at_call 85; refine (made_walk a x p _ (Ex.heap _ HAB.out.1)).mono ?_; rintro e w' ⟨rfl, rfl⟩; exact ⟨rfl, _, rfl⟩)
    | (go_at_call 85; refine (made_walk b y q _ (Ex.heap _ HAB.out.2)).mono ?_; rintro e w' ⟨rfl, rfl⟩; exact ⟨rfl, _, rfl⟩)))
  refine wpQuiet_nil ?_
  rintro _ ⟨z, rfl⟩
  have HZ := Lib.hid z.ext
  clear a0 a2 b0 b2
  obtain ⟨W, hW⟩ : ∃ W, z.w = W := ⟨_, rfl⟩
  rw [hW] at HZ
  rw [hW]
  clear hW
  have hB := heap_alloc_at (w := W) (.cells #[.int .i64 (cmpZ x.cnt y.cnt), .int .i64 (cmpZ (b2i x.mk) (b2i y.mk)), .int .i64 (cmpZ x.age y.age)] 3)
  have HOR := Lib.hid (or_walk (cmpZ x.cnt y.cnt) (cmpZ (b2i x.mk) (b2i y.mk)) (cmpZ x.age y.age) W.heap.size 3 _ (cellOf hB 0) (cellOf hB 1) (cellOf hB 2))
  clear hB
  go_wp2_with fail
  refine HOR.out.mono ?_
  clear HOR
  rintro e w1 ⟨rfl, rfl⟩
  go_wp2_with fail
  go_ret
  exact ⟨rfl, HZ.out.alloc _⟩

/-! ### the heap's row -/
def pv (p : Pn) : Value := ptr p.1
/-- node a in the world: its blocks are of N -/
def NdAt (w : World) (N : List Nat) : Nat → Nd → Prop
  | a, .leaf c s => a ∈ N ∧ w.heap[a]? = some (ndO (.leaf c s) (.slice none 0 0))
  | a, .join c g x y => a ∈ N ∧ ∃ r ax ay, r ∈ N ∧ w.heap[a]? = some (ndO (.join c g x y) (.slice (some ⟨r, 0, none⟩) 2 2)) ∧ w.heap[r]? = some (.cells #[ptr ax, ptr ay] 92 (0, 0)) ∧ NdAt w N ax x ∧ NdAt w N ay y
theorem NdAt.ext {S N : List Nat} {w w' : World} (hx : Ext S w w') (hN : ∀ k ∈ N, k ∉ S) : ∀ {x : Nd} {a : Nat}, NdAt w N a x → NdAt w' N a x
  | .leaf _ _, _, h => ⟨h.1, hx.keep h.2 (hN _ h.1)⟩
  | .join _ _ _ _, _, ⟨h1, r, ax, ay, h2, h3, h4, h5, h6⟩ => ⟨h1, r, ax, ay, h2, hx.keep h3 (hN _ h1), hx.keep h4 (hN _ h2), NdAt.ext hx hN h5, NdAt.ext hx hN h6⟩
theorem NdAt.mono {N M : List Nat} {w : World} (hN : ∀ k ∈ N, k ∈ M) : ∀ {x : Nd} {a : Nat}, NdAt w N a x → NdAt w M a x
  | .leaf _ _, _, h => ⟨hN _ h.1, h.2⟩
  | .join _ _ _ _, _, ⟨h1, r, ax, ay, h2, h3, h4, h5, h6⟩ => ⟨hN _ h1, r, ax, ay, hN _ h2, h3, h4, NdAt.mono hN h5, NdAt.mono hN h6⟩
theorem NdAt.head {N : List Nat} {w : World} {x : Nd} {a : Nat} (h : NdAt w N a x) : ∃ p, w.heap[a]? = some (ndO x p) := by
  cases x with
  | leaf c s => exact ⟨_, h.2⟩
  | join c g x y => obtain ⟨_, _, _, _, _, h3, _⟩ := h; exact ⟨_, h3⟩
theorem NdAt.lt {N : List Nat} {w : World} {x : Nd} {a : Nat} (h : NdAt w N a x) : a < w.heap.size := by
  obtain ⟨p, hp⟩ := h.head
  exact lt_of_block hp
/-- the row of a heap, and the nodes that it tells -/
structure HpR (w : World) (v : Value) (N : List Nat) (H : List Pn) : Prop where
  own : w.ownsRow 0 92 1 v H.length (H.map pv)
  far : ∀ g, v.ownBlock = some g → g ∉ N
  nds : ∀ p ∈ H, NdAt w N p.1 p.2
  lt : ∀ k ∈ N, k < w.heap.size
theorem HpR.ext {S N : List Nat} {w w' : World} {v : Value} {H : List Pn} (h : HpR w v N H) (hx : Ext S w w') (hv : ∀ g, v.ownBlock = some g → g ∉ S) (hN : ∀ k ∈ N, k ∉ S) : HpR w' v N H :=
  ⟨ownsRow_ext h.own hx hv, h.far, fun p hp => (h.nds p hp).ext hx hN, fun k hk => Nat.lt_of_lt_of_le (h.lt k hk) hx.size⟩
theorem HpR.form {N : List Nat} {w : World} {v : Value} {H : List Pn} (h : HpR w v N H) (h0 : 0 < H.length) : ∃ g cap, v = .slice (some ⟨g, 0, none⟩) H.length cap ∧ H.length ≤ cap ∧ cap ≤ maxLen := by
  rcases h.own.2 with ⟨_, hn⟩ | ⟨g, cap, cs, rfl, _, hg, hnc, hcap, _⟩
  · omega
  · exact ⟨g, cap, rfl, hnc, hcap⟩
theorem at_get {H : List Pn} {i : Nat} (h : i < H.length) : H[i]? = some (at_ H i) := by
  unfold at_
  rw [List.getD_eq_getElem?_getD, List.getElem?_eq_getElem h]
  rfl
theorem HpR.cell {N : List Nat} {w : World} {g cap : Nat} {H : List Pn} (h : HpR w (.slice (some ⟨g, 0, none⟩) H.length cap) N H) {i : Nat} (hi : i < H.length) : w.cell? ⟨g, i, none⟩ = some (ptr (at_ H i).1) :=
  ownsRow_at h.own (by rw [List.getElem?_map, at_get hi]; rfl)
set_option maxRecDepth 100000 in
set_option maxHeartbeats 4000000 in
theorem less_walk (v : Value) (N : List Nat) (H : List Pn) (i j : Nat) (w : World) (hR : HpR w v N H) (hi : i < H.length) (hj : j < H.length) :
    Calls Try.prog 82 #[v, .int .i64 i, .int .i64 j] w fun e w' => e = .returned (.bool (pnLt (at_ H i) (at_ H j))) ∧ Ext [] w w' := by
  obtain ⟨g, cap, rfl, _, _⟩ := hR.form (by omega)
  have hi' : ∀ z : Ex w, z.w.cell? ⟨g, i, none⟩ = some (ptr (at_ H i).1) := fun z => z.cell (hR.cell hi)
  have hj' : ∀ z : Ex w, z.w.cell? ⟨g, j, none⟩ = some (ptr (at_ H j).1) := fun z => z.cell (hR.cell hj)
  obtain ⟨p, hp⟩ := (hR.nds _ (List.mem_of_getElem? (at_get hi))).head
  obtain ⟨q, hq⟩ := (hR.nds _ (List.mem_of_getElem? (at_get hj))).head
  have HPQ := Lib.hid (⟨hp, hq⟩ : _ ∧ _)
  have e : pnLt (at_ H i) (at_ H j) = decide (ordZ (at_ H i).2 (at_ H j).2 < 0) := rfl
  rw [e]
  generalize at_ H i = x at *
  generalize at_ H j = y at *
  obtain ⟨xa, x⟩ := x
  obtain ⟨ya, y⟩ := y
  simp only at hi' hj' HPQ ⊢
  clear hp hq e hR
  go_enter Try.func82, Try.ntmps82
  go_wp2_with fail
  refine wp_region_ext (by kernel_rfl) (by kernel_rfl) ?_
  repeat (go_big_quiet_step ((go_at_call 84; refine (compare_walk xa ya x y p q _ (Ex.heap _ HPQ.out.1) (Ex.heap _ HPQ.out.2)).mono ?_; rintro e w' ⟨rfl, hx⟩; exact ⟨rfl, Ex.mk _ (Ext.trans (Ex.ext _) hx), rfl⟩)))
  refine wpQuiet_nil ?_
  rintro _ ⟨z, rfl⟩
  have HZ := Lib.hid z.ext
  go_wp2_with fail
  go_ret
  exact ⟨rfl, HZ.out⟩
set_option maxHeartbeats 2000000 in
theorem len_walk (ao : Option Addr) (n cap : Nat) (w : World) : Calls Try.prog 81 #[.slice ao n cap] w fun e w' => e = .returned (.int .i64 n) ∧ w = w' := by
  go_enter Try.func81, Try.ntmps81
  go_wp2
  go_ret
  exact ⟨rfl, rfl⟩
end Go.Proofs.Ytchhgbhbldfofaa.Hu
