/-
  XsK, XsL, XsM, in one text.
-/
import Derived.Test.YtkaimeogebgofaaGreatDoorXsJ
import Derived.Test.YtkaimeogebgofaaGreatDoorXsH
import Derived.Test.YtkaimeogebgofaaGreatDoorXtA
/-! XsK: xstream's plain facts: what Dict tells of itself, what is read of what was put. -/
namespace Go.Proofs.YtkaimeogebgofaaGreatDoor.Xs
open Go.RowKit
open Go.Proofs.YtkaimeogebgofaaGreatDoor.Tr

theorem ok3 {n : Int} (h : -2147483647 ≤ n ∧ n ≤ 2147483647) (l : List Nd) : nodeOk l (nd3 n) = true := by
  have hb : bareN (nd3 n) = true := by simp [bareN, nd3, h.1, h.2]
  rw [nodeOk, hb]; rfl
theorem dictD_all {n : Int} (h : -2147483647 ≤ n ∧ n ≤ 2147483647) : (dictD n).all (nodeOk (dictD n)) = true := by
  rw [List.all_eq_true]
  intro x hx
  simp only [dictD, d5L, List.cons_append, List.nil_append, List.mem_cons, List.not_mem_nil, or_false] at hx
  have k0 : nodeOk (dictD n) (rootN 8 [1, 2, 3, 4, 5, 6]) = true := by kernel_rfl
  have k1 : nodeOk (dictD n) (nd6 kSize) = true := by kernel_rfl
  have k3 : nodeOk (dictD n) (nd6 kType) = true := by kernel_rfl
  have k4 : nodeOk (dictD n) (nd6 kXRef) = true := by kernel_rfl
  have k5 : nodeOk (dictD n) (nd6 kW) = true := by kernel_rfl
  have k6 : nodeOk (dictD n) (rootN 7 [7, 8, 9]) = true := by kernel_rfl
  rcases hx with rfl | rfl | rfl | rfl | rfl | rfl | rfl | rfl | rfl | rfl
  · exact k0
  · exact k1
  · exact ok3 h _
  · exact k3
  · exact k4
  · exact k5
  · exact k6
  · exact ok3 (by decide) _
  · exact ok3 (by decide) _
  · exact ok3 (by decide) _
theorem dictD_check {n : Int} (h : -2147483647 ≤ n ∧ n ≤ 2147483647) : checkN (dictD n) = 0 := by
  have hs : shapeN (dictD n) = some ([10, 2, 3, 4, 5, 6, 10, 8, 9, 10], [1, 2, 2, 2, 2, 2, 2, 3, 3, 3]) := by kernel_rfl
  unfold checkN
  rw [if_neg (by show ¬ 65536 < 10; omega), hs]
  show (if 256 < Lib.maxOf [1, 2, 2, 2, 2, 2, 2, 3, 3, 3] then (3 : Int) else _) = 0
  rw [if_neg (by decide), dictD_all h]
  rfl
theorem dictD_is {n : Int} (h : -2147483647 ≤ n ∧ n ≤ 2147483647) : isN (dictD n) 8 = true := decide_eq_true ⟨dictD_check h, rfl⟩
theorem dictD_names {n : Int} (h : -2147483647 ≤ n ∧ n ≤ 2147483647) : namesN (dictD n) = [kSize, kType, kW] := by
  rw [namesN, dictD_is h]
  kernel_rfl
theorem dictD_size {n : Int} (h : -2147483647 ≤ n ∧ n ≤ 2147483647) : getN (dictD n) kSize = some [nd3 n] := by
  rw [getN, dictD_names h]
  kernel_rfl
theorem dictD_w {n : Int} (h : -2147483647 ≤ n ∧ n ≤ 2147483647) : getN (dictD n) kW = some [rootN 7 [1, 2, 3], nd3 1, nd3 4, nd3 2] := by
  rw [getN, dictD_names h]
  kernel_rfl
theorem dictD_index {n : Int} (h : -2147483647 ≤ n ∧ n ≤ 2147483647) : getN (dictD n) kIndex = none := by
  rw [getN, dictD_names h]
  kernel_rfl
theorem dictD_lt (n : Int) : Lt (dictD n) := ⟨by show 10 ≤ _; omega, fun x hx => by
  simp only [dictD, d5L, List.cons_append, List.nil_append, List.mem_cons, List.not_mem_nil, or_false] at hx
  rcases hx with rfl | rfl | rfl | rfl | rfl | rfl | rfl | rfl | rfl | rfl <;> first | exact (by decide : (0 : Nat) ≤ 1000000) | exact (by decide : (4 : Nat) ≤ 1000000) | exact (by decide : (1 : Nat) ≤ 1000000)⟩
theorem w142 : KInts [rootN 7 [1, 2, 3], nd3 1, nd3 4, nd3 2] [1, 4, 2] where
  one := by decide
  kind := rfl
  len := rfl
  each := fun i hi => by
    match i, hi with
    | 0, _ => exact ⟨1, rfl, by decide, rfl, rfl⟩
    | 1, _ => exact ⟨2, rfl, by decide, rfl, rfl⟩
    | 2, _ => exact ⟨3, rfl, by decide, rfl, rfl⟩
end Go.Proofs.YtkaimeogebgofaaGreatDoor.Xs

/-! XsL: Plain: what is read of the rows that were put. -/
namespace Go.Proofs.YtkaimeogebgofaaGreatDoor.Xs
open Go.RowKit
open Go.Proofs.YtkaimeogebgofaaGreatDoor.Tr

/-- an entry that a row holds -/
def FitE (x : En) : Prop := mayN x = true ∧ x.a ≤ 4294967295
theorem u8n_nat {v : Int} (h0 : 0 ≤ v) (h : v < 256) : ((u8n v).toNat : Int) = v := by
  unfold u8n
  have e : (UInt8.ofNat v.toNat).toNat = v.toNat % 256 := rfl
  rw [e]
  omega
theorem be4 (a b c d : UInt8) : ((beN [a, b, c, d] : Nat) : Int) = (((a.toNat : Int) * 256 + b.toNat) * 256 + c.toNat) * 256 + d.toNat := by
  have e : beN [a, b, c, d] = (((0 * 256 + a.toNat) * 256 + b.toNat) * 256 + c.toNat) * 256 + d.toNat := rfl
  rw [e]
  omega
theorem be2 (a b : UInt8) : ((beN [a, b] : Nat) : Int) = (a.toNat : Int) * 256 + b.toNat := by
  show (((0 * 256 + a.toNat) * 256 + b.toNat : Nat) : Int) = _
  omega
theorem be1 (a : UInt8) : ((beN [a] : Nat) : Int) = (a.toNat : Int) := by
  show ((0 * 256 + a.toNat : Nat) : Int) = _
  omega
theorem rowE_rowU {x : En} (h : FitE x) : rowE (rowU x) x.num = x := by
  obtain ⟨h1, h2⟩ := h
  obtain ⟨m1, m2, m3, m4, m5, m6, m7, m8, m9⟩ := may_facts h1
  have e0 : ((beN (cutB (rowU x) 0 1) : Nat) : Int) = x.kind := by
    show ((beN [u8n (x.kind % 256)] : Nat) : Int) = _
    rw [be1, u8n_nat (by omega) (by omega)]
    omega
  have e1 : ((beN (cutB (rowU x) 1 4) : Nat) : Int) = x.a := by
    show ((beN [u8n (x.a / 16777216 % 256), u8n (x.a / 65536 % 256), u8n (x.a / 256 % 256), u8n (x.a % 256)] : Nat) : Int) = _
    rw [be4, u8n_nat (by omega) (by omega), u8n_nat (by omega) (by omega), u8n_nat (by omega) (by omega), u8n_nat (by omega) (by omega)]
    omega
  have e2 : ((beN (cutB (rowU x) 5 2) : Nat) : Int) = x.b := by
    show ((beN [u8n (x.b / 256 % 256), u8n (x.b % 256)] : Nat) : Int) = _
    rw [be2, u8n_nat (by omega) (by omega), u8n_nat (by omega) (by omega)]
    omega
  rw [rowE, e0, e1, e2]
  by_cases hk : x.kind = 0
  · rw [if_pos hk]
    obtain ⟨z1, z2⟩ := m9 hk
    cases x
    simp_all
  · rw [if_neg hk]
theorem cut_rows : ∀ (l : List En) (i : Nat) (h : i < l.length), cutB (rowsU l) (7 * i) 7 = rowU (l[i]'h)
  | [], _, h => by simp at h
  | x :: r, 0, _ => by
    show (rowU x ++ rowsU r).take 7 = rowU x
    exact List.take_left' rfl
  | x :: r, i + 1, h => by
    have ih := cut_rows r i (by simpa using h)
    show ((rowU x ++ rowsU r).drop (7 * (i + 1))).take 7 = rowU (r[i]'(by simpa using h))
    rw [show 7 * (i + 1) = (rowU x).length + 7 * i by show _ = 7 + 7 * i; omega, List.drop_length_add_append]
    exact ih
theorem rdE_rows (L : List En) (h : ∀ x ∈ L, FitE x) : rdE (rowsU L) (L.map (·.num)) = L := by
  refine List.ext_getElem (by rw [rdE_len, List.length_map]) (fun i h1 h2 => ?_)
  have e : (rdE (rowsU L) (L.map (·.num)))[i]'h1 = rowE (cutB (rowsU L) (7 * i) 7) ((L.map (·.num)).getD i 0) := by
    simp only [rdE, List.getElem_map, List.getElem_range]
  rw [e, cut_rows L i h2, List.getD_eq_getElem?_getD, List.getElem?_map, List.getElem?_eq_getElem h2]
  exact rowE_rowU (h _ (List.getElem_mem h2))
theorem mem_allF : ∀ (g i : Nat) (l : List En) (y : En), y ∈ allF g i l → y ∈ l ∨ ∃ k, i ≤ k ∧ k < i + g ∧ y = freeE k
  | 0, _, _, _, h => by cases h
  | g + 1, i, [], y, h => by
    rcases List.mem_cons.1 h with rfl | h
    · exact .inr ⟨i, by omega, by omega, rfl⟩
    · rcases mem_allF g (i + 1) [] y h with h | ⟨k, h1, h2, h3⟩
      · exact .inl h
      · exact .inr ⟨k, by omega, by omega, h3⟩
  | g + 1, i, x :: r, y, h => by
    rw [allF] at h
    split at h
    · rcases List.mem_cons.1 h with rfl | h
      · exact .inl (by simp)
      · rcases mem_allF g (i + 1) r y h with h | ⟨k, h1, h2, h3⟩
        · exact .inl (List.mem_cons_of_mem _ h)
        · exact .inr ⟨k, by omega, by omega, h3⟩
    · rcases List.mem_cons.1 h with rfl | h
      · exact .inr ⟨i, by omega, by omega, rfl⟩
      · rcases mem_allF g (i + 1) (x :: r) y h with h | ⟨k, h1, h2, h3⟩
        · exact .inl h
        · exact .inr ⟨k, by omega, by omega, h3⟩
theorem fit_free (k : Nat) (h : k ≤ 8388607) : FitE (freeE k) := by
  refine ⟨?_, by show (0 : Int) ≤ _; omega⟩
  simp [mayN, freeE]
  omega
theorem fit_allF {N : Nat} {l : List En} (hN : N ≤ 8388608) (hl : ∀ x ∈ l, FitE x) : ∀ y ∈ allF N 0 l, FitE y := fun y hy => by
  rcases mem_allF N 0 l y hy with h | ⟨k, -, h2, rfl⟩
  · exact hl y h
  · exact fit_free k (by omega)
theorem num_allF (N : Nat) (l : List En) : (allF N 0 l).map (·.num) = rangeI 0 N := by
  rw [allF_num, rangeI, List.range_eq_range']
  exact List.map_congr_left (fun i _ => by omega)
theorem up_allF (N : Nat) (l : List En) : (allF N 0 l).Pairwise fun x y => x.num < y.num := by
  have h : ((allF N 0 l).map (·.num)).Pairwise (· < ·) := by
    rw [allF_num, List.pairwise_map]
    exact (List.pairwise_lt_range' (s := 0) (n := N)).imp (fun h => by omega)
  exact List.pairwise_map.1 h
theorem sec_of : ∀ (L : List En) (p : Option Int), (∀ x ∈ L, mayN x = true) → (L.Pairwise fun x y => x.num < y.num) → (∀ x ∈ L, belowI p x.num = true) → secN p L = true
  | [], _, _, _, _ => rfl
  | x :: r, p, h1, h2, h3 => by
    rw [secN, h1 x (by simp), h3 x (by simp)]
    obtain ⟨k1, k2⟩ := List.pairwise_cons.1 h2
    rw [sec_of r (some x.num) (fun y hy => h1 y (List.mem_cons_of_mem _ hy)) k2 (fun y hy => decide_eq_true (k1 y hy))]
    rfl
theorem sec_allF {N : Nat} {l : List En} (hN : N ≤ 8388608) (hl : ∀ x ∈ l, FitE x) : secN none (allF N 0 l) = true :=
  sec_of _ none (fun x hx => (fit_allF hN hl x hx).1) (up_allF N l) (fun _ _ => rfl)
theorem nums_all (N : Nat) : numsF N N [0, (N : Int)] [] = some (rangeI 0 N) := by
  rw [numsF, Int.toNat_natCast, if_neg, numsF_nil, List.nil_append, if_pos (by rw [rangeI_len])]
  intro h
  rcases h with h | h | h | h | h
  · omega
  · omega
  · omega
  · simp at h
  · simp at h
theorem rowsU_append (a b : List En) : rowsU (a ++ b) = rowsU a ++ rowsU b := by unfold rowsU; rw [List.flatMap_append]
theorem rowsU_take (l : List En) (k : Nat) (h : k ≤ l.length) : (rowsU l).take (7 * k) = rowsU (l.take k) ∧ (rowsU l).drop (7 * k) = rowsU (l.drop k) := by
  have e : rowsU l = rowsU (l.take k) ++ rowsU (l.drop k) := by rw [← rowsU_append, List.take_append_drop]
  have hl : (rowsU (l.take k)).length = 7 * k := by rw [rowsU_len, List.length_take]; omega
  rw [e]
  exact ⟨List.take_left' hl, List.drop_left' hl⟩
theorem rangeI_split (k N : Nat) (h : k ≤ N) : (rangeI 0 N).drop k = rangeI k (N - k) ∧ (rangeI 0 N).take k = rangeI 0 k := by
  constructor
  · refine List.ext_getElem (by rw [List.length_drop, rangeI_len, rangeI_len]) (fun i h1 h2 => ?_)
    simp [rangeI]
  · refine List.ext_getElem (by rw [List.length_take, rangeI_len, rangeI_len]; omega) (fun i h1 h2 => ?_)
    simp [rangeI]
theorem nums_cut (k N : Nat) (h : k ≤ N) : numsF N N [(k : Int), ((N - k : Nat) : Int), 0, (k : Int)] [] = some (rangeI k (N - k) ++ rangeI 0 k) := by
  rw [numsF, Int.toNat_natCast, if_neg, numsF, Int.toNat_natCast, if_neg, numsF_nil, List.nil_append, if_pos]
  · rw [List.length_append, rangeI_len, rangeI_len]; omega
  · intro h
    rcases h with h | h | h | h | h
    · omega
    · omega
    · omega
    · rw [List.nil_append, rangeI_len] at h; omega
    · rw [List.any_eq_true] at h
      obtain ⟨y, h1, h2⟩ := h
      have h2 := of_decide_eq_true h2
      rw [List.nil_append] at h2
      have := mem_rangeI h1
      have := mem_rangeI h2
      omega
  · intro h
    rcases h with h | h | h | h | h
    · omega
    · omega
    · omega
    · simp at h; omega
    · simp at h
end Go.Proofs.YtkaimeogebgofaaGreatDoor.Xs

/-! XsM: What was put is read; kit.Same of entries; law21.lives. -/
namespace Go.Proofs.YtkaimeogebgofaaGreatDoor.Xs
open Go.RowKit
open Go.Proofs.YtkaimeogebgofaaGreatDoor.Tr

set_option maxRecDepth 100000 in
set_option maxHeartbeats 2000000 in
theorem sameE_walk (u v : Value) (a : List En) (w : World) (hu : EnsAt w u a) (hv : EnsAt w v a) (ha : a.length ≤ 9223372036854775807) :
    Calls Tryz.prog 11 #[u, v] w fun e w' => e = .returned (.bool true) ∧ Ext [] w w' := by
  obtain ⟨ub, uc, rfl, -, hU⟩ := hu
  obtain ⟨vb, vc, rfl, -, hV⟩ := hv
  obtain ⟨n, hn⟩ : ∃ n, a.length = n := ⟨_, rfl⟩
  have HH := Lib.hid (⟨hU, hV, hn⟩ : _ ∧ _ ∧ _)
  rw [hn] at ha ⊢
  have hbb : ((n : Int) != (n : Int)) = false := bne_self_eq_false _
  clear hU hV hn
  go_enter Tryz.func11, Tryz.ntmps11
  go_wp2_with fail
  clear hbb
  go_loopg [4, 5] n (fun g v4 iv wr => ∃ i : Nat, g + i = n ∧ iv = .int .i64 i ∧ Ext [] w wr)
  case atStart => exact ⟨0, by omega, rfl, Ext.refl _ _⟩
  case round =>
    obtain ⟨i, hgi, rfl, hx⟩ := hrel
    by_cases hlt : i < n
    case neg =>
      obtain rfl : gk = 0 := by omega
      have HX := Lib.hid hx
      clear hx
      go_wp2_with fail
      go_ret
      exact ⟨rfl, HX.out⟩
    case pos =>
    obtain ⟨g, rfl⟩ : ∃ g, gk = g + 1 := ⟨gk - 1, by omega⟩
    have hltz : (i : Int) < (n : Int) := by omega
    have hia : i < a.length := by rw [HH.out.2.2]; exact hlt
    obtain ⟨b1, o1, rfl, x1, x2, x3, x4⟩ := HH.out.1 i hia
    obtain ⟨b2, o2, rfl, y1, y2, y3, y4⟩ := HH.out.2.1 i hia
    have x1 := hx.cell x1
    have x2 := hx.cell x2
    have x3 := hx.cell x3
    have x4 := hx.cell x4
    have y1 := hx.cell y1
    have y2 := hx.cell y2
    have y3 := hx.cell y3
    have y4 := hx.cell y4
    generalize a[i]'hia = p at *
    have HX := Lib.hid hx
    clear hx
    go_upto_region 6 with (fail)
    go_quiet (fail)
    go_wp2_with fail
    go_roundg g
    case measure => omega
    case rel => exact ⟨i + 1, by omega, by go_num, HX.out.drewN _⟩
theorem S8_list (l : List UInt8) : (S8 l).data.toList = l := by simp [S8]
theorem S8_size (l : List UInt8) : (S8 l).size = l.length := by
  show (S8 l).data.toList.length = _
  rw [S8_list]
/-- what was put is read -/
theorem back_walk (dv : Value) (N : Nat) (l : List En) (w : World) (h : NodesAt w dv (dictD N)) (hN : N ≤ 300) (hl : ∀ x ∈ l, FitE x) :
    Calls Tryz.prog 10 #[dv, .string (S8 (rowsU (allF N 0 l)))] w fun e w' => ∃ v2, e = .returned (.tuple #[v2, .int .i64 0]) ∧ Ext [] w w' ∧ EnsAt w' v2 (allF N 0 l) := by
  have hb : -2147483647 ≤ (N : Int) ∧ (N : Int) ≤ 2147483647 := by omega
  have hrl := rangeI_len 0 N
  have hf := fit_allF (N := N) (by omega) hl
  have hE := sec_allF (N := N) (by omega) hl
  refine read21_walk dv (dictD N) _ _ N [0, (N : Int)] (rangeI 0 N) _ (allF N 0 l) w h (dictD_lt N) (dictD_is hb) (by show 0 < 10; omega) (dictD_w hb) w142 (dictD_size hb) ⟨Nat.zero_lt_one, rfl, rfl⟩ (by omega) (.inl ⟨dictD_index hb, rfl⟩) (by show 2 % 2 = 0; rfl) (by show 2 ≤ 65536; omega) (by rw [hrl]; exact nums_all N) (by omega) ?_ ?_ (up_allF N l) hE
  · rw [S8_size, rowsU_len, allF_len, hrl]
  · rw [S8_list, ← num_allF N l, rdE_rows _ hf]
def liveE : List En := [⟨1, 1, 17, 0⟩]
theorem live_put : putN liveE 2 = ([0, 0, 0, 0, 0, 0, 0, 1, 0, 0, 0, 17, 0, 0], 0) := by kernel_rfl
theorem live_all : rowsU (allF 2 0 liveE) = [0, 0, 0, 0, 0, 0, 0, 1, 0, 0, 0, 17, 0, 0] := by kernel_rfl
theorem live_list : allF 2 0 liveE = [⟨0, 0, 0, 0⟩, ⟨1, 1, 17, 0⟩] := rfl
theorem live_fit : ∀ x ∈ liveE, FitE x := fun x hx => by
  obtain rfl := List.mem_singleton.1 hx
  exact ⟨by decide, by decide⟩
theorem ens1 {w : World} {g : Nat} {x : En} {t : TypeId} {f : Nat × Nat} (h : w.heap[g]? = some (.cells #[.int .i64 x.num, .int .i64 x.kind, .int .i64 x.a, .int .i64 x.b] t f)) : EnsAt w (.slice (some ⟨g, 0, none⟩) 1 1) [x] :=
  ⟨_, 1, rfl, Nat.le_refl _, fun i hi => by
    match i, hi with
    | 0, _ => exact ⟨g, 0, rfl, cellOf h 0, cellOf h 1, cellOf h 2, cellOf h 3⟩⟩
theorem ens2 {w : World} {g : Nat} {x y : En} {t : TypeId} {f : Nat × Nat} (h : w.heap[g]? = some (.cells #[.int .i64 x.num, .int .i64 x.kind, .int .i64 x.a, .int .i64 x.b, .int .i64 y.num, .int .i64 y.kind, .int .i64 y.a, .int .i64 y.b] t f)) : EnsAt w (.slice (some ⟨g, 0, none⟩) 2 2) [x, y] :=
  ⟨_, 2, rfl, Nat.le_refl _, fun i hi => by
    match i, hi with
    | 0, _ => exact ⟨g, 0, rfl, cellOf h 0, cellOf h 1, cellOf h 2, cellOf h 3⟩
    | 1, _ => exact ⟨g, 0, rfl, cellOf h 4, cellOf h 5, cellOf h 6, cellOf h 7⟩⟩
set_option maxRecDepth 100000 in
set_option maxHeartbeats 4000000 in
theorem lives21_walk (w : World) : Calls Tryz.prog 4 #[] w fun e w' => e = .returned (.bool true) ∧ Ext [] w w' := by
  have HPut := Lib.hid (fun v W (hv : EnsAt W v liveE) => put21_walk v liveE 2 W hv (by decide) (by decide) (by decide))
  rw [live_put] at HPut
  have HDi := Lib.hid (fun W => dict21_walk 2 (by decide) W)
  have HRd := Lib.hid (fun dv W (hv : NodesAt W dv (dictD (2 : Nat))) => back_walk dv 2 liveE W hv (by decide) live_fit)
  rw [live_all, live_list] at HRd
  have HSa := Lib.hid (fun u v W (hu : EnsAt W u [⟨0, 0, 0, 0⟩, ⟨1, 1, 17, 0⟩]) (hv : EnsAt W v [⟨0, 0, 0, 0⟩, ⟨1, 1, 17, 0⟩]) => sameE_walk u v _ W hu hv (by simp))
  unfold S8 at HPut HRd
  go_enter Tryz.func4, Tryz.ntmps4
  go_wp2_with fail
  refine (HPut.out _ _ (ens1 (x := ⟨1, 1, 17, 0⟩) (heap_alloc_at _))).mono ?_
  rintro e w1 ⟨rfl, hx⟩
  have HX1 := Lib.hid (((Ext.refl [] w).alloc _).trans hx)
  clear hx HPut
  go_wp2_with fail
  refine (HDi.out _).mono ?_
  rintro e w2 ⟨dv, rfl, hx, hN⟩
  have HX2 := Lib.hid (⟨HX1.out.trans hx, hN⟩ : _ ∧ _)
  clear hx hN HDi HX1
  go_wp2_with fail
  refine (HRd.out _ _ HX2.out.2).mono ?_
  rintro e w3 ⟨v3, rfl, hx, hE⟩
  have HX3 := Lib.hid (⟨HX2.out.1.trans hx, hE⟩ : _ ∧ _)
  obtain ⟨eb, ec, rfl, -⟩ := hE
  clear hx HRd HX2
  go_wp2_with fail
  refine (HSa.out _ _ _ (HX3.out.2.ext ((Ext.refl [] w3).alloc _)) (ens2 (x := ⟨0, 0, 0, 0⟩) (y := ⟨1, 1, 17, 0⟩) (heap_alloc_at _))).mono ?_
  rintro e w4 ⟨rfl, hx⟩
  have HX4 := Lib.hid ((HX3.out.1.alloc _).trans hx)
  clear hx HSa HX3
  go_wp2_with fail
  go_ret
  exact ⟨rfl, HX4.out⟩
end Go.Proofs.YtkaimeogebgofaaGreatDoor.Xs
