/-
  What was put is read; kit.Same of entries; law21.lives.
-/
import Derived.Test.YtkaimeogebgofaaDoorXsL
import Derived.Test.YtkaimeogebgofaaDoorXsD
namespace Go.Proofs.YtkaimeogebgofaaDoor.Xs
open Go.RowKit
open Go.Proofs.YtkaimeogebgofaaDoor.Tr

set_option maxRecDepth 100000 in
set_option maxHeartbeats 2000000 in
theorem sameE_walk (u v : Value) (a : List En) (w : World) (hu : EnsAt w u a) (hv : EnsAt w v a) (ha : a.length ≤ 9223372036854775807) :
    Calls Tryd.prog 8 #[u, v] w fun e w' => e = .returned (.bool true) ∧ Ext [] w w' := by
  obtain ⟨ub, uc, rfl, -, hU⟩ := hu
  obtain ⟨vb, vc, rfl, -, hV⟩ := hv
  obtain ⟨n, hn⟩ : ∃ n, a.length = n := ⟨_, rfl⟩
  have HH := Lib.hid (⟨hU, hV, hn⟩ : _ ∧ _ ∧ _)
  rw [hn] at ha ⊢
  have hbb : ((n : Int) != (n : Int)) = false := bne_self_eq_false _
  clear hU hV hn
  go_enter Tryd.func8, Tryd.ntmps8
  go_wp2_with fail
  clear hbb
  go_loopg [4, 5] n (fun g v4 iv wr => ∃ i : Nat, g + i = n ∧ iv = .int .i64 i ∧ Ext [] w wr)
  case atStart => exact ⟨0, by omega, rfl, Ext.refl _ _⟩
  case round =>
    obtain ⟨i, hgi, rfl, hx⟩ := hrel
    by_cases hlt : i < n
    case neg =>
      obtain rfl : gk = 0 := by omega
      have HX := Lib.hid hx
      clear hx
      go_wp2_with fail
      go_ret
      exact ⟨rfl, HX.out⟩
    case pos =>
    obtain ⟨g, rfl⟩ : ∃ g, gk = g + 1 := ⟨gk - 1, by omega⟩
    have hltz : (i : Int) < (n : Int) := by omega
    have hia : i < a.length := by rw [HH.out.2.2]; exact hlt
    obtain ⟨b1, o1, rfl, x1, x2, x3, x4⟩ := HH.out.1 i hia
    obtain ⟨b2, o2, rfl, y1, y2, y3, y4⟩ := HH.out.2.1 i hia
    have x1 := hx.cell x1
    have x2 := hx.cell x2
    have x3 := hx.cell x3
    have x4 := hx.cell x4
    have y1 := hx.cell y1
    have y2 := hx.cell y2
    have y3 := hx.cell y3
    have y4 := hx.cell y4
    generalize a[i]'hia = p at *
    have HX := Lib.hid hx
    clear hx
    go_upto_region 6 with (fail)
    go_quiet (fail)
    go_wp2_with fail
    go_roundg g
    case measure => omega
    case rel => exact ⟨i + 1, by omega, by go_num, HX.out.drewN _⟩
theorem S8_list (l : List UInt8) : (S8 l).data.toList = l := by simp [S8]
theorem S8_size (l : List UInt8) : (S8 l).size = l.length := by
  show (S8 l).data.toList.length = _
  rw [S8_list]
/-- what was put is read -/
theorem back_walk (dv : Value) (N : Nat) (l : List En) (w : World) (h : NodesAt w dv (dictD N)) (hN : N ≤ 300) (hl : ∀ x ∈ l, FitE x) :
    Calls Tryd.prog 6 #[dv, .string (S8 (rowsU (allF N 0 l)))] w fun e w' => ∃ v2, e = .returned (.tuple #[v2, .int .i64 0]) ∧ Ext [] w w' ∧ EnsAt w' v2 (allF N 0 l) := by
  have hb : -2147483647 ≤ (N : Int) ∧ (N : Int) ≤ 2147483647 := by omega
  have hrl := rangeI_len 0 N
  have hf := fit_allF (N := N) (by omega) hl
  have hE := sec_allF (N := N) (by omega) hl
  refine read21_walk dv (dictD N) _ _ N [0, (N : Int)] (rangeI 0 N) _ (allF N 0 l) w h (dictD_lt N) (dictD_is hb) (by show 0 < 10; omega) (dictD_w hb) w142 (dictD_size hb) ⟨Nat.zero_lt_one, rfl, rfl⟩ (by omega) (.inl ⟨dictD_index hb, rfl⟩) (by show 2 % 2 = 0; rfl) (by show 2 ≤ 65536; omega) (by rw [hrl]; exact nums_all N) (by omega) ?_ ?_ (up_allF N l) hE
  · rw [S8_size, rowsU_len, allF_len, hrl]
  · rw [S8_list, ← num_allF N l, rdE_rows _ hf]
def liveE : List En := [⟨1, 1, 17, 0⟩]
theorem live_put : putN liveE 2 = ([0, 0, 0, 0, 0, 0, 0, 1, 0, 0, 0, 17, 0, 0], 0) := by kernel_rfl
theorem live_all : rowsU (allF 2 0 liveE) = [0, 0, 0, 0, 0, 0, 0, 1, 0, 0, 0, 17, 0, 0] := by kernel_rfl
theorem live_list : allF 2 0 liveE = [⟨0, 0, 0, 0⟩, ⟨1, 1, 17, 0⟩] := rfl
theorem live_fit : ∀ x ∈ liveE, FitE x := fun x hx => by
  obtain rfl := List.mem_singleton.1 hx
  exact ⟨by decide, by decide⟩
theorem ens1 {w : World} {g : Nat} {x : En} {t : TypeId} {f : Nat × Nat} (h : w.heap[g]? = some (.cells #[.int .i64 x.num, .int .i64 x.kind, .int .i64 x.a, .int .i64 x.b] t f)) : EnsAt w (.slice (some ⟨g, 0, none⟩) 1 1) [x] :=
  ⟨_, 1, rfl, Nat.le_refl _, fun i hi => by
    match i, hi with
    | 0, _ => exact ⟨g, 0, rfl, cellOf h 0, cellOf h 1, cellOf h 2, cellOf h 3⟩⟩
theorem ens2 {w : World} {g : Nat} {x y : En} {t : TypeId} {f : Nat × Nat} (h : w.heap[g]? = some (.cells #[.int .i64 x.num, .int .i64 x.kind, .int .i64 x.a, .int .i64 x.b, .int .i64 y.num, .int .i64 y.kind, .int .i64 y.a, .int .i64 y.b] t f)) : EnsAt w (.slice (some ⟨g, 0, none⟩) 2 2) [x, y] :=
  ⟨_, 2, rfl, Nat.le_refl _, fun i hi => by
    match i, hi with
    | 0, _ => exact ⟨g, 0, rfl, cellOf h 0, cellOf h 1, cellOf h 2, cellOf h 3⟩
    | 1, _ => exact ⟨g, 0, rfl, cellOf h 4, cellOf h 5, cellOf h 6, cellOf h 7⟩⟩
set_option maxRecDepth 100000 in
set_option maxHeartbeats 4000000 in
theorem lives21_walk (w : World) : Calls Tryd.prog 4 #[] w fun e w' => e = .returned (.bool true) ∧ Ext [] w w' := by
  have HPut := Lib.hid (fun v W (hv : EnsAt W v liveE) => put21_walk v liveE 2 W hv (by decide) (by decide) (by decide))
  rw [live_put] at HPut
  have HDi := Lib.hid (fun W => dict21_walk 2 (by decide) W)
  have HRd := Lib.hid (fun dv W (hv : NodesAt W dv (dictD (2 : Nat))) => back_walk dv 2 liveE W hv (by decide) live_fit)
  rw [live_all, live_list] at HRd
  have HSa := Lib.hid (fun u v W (hu : EnsAt W u [⟨0, 0, 0, 0⟩, ⟨1, 1, 17, 0⟩]) (hv : EnsAt W v [⟨0, 0, 0, 0⟩, ⟨1, 1, 17, 0⟩]) => sameE_walk u v _ W hu hv (by simp))
  unfold S8 at HPut HRd
  go_enter Tryd.func4, Tryd.ntmps4
  go_wp2_with fail
  refine (HPut.out _ _ (ens1 (x := ⟨1, 1, 17, 0⟩) (heap_alloc_at _))).mono ?_
  rintro e w1 ⟨rfl, hx⟩
  have HX1 := Lib.hid (((Ext.refl [] w).alloc _).trans hx)
  clear hx HPut
  go_wp2_with fail
  refine (HDi.out _).mono ?_
  rintro e w2 ⟨dv, rfl, hx, hN⟩
  have HX2 := Lib.hid (⟨HX1.out.trans hx, hN⟩ : _ ∧ _)
  clear hx hN HDi HX1
  go_wp2_with fail
  refine (HRd.out _ _ HX2.out.2).mono ?_
  rintro e w3 ⟨v3, rfl, hx, hE⟩
  have HX3 := Lib.hid (⟨HX2.out.1.trans hx, hE⟩ : _ ∧ _)
  obtain ⟨eb, ec, rfl, -⟩ := hE
  clear hx HRd HX2
  go_wp2_with fail
  refine (HSa.out _ _ _ (HX3.out.2.ext ((Ext.refl [] w3).alloc _)) (ens2 (x := ⟨0, 0, 0, 0⟩) (y := ⟨1, 1, 17, 0⟩) (heap_alloc_at _))).mono ?_
  rintro e w4 ⟨rfl, hx⟩
  have HX4 := Lib.hid ((HX3.out.1.alloc _).trans hx)
  clear hx HSa HX3
  go_wp2_with fail
  go_ret
  exact ⟨rfl, HX4.out⟩
end Go.Proofs.YtkaimeogebgofaaDoor.Xs
