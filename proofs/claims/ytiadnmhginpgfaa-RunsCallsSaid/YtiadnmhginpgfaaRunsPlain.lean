/-
  RunsPlain walked.
-/
import Derived.Test.YtiadnmhginpgfaaRnL
import Derived.Test.YtiadnmhginpgfaaKit
import Derived.RegionTactic
namespace Go.Proofs.Ytiadnmhginpgfaa.Rn
open Go.RowKit

theorem one_row (w : World) (x : Value) : (w.alloc (.cells #[x] 5 (0, 0))).ownsRow 0 5 1 (.slice (some ⟨w.heap.size, 0, none⟩) 1 1) 1 [x] :=
  ⟨by simp, .inr ⟨w.heap.size, 1, #[x], rfl, Nat.zero_le _, heap_alloc_at _, Nat.le_refl _, by decide, by simp, by simp⟩⟩
theorem one_text (w : World) (c : UInt8) : (convert 29 9 (.slice (some ⟨w.heap.size, 0, none⟩) 1 1)).run Try.prog (w.alloc (.cells #[.int .u8 ((c.toNat : Nat) : Int)] 5 (0, 0))) = .ok (.string (Rn.S [c])) (w.alloc (.cells #[.int .u8 ((c.toNat : Nat) : Int)] 5 (0, 0))) :=
  run_text (l := [c]) (one_row w (c8 c))
theorem B_extract (s : ByteArray) (i j : Nat) : B (s.extract i j) = ((B s).take j).drop i := by
  unfold B
  rw [ByteArray.data_extract, Array.toList_extract]
  unfold List.extract
  rw [List.drop_take]
theorem part_slice (s : ByteArray) (a n : Nat) : B (s.extract a (a + n)) = ((B s).drop a).take n := by
  rw [B_extract, List.drop_take]
  congr 1
  omega
set_option maxRecDepth 100000 in
set_option maxHeartbeats 4000000 in
theorem runsPlain_walk (s : ByteArray) (part : Int) (w : World) (_hs : s.size ≤ maxLen) (wp : (Lit.int .i64 part).wf = true) :
    Calls Try.prog 5 #[.string s, .int .i64 part] w fun e w' => e = .returned (.bool true) ∧ Ext [] w w' := by
  obtain ⟨p0, p1⟩ := Kt.wf_i64 wp
  have hs' : s.size ≤ 9223372036854775807 := _hs
  clear wp
  by_cases h1 : s.size ≤ 600
  · have k1 : ¬ ((600 : Int) < (s.size : Int)) := by omega
    obtain ⟨k, hk⟩ : ∃ k : Nat, 1 + part % 128 = k := ⟨(1 + part % 128).toNat, by omega⟩
    have hk1 : 1 ≤ k := by omega
    have hk2 : k ≤ 128 := by omega
    obtain ⟨R, hR⟩ : ∃ R, (parts k (B s)).flatMap enc = R := ⟨_, rfl⟩
    have HK := Lib.hid hk
    have HR := Lib.hid hR
    clear hk hR
    go_enter Try.func5, Try.ntmps5
    go_wp2_with fail
    refine (lives13 _).mono ?_; rintro e w1 ⟨rfl, hx1⟩
    have HX1 := Lib.hid hx1
    clear hx1
    go_wp2_with fail
    refine (Kt.pick_any part 128 _ (by omega) (by omega) p0 p1).mono ?_; rintro e w2 ⟨rfl, rfl⟩
    go_wp2_with fail
    rw [HK.out]
    go_loopg [5, 8, 9] (s.size + 128) (fun gg iv av nv wr => ∃ (a : Nat) (t : ByteArray), gg + a = s.size + 128 ∧ av = .int .i64 a ∧ iv = .string t ∧ B t ++ (parts k ((B s).drop a)).flatMap enc = R ∧ t.size ≤ 2 * a ∧ Ext [] w wr)
    case atStart => exact ⟨0, ByteArray.empty, by omega, rfl, rfl, HR.out, by simp, HX1.out⟩
    case round =>
      obtain ⟨a, t, hg, rfl, rfl, ht, htz, hx⟩ := hrel
      have HT := Lib.hid ht
      have HX := Lib.hid hx
      clear ht hx
      by_cases hlt : a < s.size
      · obtain ⟨n, hn⟩ : ∃ n : Nat, n = min k (s.size - a) := ⟨_, rfl⟩
        have hn1 : 1 ≤ n := by omega
        have hn2 : n ≤ k := by omega
        have hn3 : a + n ≤ s.size := by omega
        have m1 : (if (s.size : Int) - (a : Int) < (k : Int) then (s.size : Int) - (a : Int) else (k : Int)) = (n : Int) := by rw [hn]; split <;> omega
        have hst : B t ++ enc ((B (s.extract a (a + n))), false) ++ (parts k ((B s).drop (a + k))).flatMap enc = R := by
          have h := HT.out
          rw [parts_more k _ (by rw [List.length_drop, B_len]; omega) (by omega), List.flatMap_cons, List.drop_drop] at h
          rw [part_slice, List.append_assoc, ← h]
          have e : List.take n (List.drop a (B s)) = List.take k (List.drop a (B s)) := by
            by_cases hkn : k ≤ s.size - a
            · rw [show n = k by omega]
            · rw [List.take_of_length_le (by rw [List.length_drop, B_len]; omega), List.take_of_length_le (by rw [List.length_drop, B_len]; omega)]
          rw [e]
        obtain ⟨x, hx⟩ : ∃ x, s.extract a (a + n) = x := ⟨_, rfl⟩
        have hxz : x.size = n := by rw [← hx]; simp; omega
        rw [hx] at hst
        have hc := one_text
        have hlast : (((UInt8.ofNat (n - 1)).toNat : Nat) : Int) = (n : Int) - 1 := by rw [UInt8.toNat_ofNat']; omega
        have HST := Lib.hid hst
        have HN := Lib.hid hn
        have HXZ := Lib.hid hxz
        have hct : (convert 29 9 (.slice (some ⟨wr.heap.size, 0, none⟩) 1 1)).run Try.prog (wr.alloc (.cells #[.int .u8 ((n : Int) - 1)] 5 (0, 0))).drew = .ok (.string (Rn.S [UInt8.ofNat (n - 1)])) (wr.alloc (.cells #[.int .u8 ((n : Int) - 1)] 5 (0, 0))).drew := by
          rw [← hlast]; exact one_text wr.drew (UInt8.ofNat (n - 1))
        obtain ⟨y, hy⟩ : ∃ y, Rn.S [UInt8.ofNat (n - 1)] = y := ⟨_, rfl⟩
        have hyz : y.size = 1 := by rw [← hy, S_size]; rfl
        rw [hy] at hct
        have hBy : B y = [UInt8.ofNat (n - 1)] := by rw [← hy, B_S]
        have HBY := Lib.hid hBy
        have hyz2 : y.size ≤ 1 := by omega
        have hxz2 : x.size ≤ 128 := by omega
        clear hst hn hxz hc hlast hy hBy hyz
        go_wp2_with fail
        go_region
        clear hct
        go_wp2_with fail
        go_roundg (s.size + 128 - (a + k))
        case measure => omega
        case rel =>
          refine ⟨a + k, t ++ y ++ x, by omega, by go_num, rfl, ?_, by rw [ByteArray.size_append, ByteArray.size_append]; have := HXZ.out; omega, (HX.out.drew).alloc _⟩
          have hxl : (B x).length = n := by rw [B_len]; exact HXZ.out
          rw [B_append, B_append, HBY.out, List.append_assoc (B t)]
          have h := HST.out
          unfold enc at h
          rw [hxl] at h
          exact h
      · have hend : B t = R := by
          have h := HT.out
          rw [List.drop_eq_nil_of_le (by rw [B_len]; omega), parts_stop _ _ rfl] at h
          simpa using h
        have hlaw : getA (s.size : Int) (B t ++ [128]) = (B s, 0) := by
          have h := plain_law k hk1 hk2 (B s)
          rw [B_len, HR.out] at h
          rw [hend]; exact h
        obtain ⟨t8, ht8⟩ : ∃ t8, t ++ ⟨#[128]⟩ = t8 := ⟨_, rfl⟩
        have hG1 : ∀ w, Calls Try.prog 11 #[.string t8, .int .i64 (s.size : Int)] w fun e w' => e = .returned (.tuple #[.string s, .int .i64 0]) ∧ Ext [] w w' := fun w => by
          have h := get_walk t8 (s.size : Int) w (by rw [← ht8, ByteArray.size_append, show ByteArray.size ⟨#[128]⟩ = 1 from rfl]; omega) (by omega) (by omega)
          rw [← ht8, B_append, show B ⟨#[128]⟩ = [128] from rfl, hlaw, ht8] at h
          dsimp only at h
          rw [S_B] at h
          exact h
        have HG1 := Lib.hid hG1
        have HT8 := Lib.hid ht8
        obtain ⟨R2, hR2⟩ : ∃ R2, (twos (B s)).flatMap enc = R2 := ⟨_, rfl⟩
        obtain ⟨R3, hR3⟩ : ∃ R3, ((B s).flatMap fun c => [c, c]) = R3 := ⟨_, rfl⟩
        have HR2 := Lib.hid hR2
        have HR3 := Lib.hid hR3
        clear hend hlaw hG1 ht8 hR2 hR3 HT
        go_wp2_with fail
        go_loopg [6, 7, 10] s.size (fun gg tv wv iv wr2 => ∃ (i : Nat) (tw wn : ByteArray), gg + i = s.size ∧ iv = .int .i64 i ∧ tv = .string tw ∧ wv = .string wn ∧ B tw ++ (twos ((B s).drop i)).flatMap enc = R2 ∧ (B wn ++ ((B s).drop i).flatMap fun c => [c, c]) = R3 ∧ tw.size = 2 * i ∧ wn.size = 2 * i ∧ Ext [] wr wr2)
        case atStart => exact ⟨0, ByteArray.empty, ByteArray.empty, by omega, rfl, rfl, rfl, HR2.out, HR3.out, rfl, rfl, Ext.refl _ _⟩
        case round =>
          obtain ⟨i, tw, wn, hgi, rfl, rfl, rfl, h2, h3, z2, z3, hx2⟩ := hrel
          have H2 := Lib.hid h2
          have H3 := Lib.hid h3
          have Z2 := Lib.hid z2
          have Z3 := Lib.hid z3
          have HX2 := Lib.hid hx2
          have z2' : tw.size ≤ 1200 := by omega
          have z3' : wn.size ≤ 1200 := by omega
          clear h2 h3 z2 z3 hx2
          by_cases hlt : i < s.size
          · obtain ⟨z, hz⟩ : ∃ z, s.extract i (i + 1) = z := ⟨_, rfl⟩
            have hd : (B s).drop i = (s[i]'hlt) :: (B s).drop (i + 1) := by
              rw [List.drop_eq_getElem_cons (by rw [B_len]; exact hlt)]
              rfl
            have hBz : B z = [s[i]'hlt] := by rw [← hz, part_slice, hd]; rfl
            have hzz : z.size = 1 := by rw [← B_len, hBz]; rfl
            have hzz1 : z.size ≤ 1 := by omega
            have HD := Lib.hid hd
            have HBZ := Lib.hid hBz
            have HZZ := Lib.hid hzz
            clear hd hBz hzz
            go_wp2_with fail
            go_region
            go_wp2_with fail
            go_roundg (s.size - (i + 1))
            case measure => omega
            case rel =>
              have hzz := HZZ.out
              have hZ2 := Z2.out
              have hZ3 := Z3.out
              refine ⟨i + 1, tw ++ ⟨#[255]⟩ ++ z, wn ++ z ++ z, by omega, by go_num, rfl, rfl, ?_, ?_, ?_, ?_, HX2.out.drew⟩
              · have h := H2.out
                rw [HD.out] at h
                rw [B_append, B_append, HBZ.out, ← h]
                simp [twos, enc]
                rfl
              · have h := H3.out
                rw [HD.out] at h
                rw [B_append, B_append, HBZ.out, ← h]
                simp
              · rw [ByteArray.size_append, ByteArray.size_append, hzz, hZ2, show ByteArray.size ⟨#[255]⟩ = 1 from rfl]; omega
              · rw [ByteArray.size_append, ByteArray.size_append, hzz, hZ3]; omega
          · have hd : (B s).drop i = [] := List.drop_eq_nil_of_le (by rw [B_len]; omega)
            have h2 := H2.out
            have h3 := H3.out
            rw [hd, ← HR2.out] at h2
            rw [hd, ← HR3.out] at h3
            have hw : B wn = (B s).flatMap fun c => [c, c] := by simpa using h3
            have ht : B tw = (twos (B s)).flatMap enc := by simpa [twos] using h2
            have hlaw := twos_law (B s)
            rw [← ht, ← hw, B_len] at hlaw
            obtain ⟨t9, ht9⟩ : ∃ t9, tw ++ ⟨#[128]⟩ = t9 := ⟨_, rfl⟩
            have hG2 : ∀ w, Calls Try.prog 11 #[.string t9, .int .i64 (2 * (s.size : Int))] w fun e w' => e = .returned (.tuple #[.string wn, .int .i64 0]) ∧ Ext [] w w' := fun w => by
              have h := get_walk t9 (2 * (s.size : Int)) w (by rw [← ht9, ByteArray.size_append, show ByteArray.size ⟨#[128]⟩ = 1 from rfl]; omega) (by omega) (by omega)
              rw [← ht9, B_append, show B ⟨#[128]⟩ = [128] from rfl, hlaw, ht9] at h
              dsimp only at h
              rw [S_B] at h
              exact h
            have HG2 := Lib.hid hG2
            have ht8 := HT8.out
            have htz3 : t.size ≤ 100000 := by omega
            clear h2 h3 hw ht hlaw hG2 hd htz
            go_wp2_with fail
            refine (HG1.out _).mono ?_; rintro e w3 ⟨rfl, hx3⟩
            have HX3 := Lib.hid hx3
            clear hx3
            go_wp2_with fail
            refine (HG2.out _).mono ?_; rintro e w4 ⟨rfl, hx4⟩
            have HX4 := Lib.hid hx4
            clear hx4
            go_wp2_with fail
            go_ret
            exact ⟨rfl, ((HX.out.trans HX2.out).trans HX3.out).trans HX4.out⟩
  · have k1 : ((600 : Int) < (s.size : Int)) := by omega
    go_enter Try.func5, Try.ntmps5
    go_wp2_with fail
    refine (lives13 _).mono ?_; rintro e w1 ⟨rfl, hx1⟩
    go_wp2_with fail
    go_ret
    exact ⟨rfl, hx1⟩
end Go.Proofs.Ytiadnmhginpgfaa.Rn
