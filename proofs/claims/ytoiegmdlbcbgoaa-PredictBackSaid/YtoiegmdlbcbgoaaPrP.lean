/-
  predict.tiff: walked.
-/
import Derived.Test.YtoiegmdlbcbgoaaPrO
import Derived.Test.YtoiegmdlbcbgoaaPrI
import Derived.Deep.CutBlock
import Derived.Deep.DeepCutAuto
namespace Go.Proofs.Ytoiegmdlbcbgoaa.Pr
open Go.RowKit

/-! ### plain -/
def valB (b : Nat) (f : Nat → UInt8) (i : Nat) : Nat := if b = 16 then (f (2 * i)).toNat * 256 + (f (2 * i + 1)).toNat else getP b (byP b i) (f (atP b i)).toNat
def u8I (v : Int) : UInt8 := UInt8.ofNat (v % 256).toNat
def putB (b : Nat) (l : List UInt8) (i : Nat) (v : Int) : List UInt8 :=
  if b = 16 then (l.set (2 * i) (u8I (v / 256))).set (2 * i + 1) (u8I v) else l.set (atP b i) (UInt8.ofNat (setP b (byP b i) (l.getD (atP b i) 0).toNat (v % 2 ^ b).toNat))
def tiffV (undo : Bool) (b cs : Nat) (R : Nat → UInt8) (l : List UInt8) (i : Nat) : Int :=
  if i < cs then (valB b R i : Int) else if undo then (valB b R i : Int) + (valB b (fun j => l.getD j 0) (i - cs) : Int) else (valB b R i : Int) - (valB b R (i - cs) : Int)
def tiffK (undo : Bool) (b cs : Nat) (R : Nat → UInt8) (n : Nat) : Nat → List UInt8
  | 0 => List.replicate n 0
  | k + 1 => putB b (tiffK undo b cs R n k) k (tiffV undo b cs R (tiffK undo b cs R n k) k)
theorem putB_len (b : Nat) (l : List UInt8) (i : Nat) (v : Int) : (putB b l i v).length = l.length := by unfold putB; split <;> simp
theorem tiffK_len (undo : Bool) (b cs : Nat) (R : Nat → UInt8) (n : Nat) : ∀ k, (tiffK undo b cs R n k).length = n
  | 0 => by simp [tiffK]
  | k + 1 => by rw [tiffK, putB_len, tiffK_len undo b cs R n k]
theorem u8I_int (v : Int) : c8 (u8I v) = .int .u8 (v % 256) := by
  unfold c8 u8I
  rw [UInt8.toNat_ofNat']
  congr 1
  omega
theorem setP_lt (b y x u : Nat) (hx : x < 256) (hu : u < 2 ^ b) (hy : y + b ≤ 8) : setP b y x u < 256 := by
  unfold setP
  refine Nat.or_lt_two_pow (n := 8) (Nat.lt_of_le_of_lt Nat.and_le_left hx) ?_
  have h1 : u * 2 ^ y < 2 ^ b * 2 ^ y := Nat.mul_lt_mul_of_pos_right hu (Nat.pow_pos (by omega))
  rw [← Nat.pow_add] at h1
  exact Nat.lt_of_lt_of_le h1 (Nat.pow_le_pow_right (by omega) (by omega))
theorem at_lt (b i cnt n : Nat) (hb : small b) (hi : i < cnt) (hn : (cnt * b + 7) / 8 ≤ n) : atP b i < n := by
  unfold atP
  rcases hb with rfl | rfl | rfl | rfl <;> omega
theorem getD_cell {w : World} {G n cap : Nat} {l : List UInt8} (h : w.ownsRow 0 5 1 (.slice (some ⟨G, 0, none⟩) n cap) n (l.map c8)) (j : Nat) (hj : j < n) : w.cell? ⟨G, j, none⟩ = some (c8 (l.getD j 0)) := by
  refine ownsRow_at h ?_
  have hl : l.length = n := by have := h.1; simpa using this
  rw [List.getElem?_map, List.getElem?_eq_getElem (by omega), List.getD_eq_getElem?_getD, List.getElem?_eq_getElem (by omega)]
  rfl
theorem valB_lt (b : Nat) (hb : small b ∨ b = 16) (f : Nat → UInt8) (i : Nat) : valB b f i < 65536 := by
  unfold valB
  have h1 := (f (2 * i)).toNat_lt
  have h2 := (f (2 * i + 1)).toNat_lt
  split
  · omega
  · unfold getP
    rcases hb with hb | hb
    · have h3 : 2 ^ b ≤ 2 ^ 8 := Nat.pow_le_pow_right (by omega) (by rcases hb with rfl | rfl | rfl | rfl <;> omega)
      exact Nat.lt_of_lt_of_le (Nat.mod_lt _ (Nat.pow_pos (by omega))) (by omega)
    · contradiction
set_option maxRecDepth 100000 in
set_option maxHeartbeats 8000000 in
theorem tiff_lo (undo : Bool) (p kk : Int) (cs cnt n sb jn rc : Nat) (R : Nat → UInt8) (b : Nat) (hb : small b) (hcnt : (cnt * b + 7) / 8 ≤ n) (w : World) (hck : (cs : Int) * kk = (cnt : Int)) (hcs : 1 ≤ cs) (hcnt2 : cnt ≤ 32768) (hn1 : n ≤ 1048576) (hR : ∀ j, j < n → w.cell? ⟨sb, jn + j, none⟩ = some (c8 (R j))) :
    Calls Try.prog 19 #[.slice (some ⟨sb, jn, none⟩) n rc, .agg #[.int .i64 p, .int .i64 cs, .int .i64 (b : Int), .int .i64 kk], .bool undo] w fun e w' => ∃ g, e = .returned (.slice (some ⟨g, 0, none⟩) n n) ∧ Sep w w' [oSl 5 1 (.slice (some ⟨g, 0, none⟩) n n) n ((tiffK undo b cs R n cnt).map c8)] := by
  have HR := Lib.hid hR
  clear hR
  obtain ⟨W0, hW0, hg0, hx0⟩ : ∃ W, w.alloc (.cells #[.int .i64 p, .int .i64 cs, .int .i64 (b : Int), .int .i64 kk] 23) = W ∧ W.heap[w.heap.size]? = some (.cells #[.int .i64 p, .int .i64 cs, .int .i64 (b : Int), .int .i64 kk] 23 (0, 0)) ∧ Ext [] w W := ⟨_, rfl, heap_alloc_at _, (Ext.refl _ _).alloc _⟩
  obtain ⟨gb, hgb⟩ : ∃ gb, w.heap.size = gb := ⟨_, rfl⟩
  rw [hgb] at hg0
  have Sp := (Sep.start w).new hx0 (Ob.one gb (.cells #[.int .i64 p, .int .i64 cs, .int .i64 (b : Int), .int .i64 kk] 23 (0, 0))) hg0 (fun q hq => by rw [List.mem_singleton.1 hq]; omega)
  obtain ⟨w2, hmk, hown, hx2, _⟩ := make_ex n hn1 W0
  obtain ⟨G, hG⟩ : ∃ G, W0.heap.size = G := ⟨_, rfl⟩
  have Sp := Sp.new hx2 (oSl 5 1 (.slice (some ⟨W0.heap.size, 0, none⟩) n n) n ((List.replicate n 0).map c8)) hown (fun q hq => by simp [oSl, Value.ownBlock] at hq; omega)
  rw [hG] at Sp
  have hmk2 : (Instr.makeSlice 42 (.int .i64 n) (.int .i64 n)).run Try.prog (w.alloc (.cells #[.int .i64 p, .int .i64 cs, .int .i64 (b : Int), .int .i64 kk] 23)) = .ok (.slice (some ⟨G, 0, none⟩) n n) w2 := by rw [hW0, ← hG]; exact hmk
  have hg := Sp.get 1 rfl
  have d1 : w2.cell? ⟨gb, 1, none⟩ = _ := cellOf hg 1
  have d2 : w2.cell? ⟨gb, 2, none⟩ = _ := cellOf hg 2
  have d3 : w2.cell? ⟨gb, 3, none⟩ = _ := cellOf hg 3
  have HSp := Lib.hid Sp
  have HGB := Lib.hid hgb
  clear hW0 hg0 hx0 Sp hmk hown hx2 hG hg hgb
  go_enter Try.func19, Try.ntmps19
  go_upto_region 2 with (fail)
  rw [HGB.out]
  go_wp2_with fail
  clear hmk2
  refine (values_lo sb jn n rc b _ hb).mono ?_
  rintro e w3 ⟨f0, f1, f2, f3, rfl, S3⟩
  have Sp := sep_join HSp.out S3
  have hg := Sp.get 2 rfl
  clear d1 d2 d3
  have d1 : w3.cell? ⟨gb, 1, none⟩ = _ := cellOf hg 1
  have d2 : w3.cell? ⟨gb, 2, none⟩ = _ := cellOf hg 2
  have d3 : w3.cell? ⟨gb, 3, none⟩ = _ := cellOf hg 3
  have HSp := Lib.hid Sp
  clear Sp S3 hg
  go_wp2_with fail
  refine (values_lo G 0 n n b _ hb).mono ?_
  rintro e w4 ⟨o0, o1, o2, o3, rfl, S4⟩
  have Sp : Sep w w4 [oVals b G 0 n n o0 o1 o2 o3, oVals b sb jn n rc f0 f1 f2 f3, oSl 5 1 (.slice (some ⟨G, 0, none⟩) n n) n ((tiffK undo b cs R n 0).map c8), Ob.one gb (.cells #[.int .i64 p, .int .i64 cs, .int .i64 (b : Int), .int .i64 kk] 23 (0, 0))] := sep_join HSp.out S4
  have hg := Sp.get 3 rfl
  clear d1 d2 d3
  have d1 : w4.cell? ⟨gb, 1, none⟩ = _ := cellOf hg 1
  have d2 : w4.cell? ⟨gb, 2, none⟩ = _ := cellOf hg 2
  have d3 : w4.cell? ⟨gb, 3, none⟩ = _ := cellOf hg 3
  have HSp := Lib.hid Sp
  clear Sp S4 hg
  go_wp2_with fail
  clear d1 d2 d3
  go_loopg [12, 13, 36] cnt (fun gg _ _ iv wr => ∃ k : Nat, gg + k = cnt ∧ iv = .int .i64 k ∧ Sep w wr [oVals b G 0 n n o0 o1 o2 o3, oVals b sb jn n rc f0 f1 f2 f3, oSl 5 1 (.slice (some ⟨G, 0, none⟩) n n) n ((tiffK undo b cs R n k).map c8), Ob.one gb (.cells #[.int .i64 p, .int .i64 cs, .int .i64 (b : Int), .int .i64 kk] 23 (0, 0))])
  case atStart => exact ⟨0, by omega, rfl, HSp.out⟩
  case round =>
    clear HSp
    obtain ⟨k, hk, rfl, Sp⟩ := hrel
    by_cases hlt : k < cnt
    · have hfrom : ∀ W', Sep w W' [oVals b G 0 n n o0 o1 o2 o3, oVals b sb jn n rc f0 f1 f2 f3, oSl 5 1 (.slice (some ⟨G, 0, none⟩) n n) n ((tiffK undo b cs R n k).map c8), Ob.one gb (.cells #[.int .i64 p, .int .i64 cs, .int .i64 (b : Int), .int .i64 kk] 23 (0, 0))] → Calls Try.prog 32 #[.int .i64 ((k : Nat) : Int), .pointer (some ⟨f3, 0, none⟩), .pointer (some ⟨f0, 0, none⟩), .pointer (some ⟨f2, 0, none⟩)] W' fun e w' => e = .returned (.int .i64 (valB b R (k) : Nat)) ∧ Ext [] W' w' := fun W' S => by
        have h := get_lo b sb jn n rc f0 f1 f2 f3 (k) (R (atP b (k))) W' hb (by omega) (S.get 1 rfl) (at_lt b _ cnt n hb (by omega) hcnt) (Ext.cell S.ext (HR.out _ (at_lt b _ cnt n hb (by omega) hcnt)))
        rw [show getP b (byP b (k)) (R (atP b (k))).toNat = valB b R (k) from (if_neg (by rcases hb with rfl | rfl | rfl | rfl <;> omega)).symm] at h
        exact h
      have hput : ∀ (v : Int) W', Sep w W' [oVals b G 0 n n o0 o1 o2 o3, oVals b sb jn n rc f0 f1 f2 f3, oSl 5 1 (.slice (some ⟨G, 0, none⟩) n n) n ((tiffK undo b cs R n k).map c8), Ob.one gb (.cells #[.int .i64 p, .int .i64 cs, .int .i64 (b : Int), .int .i64 kk] 23 (0, 0))] → Calls Try.prog 33 #[.int .i64 k, .int .i64 v, .pointer (some ⟨o3, 0, none⟩), .pointer (some ⟨o0, 0, none⟩), .pointer (some ⟨o2, 0, none⟩)] W' fun e w' => (∃ r, e = .returned r) ∧ Sep w w' [oVals b G 0 n n o0 o1 o2 o3, oVals b sb jn n rc f0 f1 f2 f3, oSl 5 1 (.slice (some ⟨G, 0, none⟩) n n) n ((putB b (tiffK undo b cs R n k) k v).map c8), Ob.one gb (.cells #[.int .i64 p, .int .i64 cs, .int .i64 (b : Int), .int .i64 kk] 23 (0, 0))] := fun v W' S => by
        have hat := at_lt b k cnt n hb hlt hcnt
        refine (put_lo b G 0 n n o0 o1 o2 o3 k ((tiffK undo b cs R n k).getD (atP b k) 0) v W' hb (by omega) (S.get 0 rfl) hat (by rw [Nat.zero_add]; exact getD_cell (S.get 2 rfl) _ hat) (by rw [Nat.zero_add]; exact ownsRow_free (S.get 2 rfl) _)).mono ?_
        rintro e w' ⟨he, w1, hx1, rfl⟩
        refine ⟨he, ?_⟩
        have S1 := S.quiet hx1
        rw [Nat.zero_add]
        refine S1.upd 2 (oSl 5 1 (.slice (some ⟨G, 0, none⟩) n n) n ((putB b (tiffK undo b cs R n k) k v).map c8)) rfl ((Ext.refl _ w1).setCell _ _ (.inl (by simp [oSl, Value.ownBlock]))) (Fr.refl _ _) ?_
        have hown : w1.ownsRow 0 5 1 (.slice (some ⟨G, 0, none⟩) n n) n ((tiffK undo b cs R n k).map c8) := S1.get 2 rfl
        have hu : (v % 2 ^ b).toNat < 2 ^ b := by
          have h1 := Int.emod_lt_of_pos v (show (0 : Int) < 2 ^ b from Int.pow_pos (by omega))
          have h2 := Int.emod_nonneg v (show (2 : Int) ^ b ≠ 0 from Int.ne_of_gt (Int.pow_pos (by omega)))
          have h3 : (((v % 2 ^ b).toNat : Nat) : Int) < ((2 ^ b : Nat) : Int) := by rw [Int.toNat_of_nonneg h2]; push_cast; exact h1
          exact Int.ofNat_lt.1 h3
        have hs := setP_lt b (byP b k) ((tiffK undo b cs R n k).getD (atP b k) 0).toNat (v % 2 ^ b).toNat ((tiffK undo b cs R n k).getD (atP b k) 0).toNat_lt hu (byP_le2 b k hb)
        have hst := ownsRow_store (i := atP b k) hown (.int .u8 (setP b (byP b k) ((tiffK undo b cs R n k).getD (atP b k) 0).toNat (v % 2 ^ b).toNat : Nat))
        have e : (((tiffK undo b cs R n k).map c8).set (atP b k) (.int .u8 (setP b (byP b k) ((tiffK undo b cs R n k).getD (atP b k) 0).toNat (v % 2 ^ b).toNat : Nat))) = (putB b (tiffK undo b cs R n k) k v).map c8 := by
          unfold putB
          rw [if_neg (by rcases hb with rfl | rfl | rfl | rfl <;> omega), List.map_set]
          congr 1
          unfold c8
          rw [UInt8.toNat_ofNat', Nat.mod_eq_of_lt hs]
        rw [e] at hst
        exact hst
      have hnx : tiffK undo b cs R n (k + 1) = putB b (tiffK undo b cs R n k) k (tiffV undo b cs R (tiffK undo b cs R n k) k) := rfl
      have HFROM := Lib.hid hfrom
      have HPUT := Lib.hid hput
      have HNX := Lib.hid hnx
      have HS := Lib.hid Sp
      have hvl := valB_lt b (.inl hb) R k
      clear hfrom hput hnx Sp
      go_wp2_with fail
      refine (HFROM.out _ HS.out).mono ?_
      rintro e w5 ⟨rfl, hx5⟩
      have Sp := HS.out.quiet hx5
      have hg := Sp.get 3 rfl
      have d1 : w5.cell? ⟨gb, 1, none⟩ = _ := cellOf hg 1
      have HS := Lib.hid Sp
      clear hx5 Sp hg
      by_cases hkc : k < cs
      · have hv : tiffV undo b cs R (tiffK undo b cs R n k) k = (valB b R k : Int) := if_pos hkc
        have HV := Lib.hid hv
        clear hv
        generalize valB b R k = x at *
        go_wp2_with fail
        refine (HPUT.out _ _ HS.out).mono ?_
        rintro e w6 ⟨⟨r, rfl⟩, S6⟩
        have HS6 := Lib.hid S6
        clear S6
        go_wp2_with fail
        go_roundg (cnt - (k + 1))
        case measure => omega
        case rel => exact ⟨k + 1, by omega, by go_num, by rw [HNX.out, HV.out]; exact HS6.out⟩
      · have hki : ((k - cs : Nat) : Int) = (k : Int) - (cs : Int) := by omega
        cases undo with
        | true =>
          have hnow : ∀ W', Sep w W' [oVals b G 0 n n o0 o1 o2 o3, oVals b sb jn n rc f0 f1 f2 f3, oSl 5 1 (.slice (some ⟨G, 0, none⟩) n n) n ((tiffK true b cs R n k).map c8), Ob.one gb (.cells #[.int .i64 p, .int .i64 cs, .int .i64 (b : Int), .int .i64 kk] 23 (0, 0))] → Calls Try.prog 32 #[.int .i64 ((k - cs : Nat) : Int), .pointer (some ⟨o3, 0, none⟩), .pointer (some ⟨o0, 0, none⟩), .pointer (some ⟨o2, 0, none⟩)] W' fun e w' => e = .returned (.int .i64 (valB b (fun j => (tiffK true b cs R n k).getD j 0) (k - cs) : Nat)) ∧ Ext [] W' w' := fun W' S => by
            have h := get_lo b G 0 n n o0 o1 o2 o3 (k - cs) ((tiffK true b cs R n k).getD (atP b (k - cs)) 0) W' hb (by omega) (S.get 0 rfl) (at_lt b _ cnt n hb (by omega) hcnt) (by rw [Nat.zero_add]; exact getD_cell (S.get 2 rfl) _ (at_lt b _ cnt n hb (by omega) hcnt))
            rw [show getP b (byP b (k - cs)) ((tiffK true b cs R n k).getD (atP b (k - cs)) 0).toNat = valB b (fun j => (tiffK true b cs R n k).getD j 0) (k - cs) from (if_neg (by rcases hb with rfl | rfl | rfl | rfl <;> omega)).symm] at h
            exact h
          rw [hki] at hnow
          have hv : tiffV true b cs R (tiffK true b cs R n k) k = (valB b R k : Int) + (valB b (fun j => (tiffK true b cs R n k).getD j 0) (k - cs) : Int) := by unfold tiffV; rw [if_neg hkc, if_pos rfl]
          have hvl2 := valB_lt b (.inl hb) (fun j => (tiffK true b cs R n k).getD j 0) (k - cs)
          generalize valB b (fun j => (tiffK true b cs R n k).getD j 0) (k - cs) = y at *
          have HV := Lib.hid hv
          have HNOW := Lib.hid hnow
          clear hv hnow hki
          generalize valB b R k = x at *
          go_wp2_with fail
          refine (HNOW.out _ HS.out).mono ?_
          rintro e w6 ⟨rfl, hx6⟩
          have Sp := HS.out.quiet hx6
          have HS6 := Lib.hid Sp
          clear hx6 Sp d1
          go_wp2_with fail
          refine (HPUT.out _ _ HS6.out).mono ?_
          rintro e w7 ⟨⟨r, rfl⟩, S6⟩
          have HS7 := Lib.hid S6
          clear S6
          go_wp2_with fail
          go_roundg (cnt - (k + 1))
          case measure => omega
          case rel => exact ⟨k + 1, by omega, by go_num, by rw [HNX.out, HV.out]; exact HS7.out⟩
        | false =>
          have hnow : ∀ W', Sep w W' [oVals b G 0 n n o0 o1 o2 o3, oVals b sb jn n rc f0 f1 f2 f3, oSl 5 1 (.slice (some ⟨G, 0, none⟩) n n) n ((tiffK false b cs R n k).map c8), Ob.one gb (.cells #[.int .i64 p, .int .i64 cs, .int .i64 (b : Int), .int .i64 kk] 23 (0, 0))] → Calls Try.prog 32 #[.int .i64 ((k - cs : Nat) : Int), .pointer (some ⟨f3, 0, none⟩), .pointer (some ⟨f0, 0, none⟩), .pointer (some ⟨f2, 0, none⟩)] W' fun e w' => e = .returned (.int .i64 (valB b R (k - cs) : Nat)) ∧ Ext [] W' w' := fun W' S => by
            have h := get_lo b sb jn n rc f0 f1 f2 f3 (k - cs) (R (atP b (k - cs))) W' hb (by omega) (S.get 1 rfl) (at_lt b _ cnt n hb (by omega) hcnt) (Ext.cell S.ext (HR.out _ (at_lt b _ cnt n hb (by omega) hcnt)))
            rw [show getP b (byP b (k - cs)) (R (atP b (k - cs))).toNat = valB b R (k - cs) from (if_neg (by rcases hb with rfl | rfl | rfl | rfl <;> omega)).symm] at h
            exact h
          rw [hki] at hnow
          have hv : tiffV false b cs R (tiffK false b cs R n k) k = (valB b R k : Int) - (valB b R (k - cs) : Int) := by unfold tiffV; rw [if_neg hkc, if_neg (by simp)]
          have hvl2 := valB_lt b (.inl hb) R (k - cs)
          generalize valB b R (k - cs) = y at *
          have HV := Lib.hid hv
          have HNOW := Lib.hid hnow
          clear hv hnow hki
          generalize valB b R k = x at *
          go_wp2_with fail
          refine (HNOW.out _ HS.out).mono ?_
          rintro e w6 ⟨rfl, hx6⟩
          have Sp := HS.out.quiet hx6
          have HS6 := Lib.hid Sp
          clear hx6 Sp d1
          go_wp2_with fail
          refine (HPUT.out _ _ HS6.out).mono ?_
          rintro e w7 ⟨⟨r, rfl⟩, S6⟩
          have HS7 := Lib.hid S6
          clear S6
          go_wp2_with fail
          go_roundg (cnt - (k + 1))
          case measure => omega
          case rel => exact ⟨k + 1, by omega, by go_num, by rw [HNX.out, HV.out]; exact HS7.out⟩
    · obtain rfl : k = cnt := by omega
      have HS := Lib.hid Sp
      clear Sp
      go_wp2_with fail
      go_ret
      exact ⟨G, rfl, (Sep.start w).new HS.out.ext (oSl 5 1 (.slice (some ⟨G, 0, none⟩) n n) n ((tiffK undo b cs R n k).map c8)) (HS.out.get 2 rfl) (fun q hq => HS.out.base (oSl 5 1 (.slice (some ⟨G, 0, none⟩) n n) n ((tiffK undo b cs R n k).map c8)) (by simp) q hq)⟩
set_option maxRecDepth 100000 in
set_option maxHeartbeats 8000000 in
theorem tiff_16 (undo : Bool) (p kk : Int) (cs cnt n sb jn rc : Nat) (R : Nat → UInt8) (hcnt : 2 * cnt ≤ n) (w : World) (hck : (cs : Int) * kk = (cnt : Int)) (hcs : 1 ≤ cs) (hcnt2 : cnt ≤ 32768) (hn1 : n ≤ 1048576) (hR : ∀ j, j < n → w.cell? ⟨sb, jn + j, none⟩ = some (c8 (R j))) :
    Calls Try.prog 19 #[.slice (some ⟨sb, jn, none⟩) n rc, .agg #[.int .i64 p, .int .i64 cs, .int .i64 16, .int .i64 kk], .bool undo] w fun e w' => ∃ g, e = .returned (.slice (some ⟨g, 0, none⟩) n n) ∧ Sep w w' [oSl 5 1 (.slice (some ⟨g, 0, none⟩) n n) n ((tiffK undo 16 cs R n cnt).map c8)] := by
  have HR := Lib.hid hR
  clear hR
  obtain ⟨W0, hW0, hg0, hx0⟩ : ∃ W, w.alloc (.cells #[.int .i64 p, .int .i64 cs, .int .i64 16, .int .i64 kk] 23) = W ∧ W.heap[w.heap.size]? = some (.cells #[.int .i64 p, .int .i64 cs, .int .i64 16, .int .i64 kk] 23 (0, 0)) ∧ Ext [] w W := ⟨_, rfl, heap_alloc_at _, (Ext.refl _ _).alloc _⟩
  obtain ⟨gb, hgb⟩ : ∃ gb, w.heap.size = gb := ⟨_, rfl⟩
  rw [hgb] at hg0
  have Sp := (Sep.start w).new hx0 (Ob.one gb (.cells #[.int .i64 p, .int .i64 cs, .int .i64 16, .int .i64 kk] 23 (0, 0))) hg0 (fun q hq => by rw [List.mem_singleton.1 hq]; omega)
  obtain ⟨w2, hmk, hown, hx2, _⟩ := make_ex n hn1 W0
  obtain ⟨G, hG⟩ : ∃ G, W0.heap.size = G := ⟨_, rfl⟩
  have Sp := Sp.new hx2 (oSl 5 1 (.slice (some ⟨W0.heap.size, 0, none⟩) n n) n ((List.replicate n 0).map c8)) hown (fun q hq => by simp [oSl, Value.ownBlock] at hq; omega)
  rw [hG] at Sp
  have hmk2 : (Instr.makeSlice 42 (.int .i64 n) (.int .i64 n)).run Try.prog (w.alloc (.cells #[.int .i64 p, .int .i64 cs, .int .i64 16, .int .i64 kk] 23)) = .ok (.slice (some ⟨G, 0, none⟩) n n) w2 := by rw [hW0, ← hG]; exact hmk
  have hg := Sp.get 1 rfl
  have d1 : w2.cell? ⟨gb, 1, none⟩ = _ := cellOf hg 1
  have d2 : w2.cell? ⟨gb, 2, none⟩ = _ := cellOf hg 2
  have d3 : w2.cell? ⟨gb, 3, none⟩ = _ := cellOf hg 3
  have HSp := Lib.hid Sp
  have HGB := Lib.hid hgb
  clear hW0 hg0 hx0 Sp hmk hown hx2 hG hg hgb
  go_enter Try.func19, Try.ntmps19
  go_upto_region 2 with (fail)
  rw [HGB.out]
  go_wp2_with fail
  clear hmk2
  refine (values_16 sb jn n rc _).mono ?_
  rintro e w3 ⟨f0, rfl, S3⟩
  have Sp := sep_join HSp.out S3
  have hg := Sp.get 2 rfl
  clear d1 d2 d3
  have d1 : w3.cell? ⟨gb, 1, none⟩ = _ := cellOf hg 1
  have d2 : w3.cell? ⟨gb, 2, none⟩ = _ := cellOf hg 2
  have d3 : w3.cell? ⟨gb, 3, none⟩ = _ := cellOf hg 3
  have HSp := Lib.hid Sp
  clear Sp S3 hg
  go_wp2_with fail
  refine (values_16 G 0 n n _).mono ?_
  rintro e w4 ⟨o0, rfl, S4⟩
  have Sp : Sep w w4 [Ob.one o0 (bxS (.slice (some ⟨G, 0, none⟩) n n)), Ob.one f0 (bxS (.slice (some ⟨sb, jn, none⟩) n rc)), oSl 5 1 (.slice (some ⟨G, 0, none⟩) n n) n ((tiffK undo 16 cs R n 0).map c8), Ob.one gb (.cells #[.int .i64 p, .int .i64 cs, .int .i64 16, .int .i64 kk] 23 (0, 0))] := sep_join HSp.out S4
  have hg := Sp.get 3 rfl
  clear d1 d2 d3
  have d1 : w4.cell? ⟨gb, 1, none⟩ = _ := cellOf hg 1
  have d2 : w4.cell? ⟨gb, 2, none⟩ = _ := cellOf hg 2
  have d3 : w4.cell? ⟨gb, 3, none⟩ = _ := cellOf hg 3
  have HSp := Lib.hid Sp
  clear Sp S4 hg
  go_wp2_with fail
  clear d1 d2 d3
  go_loopg [12, 13, 36] cnt (fun gg _ _ iv wr => ∃ k : Nat, gg + k = cnt ∧ iv = .int .i64 k ∧ Sep w wr [Ob.one o0 (bxS (.slice (some ⟨G, 0, none⟩) n n)), Ob.one f0 (bxS (.slice (some ⟨sb, jn, none⟩) n rc)), oSl 5 1 (.slice (some ⟨G, 0, none⟩) n n) n ((tiffK undo 16 cs R n k).map c8), Ob.one gb (.cells #[.int .i64 p, .int .i64 cs, .int .i64 16, .int .i64 kk] 23 (0, 0))])
  case atStart => exact ⟨0, by omega, rfl, HSp.out⟩
  case round =>
    clear HSp
    obtain ⟨k, hk, rfl, Sp⟩ := hrel
    by_cases hlt : k < cnt
    · have hfrom : ∀ W', Sep w W' [Ob.one o0 (bxS (.slice (some ⟨G, 0, none⟩) n n)), Ob.one f0 (bxS (.slice (some ⟨sb, jn, none⟩) n rc)), oSl 5 1 (.slice (some ⟨G, 0, none⟩) n n) n ((tiffK undo 16 cs R n k).map c8), Ob.one gb (.cells #[.int .i64 p, .int .i64 cs, .int .i64 16, .int .i64 kk] 23 (0, 0))] → Calls Try.prog 29 #[.int .i64 ((k : Nat) : Int), .pointer (some ⟨f0, 0, none⟩)] W' fun e w' => e = .returned (.int .i64 (valB 16 R (k) : Nat)) ∧ Ext [] W' w' := fun W' S =>
        get16_walk sb jn n rc f0 (k) (R (2 * (k))) (R (2 * (k) + 1)) W' (by omega) hn1 (S.get 1 rfl) (Ext.cell S.ext (HR.out _ (by omega))) (Ext.cell S.ext (HR.out _ (by omega)))
      have hput : ∀ (v : Int) W', Sep w W' [Ob.one o0 (bxS (.slice (some ⟨G, 0, none⟩) n n)), Ob.one f0 (bxS (.slice (some ⟨sb, jn, none⟩) n rc)), oSl 5 1 (.slice (some ⟨G, 0, none⟩) n n) n ((tiffK undo 16 cs R n k).map c8), Ob.one gb (.cells #[.int .i64 p, .int .i64 cs, .int .i64 16, .int .i64 kk] 23 (0, 0))] → Calls Try.prog 30 #[.int .i64 k, .int .i64 v, .pointer (some ⟨o0, 0, none⟩)] W' fun e w' => (∃ r, e = .returned r) ∧ Sep w w' [Ob.one o0 (bxS (.slice (some ⟨G, 0, none⟩) n n)), Ob.one f0 (bxS (.slice (some ⟨sb, jn, none⟩) n rc)), oSl 5 1 (.slice (some ⟨G, 0, none⟩) n n) n ((putB 16 (tiffK undo 16 cs R n k) k v).map c8), Ob.one gb (.cells #[.int .i64 p, .int .i64 cs, .int .i64 16, .int .i64 kk] 23 (0, 0))] := fun v W' S => by
        have hne : o0 ≠ G := fun e => S.apart 0 2 _ _ rfl rfl (by omega) o0 (by simp [Ob.one]) (by simp [oSl, Value.ownBlock, e])
        refine (put16_walk G 0 n n o0 k ((tiffK undo 16 cs R n k).getD (2 * k) 0) ((tiffK undo 16 cs R n k).getD (2 * k + 1) 0) v W' (by omega) hn1 (S.get 0 rfl) hne (by rw [Nat.zero_add]; exact getD_cell (S.get 2 rfl) _ (by omega)) (by rw [Nat.zero_add]; exact getD_cell (S.get 2 rfl) _ (by omega)) (fun j => ownsRow_free (S.get 2 rfl) j)).mono ?_
        rintro e w' ⟨he, w1, hx1, rfl⟩
        refine ⟨he, ?_⟩
        have S1 := S.quiet hx1
        rw [Nat.zero_add, Nat.zero_add]
        refine S1.upd 2 (oSl 5 1 (.slice (some ⟨G, 0, none⟩) n n) n ((putB 16 (tiffK undo 16 cs R n k) k v).map c8)) rfl (((Ext.refl _ w1).setCell _ _ (.inl (by simp [oSl, Value.ownBlock]))).setCell _ _ (.inl (by simp [oSl, Value.ownBlock]))) (Fr.refl _ _) ?_
        have hown : w1.ownsRow 0 5 1 (.slice (some ⟨G, 0, none⟩) n n) n ((tiffK undo 16 cs R n k).map c8) := S1.get 2 rfl
        have hst := ownsRow_store (i := 2 * k + 1) (ownsRow_store (i := 2 * k) hown (.int .u8 (v / 256 % 256))) (.int .u8 (v % 256))
        have e : ((((tiffK undo 16 cs R n k).map c8).set (2 * k) (.int .u8 (v / 256 % 256))).set (2 * k + 1) (.int .u8 (v % 256))) = (putB 16 (tiffK undo 16 cs R n k) k v).map c8 := by
          unfold putB
          rw [if_pos rfl, List.map_set, List.map_set, u8I_int, u8I_int]
        rw [e] at hst
        exact hst
      have hnx : tiffK undo 16 cs R n (k + 1) = putB 16 (tiffK undo 16 cs R n k) k (tiffV undo 16 cs R (tiffK undo 16 cs R n k) k) := rfl
      have HFROM := Lib.hid hfrom
      have HPUT := Lib.hid hput
      have HNX := Lib.hid hnx
      have HS := Lib.hid Sp
      have hvl := valB_lt 16 (.inr rfl) R k
      clear hfrom hput hnx Sp
      go_wp2_with fail
      refine (HFROM.out _ HS.out).mono ?_
      rintro e w5 ⟨rfl, hx5⟩
      have Sp := HS.out.quiet hx5
      have hg := Sp.get 3 rfl
      have d1 : w5.cell? ⟨gb, 1, none⟩ = _ := cellOf hg 1
      have HS := Lib.hid Sp
      clear hx5 Sp hg
      by_cases hkc : k < cs
      · have hv : tiffV undo 16 cs R (tiffK undo 16 cs R n k) k = (valB 16 R k : Int) := if_pos hkc
        have HV := Lib.hid hv
        clear hv
        generalize valB 16 R k = x at *
        go_wp2_with fail
        refine (HPUT.out _ _ HS.out).mono ?_
        rintro e w6 ⟨⟨r, rfl⟩, S6⟩
        have HS6 := Lib.hid S6
        clear S6
        go_wp2_with fail
        go_roundg (cnt - (k + 1))
        case measure => omega
        case rel => exact ⟨k + 1, by omega, by go_num, by rw [HNX.out, HV.out]; exact HS6.out⟩
      · have hki : ((k - cs : Nat) : Int) = (k : Int) - (cs : Int) := by omega
        cases undo with
        | true =>
          have hnow : ∀ W', Sep w W' [Ob.one o0 (bxS (.slice (some ⟨G, 0, none⟩) n n)), Ob.one f0 (bxS (.slice (some ⟨sb, jn, none⟩) n rc)), oSl 5 1 (.slice (some ⟨G, 0, none⟩) n n) n ((tiffK true 16 cs R n k).map c8), Ob.one gb (.cells #[.int .i64 p, .int .i64 cs, .int .i64 16, .int .i64 kk] 23 (0, 0))] → Calls Try.prog 29 #[.int .i64 ((k - cs : Nat) : Int), .pointer (some ⟨o0, 0, none⟩)] W' fun e w' => e = .returned (.int .i64 (valB 16 (fun j => (tiffK true 16 cs R n k).getD j 0) (k - cs) : Nat)) ∧ Ext [] W' w' := fun W' S =>
            get16_walk G 0 n n o0 (k - cs) ((tiffK true 16 cs R n k).getD (2 * (k - cs)) 0) ((tiffK true 16 cs R n k).getD (2 * (k - cs) + 1) 0) W' (by omega) hn1 (S.get 0 rfl) (by rw [Nat.zero_add]; exact getD_cell (S.get 2 rfl) _ (by omega)) (by rw [Nat.zero_add]; exact getD_cell (S.get 2 rfl) _ (by omega))
          rw [hki] at hnow
          have hv : tiffV true 16 cs R (tiffK true 16 cs R n k) k = (valB 16 R k : Int) + (valB 16 (fun j => (tiffK true 16 cs R n k).getD j 0) (k - cs) : Int) := by unfold tiffV; rw [if_neg hkc, if_pos rfl]
          have hvl2 := valB_lt 16 (.inr rfl) (fun j => (tiffK true 16 cs R n k).getD j 0) (k - cs)
          generalize valB 16 (fun j => (tiffK true 16 cs R n k).getD j 0) (k - cs) = y at *
          have HV := Lib.hid hv
          have HNOW := Lib.hid hnow
          clear hv hnow hki
          generalize valB 16 R k = x at *
          go_wp2_with fail
          refine (HNOW.out _ HS.out).mono ?_
          rintro e w6 ⟨rfl, hx6⟩
          have Sp := HS.out.quiet hx6
          have HS6 := Lib.hid Sp
          clear hx6 Sp d1
          go_wp2_with fail
          refine (HPUT.out _ _ HS6.out).mono ?_
          rintro e w7 ⟨⟨r, rfl⟩, S6⟩
          have HS7 := Lib.hid S6
          clear S6
          go_wp2_with fail
          go_roundg (cnt - (k + 1))
          case measure => omega
          case rel => exact ⟨k + 1, by omega, by go_num, by rw [HNX.out, HV.out]; exact HS7.out⟩
        | false =>
          have hnow : ∀ W', Sep w W' [Ob.one o0 (bxS (.slice (some ⟨G, 0, none⟩) n n)), Ob.one f0 (bxS (.slice (some ⟨sb, jn, none⟩) n rc)), oSl 5 1 (.slice (some ⟨G, 0, none⟩) n n) n ((tiffK false 16 cs R n k).map c8), Ob.one gb (.cells #[.int .i64 p, .int .i64 cs, .int .i64 16, .int .i64 kk] 23 (0, 0))] → Calls Try.prog 29 #[.int .i64 ((k - cs : Nat) : Int), .pointer (some ⟨f0, 0, none⟩)] W' fun e w' => e = .returned (.int .i64 (valB 16 R (k - cs) : Nat)) ∧ Ext [] W' w' := fun W' S =>
            get16_walk sb jn n rc f0 (k - cs) (R (2 * (k - cs))) (R (2 * (k - cs) + 1)) W' (by omega) hn1 (S.get 1 rfl) (Ext.cell S.ext (HR.out _ (by omega))) (Ext.cell S.ext (HR.out _ (by omega)))
          rw [hki] at hnow
          have hv : tiffV false 16 cs R (tiffK false 16 cs R n k) k = (valB 16 R k : Int) - (valB 16 R (k - cs) : Int) := by unfold tiffV; rw [if_neg hkc, if_neg (by simp)]
          have hvl2 := valB_lt 16 (.inr rfl) R (k - cs)
          generalize valB 16 R (k - cs) = y at *
          have HV := Lib.hid hv
          have HNOW := Lib.hid hnow
          clear hv hnow hki
          generalize valB 16 R k = x at *
          go_wp2_with fail
          refine (HNOW.out _ HS.out).mono ?_
          rintro e w6 ⟨rfl, hx6⟩
          have Sp := HS.out.quiet hx6
          have HS6 := Lib.hid Sp
          clear hx6 Sp d1
          go_wp2_with fail
          refine (HPUT.out _ _ HS6.out).mono ?_
          rintro e w7 ⟨⟨r, rfl⟩, S6⟩
          have HS7 := Lib.hid S6
          clear S6
          go_wp2_with fail
          go_roundg (cnt - (k + 1))
          case measure => omega
          case rel => exact ⟨k + 1, by omega, by go_num, by rw [HNX.out, HV.out]; exact HS7.out⟩
    · obtain rfl : k = cnt := by omega
      have HS := Lib.hid Sp
      clear Sp
      go_wp2_with fail
      go_ret
      exact ⟨G, rfl, (Sep.start w).new HS.out.ext (oSl 5 1 (.slice (some ⟨G, 0, none⟩) n n) n ((tiffK undo 16 cs R n k).map c8)) (HS.out.get 2 rfl) (fun q hq => HS.out.base (oSl 5 1 (.slice (some ⟨G, 0, none⟩) n n) n ((tiffK undo 16 cs R n k).map c8)) (by simp) q hq)⟩
end Go.Proofs.Ytoiegmdlbcbgoaa.Pr
