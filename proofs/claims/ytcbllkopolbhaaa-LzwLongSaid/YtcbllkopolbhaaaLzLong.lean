/-
  LzwLong: long texts, whose table comes to be full, come back.
-/
import Derived.Test.YtcbllkopolbhaaaLzLongP
import Derived.Test.YtcbllkopolbhaaaLzCuts
import Derived.Laws.OwnMore
import Derived.Deep.CutBlock
import Derived.Deep.DeepCutAuto
namespace Go.Proofs.Ytcbllkopolbhaaa.Lz
open Go.RowKit Go.Maps

def gby (s : ByteArray) (x k : Nat) : Nat := Bt.byteAt s (k % s.size) ^^^ (xs x (k + 1) / 16777216)
def Lk (s : ByteArray) (x N k : Nat) : List Nat := (List.range N).map fun i => if i < k then gby s x i else 0
theorem Lk_len (s : ByteArray) (x N k : Nat) : (Lk s x N k).length = N := by simp [Lk]
theorem Lk_zero (s : ByteArray) (x N : Nat) : Lk s x N 0 = List.replicate N 0 := by
  apply List.ext_getElem <;> simp [Lk]
theorem Lk_set (s : ByteArray) (x N k : Nat) : (Lk s x N k).set k (gby s x k) = Lk s x N (k + 1) := by
  apply List.ext_getElem
  · simp [Lk]
  · intro i h1 h2
    simp only [Lk, List.getElem_set, List.getElem_map, List.getElem_range]
    by_cases hik : k = i
    · subst hik; simp
    · rw [if_neg hik]
      by_cases hlt : i < k
      · rw [if_pos hlt, if_pos (by omega)]
      · rw [if_neg hlt, if_neg (by omega)]
theorem Lk_at (s : ByteArray) (x N k : Nat) (h : k < N) : ((Lk s x N k).map Bt.b8)[k]? = some (.int .u8 0) := by
  simp [Lk, h, Bt.b8]
theorem gby_lt (s : ByteArray) (x k : Nat) (hx : x < 4294967296) : gby s x k < 256 := by
  have := xs_lt x hx (k + 1)
  exact Nat.xor_lt_two_pow (n := 8) (Bt.byteAt_lt _ _) (by omega)
theorem Lk_full (s : ByteArray) (x N : Nat) (h : s.size = 1) : Lk s x N N = drawn (Bt.byteAt s 0) x N := by
  apply List.ext_getElem
  · simp [Lk, drawn]
  · intro i h1 h2
    have hi : i < N := by simpa [Lk] using h1
    simp only [Lk, drawn, List.getElem_map, List.getElem_range, if_pos hi, gby, h, Nat.mod_one]

theorem codesF_last : ∀ (f : Nat) (tb : List (Nat × Nat)) (known : Nat) (l : List Nat), ∃ pre, codesF f tb known l = pre ++ [257]
  | 0, _, _, _ => ⟨[], rfl⟩
  | f + 1, _, _, [] => ⟨[], rfl⟩
  | f + 1, tb, known, c :: r => by
    obtain ⟨p1, h1⟩ := codesF_last f [] 257 (ext tb c r).2
    obtain ⟨p2, h2⟩ := codesF_last f (grow tb (ext tb c r).1 (ext tb c r).2) (known + 1) (ext tb c r).2
    unfold codesF
    simp only
    split
    · exact ⟨(ext tb c r).1 :: 256 :: p1, by rw [h1]; rfl⟩
    · exact ⟨(ext tb c r).1 :: p2, by rw [h2]; rfl⟩
theorem codesF_two (f : Nat) (tb : List (Nat × Nat)) (known c : Nat) (r : List Nat) : 2 ≤ (codesF (f + 1) tb known (c :: r)).length := by
  unfold codesF
  simp only
  split
  · simp
  · have := codesF_pos f (grow tb (ext tb c r).1 (ext tb c r).2) (known + 1) (ext tb c r).2
    simp; omega
theorem codes_ends (l : List Nat) (h : 0 < l.length) : 3 ≤ (codes l).length ∧ (codes l)[0]? = some 256 ∧ (codes l)[(codes l).length - 1]? = some 257 := by
  obtain ⟨pre, hp⟩ := codesF_last l.length [] 257 l
  refine ⟨?_, rfl, ?_⟩
  · cases l with
    | nil => simp at h
    | cons c r =>
      have := codesF_two r.length [] 257 c r
      simp only [codes, List.length_cons] at *
      omega
  · rw [codes, hp, show 256 :: (pre ++ [257]) = (256 :: pre) ++ [257] from rfl, List.length_append, List.length_singleton, Nat.add_sub_cancel, List.getElem?_append_right (Nat.le_refl _), Nat.sub_self]
    rfl
theorem fits_lt (early : Bool) : ∀ (l : List Nat) (n : Nat) (b : Bool), fits early n b l → ∀ c ∈ l, c < 4096
  | [], _, _, _ => by simp
  | c :: r, n, b, h => fun x hx => by
    rcases List.mem_cons.1 hx with rfl | hx
    · exact Nat.lt_of_lt_of_le h.1.1 (Nat.pow_le_pow_right (by omega) (wid_le n early).2 : 2 ^ wid n early ≤ 2 ^ 12)
    · exact fits_lt early r _ _ h.2 x hx
set_option maxRecDepth 100000 in
set_option maxHeartbeats 8000000 in
theorem long_walk (s : ByteArray) (early : Bool) (step : Int) (w : World) (_hs : s.size ≤ maxLen) (wst : (Lit.int .i64 step).wf = true) :
    Calls Try.prog 7 #[.string s, .bool early, .int .i64 step] w fun e w' => e = .returned (.bool true) ∧ Ext [] w w' := by
  unfold maxLen at _hs
  obtain ⟨ha0, ha1⟩ := wf_i64 wst
  clear wst
  by_cases h0 : s.size = 0
  · have h0' : ((s.size : Int) == 0) = true := by simp [h0]
    clear h0
    go_enter Try.func7, Try.ntmps7
    go_wp2_with fail
    refine (lives14 w).mono ?_; rintro e w1 ⟨rfl, hx⟩
    go_wp2_with fail
    go_ret
    exact ⟨rfl, hx⟩
  · by_cases h1 : s.size ≤ 700
    · obtain ⟨j0, hif, hz0, hz1, hz2⟩ := info_parts Bt.infoByte
      obtain ⟨x, hx⟩ : ∃ x : Nat, step % 1000 = x := ⟨(step % 1000).toNat, by have := Int.emod_nonneg step (show (1000 : Int) ≠ 0 by omega); omega⟩
      have hx1 : x < 1000 := by omega
      have HX := Lib.hid hx
      clear hx
      obtain ⟨N, hN⟩ : ∃ N : Nat, N = 24000 := ⟨_, rfl⟩
      have hN1 : N ≤ 24000 := by omega
      have hN2 : 24000 ≤ N := by omega
      have HN := Lib.hid hN
      clear hN
      have hs0 : 0 < s.size := by omega
      have hs1 : ((s.size : Int) == 0) = false := beq_eq_false_iff_ne.2 (by omega)
      go_enter Try.func7, Try.ntmps7
      go_wp2_with fail
      refine (lives14 w).mono ?_; rintro e w1 ⟨rfl, hx⟩
      have S := (Sep.start w).quiet hx
      clear hx
      obtain ⟨w2, hmk, hown, hgrow⟩ := run_make_full (P := Try.prog) w1 0 36 5 j0 (.int .u8 0) 1 Try.underlying36 hif hz0 hz1 .i64 .i64 N (by rw [hz2]; omega) (by unfold maxLen; omega) (by omega)
      rw [show (N : Int) = 24000 by omega] at hmk
      have hx2 : Ext [] w1 w2 := (Ext.refl [] w1).grown hgrow (fun k hk => by cases hk)
      have S := S.new hx2 (oSl 5 1 (.slice (some ⟨w1.heap.size, 0, none⟩) N N) N ((Lk s (1 + x) N 0).map Bt.b8)) (by
        have hm : (madeCells (Value.int .u8 0).cells (N * 1)).toList = (Lk s (1 + x) N 0).map Bt.b8 := by
          rw [Lk_zero, List.map_replicate, Nat.mul_one]
          exact toList_madeCells_one _ _
        rw [← hm]; exact hown) (fun q hq => by simp [oSl, Value.ownBlock] at hq; omega)
      have HS := Lib.hid S
      clear S hx2 hown hgrow
      obtain ⟨G, hG⟩ : ∃ G, w1.heap.size = G := ⟨_, rfl⟩
      rw [hG] at hmk HS
      clear hG
      go_wp2_with fail
      refine (Bt.pick_any step 1000 _ (by omega) (by omega) ha0 ha1).mono ?_; rintro e w3 ⟨rfl, rfl⟩
      rw [HX.out]
      go_wp2_with fail
      clear hmk
      obtain ⟨X0, hX0⟩ : ∃ X0, X0 = 1 + x := ⟨_, rfl⟩
      have hX1 : X0 < 4294967296 := by omega
      have hXv : (.int .u32 (1 + (x : Int)) : Value) = .int .u32 (xs X0 0 : Nat) := by rw [hX0]; go_num
      rw [← hX0] at HS
      have HXV := Lib.hid hXv
      have HXX := Lib.hid hX0
      clear hXv hX0
      go_loopg [7, 9] N (fun gg xv iv wr => ∃ k : Nat, gg + k = N ∧ iv = .int .i64 k ∧ xv = .int .u32 (xs X0 k : Nat) ∧ Sep w wr [oSl 5 1 (.slice (some ⟨G, 0, none⟩) N N) N ((Lk s X0 N k).map Bt.b8)])
      case atStart => exact ⟨0, by omega, rfl, HXV.out, HS.out⟩
      case round =>
        clear HS
        obtain ⟨k, hk, rfl, rfl, S⟩ := hrel
        have hown : wr.ownsRow 0 5 1 (.slice (some ⟨G, 0, none⟩) N N) N ((Lk s X0 N k).map Bt.b8) := S.get 0 rfl
        have HS := Lib.hid S
        clear S
        by_cases hlt : k < N
        · obtain ⟨r, hr⟩ : ∃ r, k % s.size = r := ⟨_, rfl⟩
          have hmod : r < s.size := by rw [← hr]; exact Nat.mod_lt _ hs0
          have hxl := xs_lt X0 hX1 k
          have hxl2 := lcg_lt (xs X0 k)
          have hlx : (((xs X0 k : Nat) : Int) * 1664525 % 4294967296 + 1013904223) % 4294967296 = ((lcg (xs X0 k) : Nat) : Int) := by unfold lcg; omega
          have hgk : gby s X0 k = Bt.byteAt s r ^^^ (lcg (xs X0 k) / 16777216) := by rw [← hr]; rfl
          have hxor := u8_xor_nat (Bt.byteAt s r) (lcg (xs X0 k) / 16777216) (Bt.byteAt_lt _ _) (by omega)
          rw [← hgk] at hxor
          have hcell : wr.cell? ⟨G, k, none⟩ = some (.int .u8 0) := ownsRow_at hown (Lk_at s X0 N k hlt)
          have hfree := ownsRow_free hown k
          have hbt : ((s[r]'hmod).toNat : Int) = (Bt.byteAt s r : Int) := by rw [Bt.byteAt_eq]
          have HGK := Lib.hid hgk
          have HR := Lib.hid hr
          clear hr
          have hnx : xs X0 (k + 1) = lcg (xs X0 k) := rfl
          generalize lcg (xs X0 k) = Y at *
          generalize xs X0 k = X at *
          have HNX := Lib.hid hnx
          have HLX := Lib.hid hlx
          have HBT := Lib.hid hbt
          clear hnx hbt
          have HXO := Lib.hid hxor
          clear hgk hlx hxor
          go_upto_region 12 with (fail)
          rw [HLX.out]
          have hr1 : (k : Int) % (s.size : Int) = (r : Int) := by have := HR.out; omega
          have hr2 : Int.tmod (k : Int) (s.size : Int) = (r : Int) := by rw [Int.tmod_eq_emod_of_nonneg (by omega)]; exact hr1
          go_wp2_with fail
          have hval : bits BinOp.xor IntKind.u8 (((s[r]'hmod).toNat : Nat) : Int) ((Y : Int) / 16777216) = ((gby s X0 k : Nat) : Int) := by
            rw [HBT.out]
            have h := HXO.out
            rwa [show ((Y / 16777216 : Nat) : Int) = (Y : Int) / 16777216 by omega] at h
          rw [hval]
          go_roundg (N - (k + 1))
          case measure => omega
          case rel =>
            refine ⟨k + 1, by omega, by go_num, by rw [HNX.out], ?_⟩
            refine HS.out.upd 0 (oSl 5 1 (.slice (some ⟨G, 0, none⟩) N N) N ((Lk s X0 N (k + 1)).map Bt.b8)) rfl ((Ext.refl _ wr).setCell _ _ (.inl (by simp [oSl, Value.ownBlock]))) (Fr.refl _ _) ?_
            have hst := ownsRow_store (i := k) hown (.int .u8 ((gby s X0 k : Nat) : Int))
            have he : ((Lk s X0 N k).map Bt.b8).set k (.int .u8 ((gby s X0 k : Nat) : Int)) = (Lk s X0 N (k + 1)).map Bt.b8 := by rw [← Lk_set, List.map_set]; rfl
            rw [he] at hst
            exact hst
        · obtain rfl : k = N := by omega
          have hct := Bt.run_row_text hown
          have hlist : ∀ y ∈ Lk s X0 k k, y < 256 := fun y hy => by
            obtain ⟨i, _, rfl⟩ := List.mem_map.1 hy
            split
            · exact gby_lt s X0 i hX1
            · omega
          have hone : s.size = 1 → 2 ≤ (codes (Lk s X0 k k)).count 256 := fun h => by
            rw [Lk_full s X0 k h, HN.out]
            exact drawn_clears _ _ (Bt.byteAt_lt _ _) hX1
          have htl : tailB (Bt.txt (Lk s X0 k k)) 0 = Lk s X0 k k := by
            apply List.ext_getElem
            · rw [tailB_len, Bt.txt_size]; rfl
            · intro i h1 h2
              have hm := hlist _ (List.getElem_mem h2)
              simp only [tailB, List.getElem_map, List.getElem_range, Nat.zero_add]
              exact Bt.byteAt_txt _ i _ (List.getElem?_eq_getElem h2) hm
          have htz : (Bt.txt (Lk s X0 k k)).size = k := by rw [Bt.txt_size, Lk_len]
          obtain ⟨t, ht⟩ : ∃ t, Bt.txt (Lk s X0 k k) = t := ⟨_, rfl⟩
          rw [ht] at hct htl htz
          rw [← htl] at hone
          have HONE := Lib.hid hone
          have HTZ := Lib.hid htz
          clear hlist hone htl htz ht hown
          go_wp2_with fail
          have htn : t.size ≤ 24000 := by have := HTZ.out; omega
          have htp : 0 < t.size := by have := HTZ.out; omega
          refine (sCodes t (by omega) HS.out).mono ?_; clear HS; rintro e w5 ⟨v, rfl, S⟩
          have hlt4 := fits_lt early _ _ _ (codes_fits early (tailB t 0) (tailB_lt t 0))
          obtain ⟨hc3, hc0, hcl⟩ := codes_ends (tailB t 0) (by rw [tailB_len]; omega)
          have hclen := codes_len (tailB t 0)
          rw [tailB_len] at hclen
          generalize codes (tailB t 0) = cl at *
          obtain ⟨g, cap, hv⟩ := row_form (S.get 0 rfl) (by omega)
          rw [hv] at S ⊢
          clear hv
          have HS := Lib.hid S
          have H4 := Lib.hid hlt4
          have HC0 := Lib.hid hc0
          have HCL := Lib.hid hcl
          clear S hlt4 hc0 hcl
          go_wp2_with fail
          go_loopg [12, 13] cl.length (fun gg cv iv wr => ∃ j : Nat, gg + j = cl.length ∧ iv = .int .i64 j ∧ cv = .int .i64 ((cl.take j).count 256 : Nat) ∧ wr = w5)
          case atStart => exact ⟨0, by omega, rfl, by simp, rfl⟩
          case round =>
            obtain ⟨j, hj, rfl, rfl, rfl⟩ := hrel
            by_cases hjl : j < cl.length
            · have hcj := H4.out cl[j] (List.getElem_mem hjl)
              have hcnt : (cl.take (j + 1)).count 256 = (cl.take j).count 256 + if cl[j] = 256 then 1 else 0 := by
                rw [List.take_succ_eq_append_getElem hjl, List.count_append, List.count_singleton]
                simp
              have hcb : (cl.take j).count 256 ≤ j := Nat.le_trans List.count_le_length (by rw [List.length_take]; omega)
              have q1 : wr.cell? ⟨g, j, none⟩ = some (.int .i64 cl[j]) := ownsRow_at (HS.out.get 0 rfl) (by simp [hjl, iv])
              generalize cl[j] = c at *
              generalize (cl.take j).count 256 = m at *
              by_cases h256 : c = 256
              · subst h256
                rw [if_pos rfl] at hcnt
                have HM := Lib.hid hcnt
                clear hcnt
                go_wp2_with fail
                go_roundg (cl.length - (j + 1))
                case measure => omega
                case rel => exact ⟨j + 1, by omega, by go_num, by rw [HM.out]; go_num, rfl⟩
              · rw [if_neg h256] at hcnt
                have HM := Lib.hid hcnt
                clear hcnt
                go_wp2_with fail
                go_roundg (cl.length - (j + 1))
                case measure => omega
                case rel => exact ⟨j + 1, by omega, by go_num, by rw [HM.out]; rfl, rfl⟩
            · obtain rfl : j = cl.length := by omega
              rw [List.take_of_length_le (Nat.le_refl _)]
              have hpb := putS_bound t early (by omega)
              have hg := get_put (putS early t) t early t.size (Rd.put t early) (by omega) (fun h => by omega)
              rw [if_neg (by have := putS_sz t early; omega), if_neg (by omega)] at hg
              have HG := Lib.hid hg
              clear hg
              go_wp2_with fail
              refine (put_walk t early _ (by omega)).mono ?_; rintro e w6 ⟨rfl, hx6⟩
              go_wp2_with fail
              refine (get_any (putS early t) early t.size _ (by omega) (by omega) (by omega)).mono ?_; rintro e w7 ⟨rfl, hx7⟩
              rw [HG.out, txt_tail]
              have S := (HS.out.quiet hx6).quiet hx7
              clear hx6 hx7
              have q0 : w7.cell? ⟨g, 0, none⟩ = some (.int .i64 256) := ownsRow_at (S.get 0 rfl) (by rw [List.getElem?_map, HC0.out]; rfl)
              have ql : w7.cell? ⟨g, cl.length - 1, none⟩ = some (.int .i64 257) := ownsRow_at (S.get 0 rfl) (by rw [List.getElem?_map, HCL.out]; rfl)
              by_cases hs1' : s.size = 1
              · have hcc := HONE.out hs1'
                generalize cl.count 256 = m at *
                have hz1 : ¬ 1 < s.size := by omega
                go_wp2_with fail
                go_ret
                exact ⟨rfl, S.ext⟩
              · have hz1 : 1 < s.size := by omega
                go_wp2_with fail
                go_ret
                exact ⟨rfl, S.ext⟩
    · have h1' : 700 < s.size := by omega
      have h0' : ((s.size : Int) == 0) = false := beq_eq_false_iff_ne.2 (by omega)
      clear h0 h1
      go_enter Try.func7, Try.ntmps7
      go_wp2_with fail
      refine (lives14 w).mono ?_; rintro e w1 ⟨rfl, hx⟩
      go_wp2_with fail
      go_ret
      exact ⟨rfl, hx⟩
end Go.Proofs.Ytcbllkopolbhaaa.Lz
