/-
  The law DeflateSame walked: one byte many times.
-/
import Derived.Test.YtapcfffmgdpmcaaDhA
import Derived.Test.YtapcfffmgdpmcaaDgJ
import Derived.Lib.SlBytesRow
import Derived.Lib.ConvBytes
namespace Go.Proofs.Ytapcfffmgdpmcaa.De
open Go.RowKit Bt Hu If Mt

def repS (c : UInt8) (n : Nat) : ByteArray := ⟨(List.replicate n c).toArray⟩
theorem repS_size (c : UInt8) (n : Nat) : (repS c n).size = n := by simp [repS, ByteArray.size]
theorem repS_B (c : UInt8) (n : Nat) : B (repS c n) = List.replicate n c := by simp [repS, B]
theorem repS_at (c : UInt8) (n i : Nat) (h : i < n) : byteF (repS c n) i = c := by
  unfold byteF
  rw [repS_B, List.getD_eq_getElem?_getD, List.getElem?_replicate_of_lt h]
  rfl
theorem rep_long (c : UInt8) (n p b : Nat) (hb1 : b ≤ p) (hp : p ≤ n) : longN (repS c n) (p - b) p = min 258 (n - p) := by
  have h1 := longN_le (repS c n) (p - b) p
  have h2 := longN_fit (repS c n) (p - b) p (by rw [repS_size]; exact hp)
  rw [repS_size] at h2
  have h3 := longN_ge (repS c n) (p - b) p (min 258 (n - p)) (by omega) (by rw [repS_size]; omega) (fun i hi => by rw [repS_at _ _ _ (by omega), repS_at _ _ _ (by omega)])
  omega
theorem rep_find (c : UInt8) (n p : Nat) (h1 : 1 ≤ p) (hp : p ≤ n) : findN (repS c n) p = if 3 ≤ n - p then (min 258 (n - p), 1) else (0, 0) := by
  have h := findN_spec (repS c n) p (by rw [repS_size]; exact hp)
  obtain ⟨r, hr⟩ : ∃ r, findN (repS c n) p = r := ⟨_, rfl⟩
  rw [hr] at h ⊢
  rcases h with ⟨rfl, h⟩ | ⟨g1, g2, g3, g4, g5, g6, g7⟩
  · have := h 1 (by omega) h1 (by omega)
    rw [rep_long c n p 1 h1 hp] at this
    rw [if_neg (by omega)]
  · rw [rep_long c n p r.2 g3 hp] at g5
    have e2 : r.2 = 1 := by
      apply Decidable.byContradiction
      intro hn
      have := g7 1 (by omega) (by omega)
      rw [rep_long c n p 1 h1 hp] at this
      omega
    rw [if_pos (by omega)]
    exact Prod.ext (by omega) e2
theorem fix_len9 : ∀ i, (fixL.getD i 0).toNat ≤ 9 := by
  have h : ∀ x ∈ fixL, x ≤ 9 := by decide +kernel
  intro i
  rw [List.getD_eq_getElem?_getD]
  cases hi : fixL[i]? with
  | none => exact Nat.zero_le _
  | some x => have := h x (List.mem_of_getElem? hi); rw [Option.getD_some]; omega
theorem fix_258 : (fixL.getD (lsN 258) 0).toNat + (lenX (lsN 258) + ((fixD.getD (dsN 1) 0).toNat + dstX (dsN 1))) = 13 := by decide +kernel
theorem fix_less : ∀ n, n < 258 → 3 ≤ n → (fixL.getD (lsN n) 0).toNat + (lenX (lsN n) + ((fixD.getD (dsN 1) 0).toNat + dstX (dsN 1))) ≤ 18 := by decide +kernel
theorem fix_end : (fixL.getD 256 0).toNat = 7 := by decide +kernel
theorem pcM_len (n b : Nat) : (pcM fixL fixD n b).length = (fixL.getD (lsN n) 0).toNat + (lenX (lsN n) + ((fixD.getD (dsN b) 0).toNat + dstX (dsN b))) := by
  unfold pcM
  simp only [List.length_append, cbD_len, bitsOf_length]
theorem rep_bits (c : UInt8) (n : Nat) : ∀ k p, 1 ≤ p → p ≤ n → n < p + k →
    (pcsB fixL fixD (allF (repS c n) k p)).length ≤ 13 * ((n - p) / 258) + 25 ∧ (n - p ≤ 2 → (pcsB fixL fixD (allF (repS c n) k p)).length ≤ 9 * (n - p) + 7)
  | 0, p, _, hp, hk => by omega
  | k + 1, p, h1, hp, hk => by
    rw [Mt.allF, repS_size]
    by_cases hpn : p < n
    · rw [if_pos hpn, rep_find c n p h1 hp]
      by_cases h3 : 3 ≤ n - p
      · rw [if_pos h3]
        simp only
        rw [if_pos (by omega), pcsB, List.length_append]
        have hb : pcB fixL fixD (0, ((min 258 (n - p) : Nat) : Int), ((1 : Nat) : Int)) = pcM fixL fixD (min 258 (n - p)) 1 := by
          unfold pcB
          rw [if_neg (by show ¬ ((min 258 (n - p) : Nat) : Int) = 0; omega)]
          rfl
        rw [hb, pcM_len]
        obtain ⟨i1, i2⟩ := rep_bits c n k (p + min 258 (n - p)) (by omega) (by omega) (by omega)
        by_cases h258 : 258 ≤ n - p
        · rw [show min 258 (n - p) = 258 by omega] at i1 i2 ⊢
          have := fix_258
          omega
        · have hf := fix_less (n - p) (by omega) h3
          rw [show min 258 (n - p) = n - p by omega] at i1 i2 ⊢
          omega
      · rw [if_neg h3]
        simp only
        rw [if_neg (by omega), pcsB, List.length_append, show pcB fixL fixD (byteF (repS c n) p, 0, 0) = cbD fixL (byteF (repS c n) p).toNat from rfl, cbD_len]
        have h9 := fix_len9 (byteF (repS c n) p).toNat
        obtain ⟨i1, i2⟩ := rep_bits c n k (p + 1) (by omega) (by omega) (by omega)
        omega
    · rw [if_neg hpn, pcsB, cbD_len, fix_end]
      omega
theorem rep_fixed (c : UInt8) (n : Nat) (h1 : 1 ≤ n) : (fixedB (repS c n)).length ≤ 37 + 13 * ((n - 1) / 258) := by
  unfold fixedB allN
  rw [repS_size, List.length_append, List.length_append, bitsOf_length, bitsOf_length, Mt.allF, repS_size, if_pos (by omega)]
  have hf : findN (repS c n) 0 = (0, 0) := by
    rcases findN_spec (repS c n) 0 (Nat.zero_le _) with ⟨h, _⟩ | ⟨_, g2, g3, _⟩
    · exact h
    · omega
  rw [hf, if_neg (by decide), pcsB, List.length_append, show pcB fixL fixD (byteF (repS c n) 0, 0, 0) = cbD fixL (byteF (repS c n) 0).toNat from rfl, cbD_len]
  have h9 := fix_len9 (byteF (repS c n) 0).toNat
  have := (rep_bits c n n (0 + 1) (by omega) (by omega) (by omega)).1
  omega
theorem short_le (a b : ByteArray) : (shortN a b).size ≤ a.size ∧ (shortN a b).size ≤ b.size := by
  unfold shortN
  split <;> omega
theorem best_le (s : ByteArray) : (bestN s).size ≤ (storedN s).size ∧ (bestN s).size ≤ (fixedN s).size ∧ (bestN s).size ≤ (dynN s).size := by
  unfold bestN
  have h1 := short_le (shortN (storedN s) (fixedN s)) (dynN s)
  have h2 := short_le (storedN s) (fixedN s)
  omega
theorem stored_size (s : ByteArray) (h : s.size ≤ 65535) : (storedN s).size = s.size + 5 := by
  unfold storedN
  rw [txt_size, stored_one s h, List.length_append, nB_len, B_len]
  simp only [hdS, List.length_cons, List.length_nil]
  omega
theorem rep_best (c : UInt8) (n : Nat) (h1 : 1 ≤ n) : (bestN (repS c n)).size ≤ 8 + n / 50 := by
  have h := (best_le (repS c n)).2.1
  rw [fixedN_size] at h
  have := rep_fixed c n h1
  omega
/-- a row of bytes that is filled from its front -/
def oFil (g : Nat) (c : UInt8) (n k : Nat) : Ob where
  F := [g]
  P := fun w => ∃ cs fr, w.heap[g]? = some (.cells cs 5 fr) ∧ (∀ j, j < n → cs[j]? = some (u8v (if j < k then c else 0))) ∧ n ≤ fr.1
  ok := fun h hx hS => by
    obtain ⟨cs, fr, h1, h2⟩ := h
    exact ⟨cs, fr, hx.keep h1 (hS g (by simp)), h2⟩
  lt := fun h k hk => by
    obtain ⟨cs, fr, h1, _⟩ := h
    rw [List.mem_singleton.1 hk]; exact lt_of_block h1
theorem oFil_cell {g : Nat} {c : UInt8} {n k : Nat} {w : World} (h : (oFil g c n k).P w) (j : Nat) (hj : j < n) : w.cell? ⟨g, j, none⟩ = some (u8v (if j < k then c else 0)) := by
  obtain ⟨cs, fr, h1, h2, _⟩ := h
  rw [cellOf h1]; exact h2 j hj
theorem oFil_free {g : Nat} {c : UInt8} {n k : Nat} {w : World} (h : (oFil g c n k).P w) (j : Nat) (hj : j < n) : w.frozen? ⟨g, j, none⟩ = false := by
  obtain ⟨cs, fr, h1, _, h3⟩ := h
  simp [World.frozen?, h1]
  omega
theorem oFil_set {g : Nat} {c : UInt8} {n k : Nat} {w : World} (h : (oFil g c n k).P w) : (oFil g c n (k + 1)).P (w.setCell ⟨g, k, none⟩ (u8v c)) := by
  obtain ⟨cs, fr, h1, h2, h3⟩ := h
  refine ⟨_, fr, heap_setCell_same h1 _, fun j hj => ?_, h3⟩
  have hsz : j < cs.size := (Array.getElem?_eq_some_iff.1 (h2 j hj)).1
  rw [Array.getElem?_setIfInBounds]
  by_cases hjq : k = j
  · subst hjq; rw [if_pos rfl, if_pos hsz, if_pos (by omega)]
  · rw [if_neg hjq, h2 j hj]
    congr 2
    by_cases hjk : j < k
    · rw [if_pos hjk, if_pos (by omega)]
    · rw [if_neg hjk, if_neg (by omega)]
theorem fil_start (n : Nat) (c : UInt8) (W : World) (hn : n ≤ 1048576) : ∃ W' cap, (convert 9 32 (.string (repS 0 n))).run Try.prog W = .ok (.slice (some ⟨W.heap.size, 0, none⟩) n cap) W' ∧ Ext [] W W' ∧ n ≤ cap ∧ cap ≤ maxLen ∧ (oFil W.heap.size c n 0).P W' := by
  have hsz := repS_size 0 n
  have hr := Lib.run_convert_string_bytes W 9 32 5 (repS 0 n) Try.underlying9 Try.underlying32 Try.underlying5
  rw [hsz] at hr
  refine ⟨Lib.bytesWorld W 5 (repS 0 n), grownCap W n 0 5, hr,
    ⟨rfl, rfl, rfl, by rw [Lib.bytesWorld_size]; omega, fun k hk _ => Lib.bytesWorld_at_old W _ _ k hk⟩, grownCap_ge _ _ _ _, grownCap_le_maxLen _ _ _ _ (by unfold maxLen; omega), _, _, Lib.bytesWorld_at_new W _ _, fun j hj => ?_, ?_⟩
  · have h := Lib.bytesWorld_cell W 5 (repS 0 n) j (by rw [hsz]; exact hj)
    rw [cellOf (Lib.bytesWorld_at_new W 5 (repS 0 n))] at h
    rw [h, if_neg (by omega)]
    simp [repS]
    rw [List.getElem?_replicate_of_lt hj]
    rfl
  · first | (simp [Lib.bytesCells, hsz]; done) | (simp [Lib.bytesCells, hsz]; omega)
theorem fil_text {g n cap : Nat} {c : UInt8} {w : World} (h : (oFil g c n n).P w) : (convert 32 9 (.slice (some ⟨g, 0, none⟩) n cap)).run Try.prog w = .ok (.string (repS c n)) w := by
  have := Lib.run_convert_whole (P := Try.prog) w 32 5 9 Try.underlying32 Try.underlying5 Try.underlying9 g 0 (repS c n) (fun i hi => by
    rw [repS_size] at hi
    rw [Nat.zero_add, oFil_cell h i hi, if_pos hi]
    simp [repS, ByteArray.getElem_eq_getElem_data]) cap
  rw [repS_size] at this
  exact this
set_option maxRecDepth 100000 in
set_option maxHeartbeats 16000000 in
theorem same10_law (c n : Int) (w : World) (wc : (Lit.int .u8 c).wf = true) (wn : (Lit.int .i64 n).wf = true) :
    Calls Try.prog 5 #[.int .u8 c, .int .i64 n] w fun e w' => e = .returned (.bool true) ∧ Ext [] w w' := by
  obtain ⟨b, rfl⟩ := Kt.wf_u8 wc
  obtain ⟨n0, n1⟩ := Kt.wf_i64 wn
  clear wc wn
  obtain ⟨i0, hi, hz0, hz1, hz2⟩ := info_parts infoByte
  obtain ⟨N0, hN⟩ : ∃ N0 : Nat, n % 3000 = N0 := ⟨(n % 3000).toNat, by omega⟩
  have hN1 : N0 ≤ 2999 := by omega
  have HN := Lib.hid hN
  clear hN
  obtain ⟨N, hNN⟩ : ∃ N : Nat, 1 + N0 = N := ⟨_, rfl⟩
  have hNz : (1 : Int) + (N0 : Int) = (N : Int) := by omega
  have hN3 : 1 ≤ N ∧ N ≤ 3000 := by omega
  have b8 := b.toNat_lt
  go_enter Try.func5, Try.ntmps5
  go_wp2_with fail
  refine (lives10 _).mono ?_; rintro e w1 ⟨rfl, hx1⟩
  have S := (Sep.start w).quiet hx1
  clear hx1
  have HS := Lib.hid S
  clear S
  go_wp2_with fail
  refine (Kt.pick_any n 3000 _ (by omega) (by omega) n0 n1).mono ?_; rintro e w1b ⟨rfl, rfl⟩
  rw [HN.out]
  clear n0 n1
  obtain ⟨w2, hmk, hown, hgrow⟩ := run_make_full (P := Try.prog) w1 0 32 5 i0 (.int .u8 0) 1 Try.underlying32 hi hz0 hz1 .i64 .i64 N (by rw [hz2]; omega) (by unfold maxLen; omega) (by omega)
  have hx2 : Ext [] w1 w2 := (Ext.refl [] w1).grown hgrow (fun k hk => by cases hk)
  have hm : (madeCells (Value.int .u8 0).cells (N * 1)).toList = (List.replicate N (0 : UInt8)).map u8v := by
    rw [List.map_replicate, Nat.mul_one]
    exact toList_madeCells_one _ _
  have hct := run_text9 (l := List.replicate N (0 : UInt8)) (by rw [← hm]; exact hown)
  replace hct : (convert 32 9 (.slice (some ⟨w1.heap.size, 0, none⟩) N N)).run Try.prog w2 = .ok (.string (repS 0 N)) w2 := hct
  obtain ⟨w3, cap, hcv, hx3, hc1, hc2, hfil⟩ := fil_start N b w2 (by omega)
  have S := (HS.out.quiet hx2).new hx3 (oFil w2.heap.size b N 0) hfil (fun k hk => by rw [List.mem_singleton.1 hk]; exact Nat.le_refl _)
  clear hm hown hgrow hx2 hx3 hfil HS
  have HS := Lib.hid S
  clear S
  obtain ⟨G, hG⟩ : ∃ G, w1.heap.size = G := ⟨_, rfl⟩
  obtain ⟨G2, hG2⟩ : ∃ G2, w2.heap.size = G2 := ⟨_, rfl⟩
  rw [hG] at hmk hct
  rw [hG2] at hcv HS
  obtain ⟨z, hz⟩ : ∃ z, repS 0 N = z := ⟨_, rfl⟩
  rw [hz] at hct hcv
  clear hG hG2 hz hNN
  go_wp2_with fail
  clear hmk hct hcv
  go_loopg [7] N (fun gg iv wr => ∃ k : Nat, gg + k = N ∧ iv = .int .i64 k ∧ Sep w wr [oFil G2 b N k])
  case atStart => exact ⟨0, by omega, rfl, HS.out⟩
  case round =>
    clear HS
    obtain ⟨k, hk, rfl, S⟩ := hrel
    have HS := Lib.hid S
    clear S
    by_cases hlt : k < N
    · have hcell := oFil_cell (g := G2) (HS.out.get 0 rfl) k hlt
      have hfree := oFil_free (g := G2) (HS.out.get 0 rfl) k hlt
      rw [if_neg (Nat.lt_irrefl k)] at hcell
      have hltz : (k : Int) < (N : Int) := by omega
      go_wp2_with fail
      go_roundg (N - (k + 1))
      case measure => omega
      case rel =>
        exact ⟨k + 1, by omega, by go_num, HS.out.upd 0 (oFil G2 b N (k + 1)) rfl ((Ext.refl _ wr).setCell _ _ (.inl (by simp [oFil]))) (Fr.refl _ _) (oFil_set (HS.out.get 0 rfl))⟩
    · obtain rfl : k = N := by omega
      have hct : ∀ x : Ex wr, (convert 32 9 (.slice (some ⟨G2, 0, none⟩) k cap)).run Try.prog x.w = .ok (.string (repS b k)) x.w := fun x => fil_text ((oFil G2 b k k).ok (HS.out.get 0 rfl) x.ext (by simp))
      have hc0 : (convert 32 9 (.slice (some ⟨G2, 0, none⟩) k cap)).run Try.prog wr = .ok (.string (repS b k)) wr := fil_text (HS.out.get 0 rfl)
      have h1 := fun w => stored_walk (repS b k) w (by rw [repS_size]; omega)
      have h2 := fun w => best_walk (repS b k) w (by rw [repS_size]; omega)
      have h3 := stored_size (repS b k) (by rw [repS_size]; omega)
      have h4 := rep_best b k (by omega)
      rw [repS_size] at h3
      obtain ⟨T, hT⟩ : ∃ T, repS b k = T := ⟨_, rfl⟩
      simp only [hT] at hct hc0 h1 h2 h3 h4
      obtain ⟨P, hP⟩ : ∃ P, storedN T = P := ⟨_, rfl⟩
      obtain ⟨Q, hQ⟩ : ∃ Q, bestN T = Q := ⟨_, rfl⟩
      simp only [hP] at h1 h3
      simp only [hQ] at h2 h4
      have H12 := Lib.hid (⟨h1, h2⟩ : _ ∧ _)
      have hq1 : decide ((Q.size : Int) ≤ 8 + (k : Int) / 50) = true := decide_eq_true (by omega)
      clear h1 h2 hT hP hQ
      go_wp2_with fail
      clear hc0
      refine wp_region_ext (by kernel_rfl) (by kernel_rfl) ?_
      repeat (go_big_quiet_step (first | (go_at_call 10; refine Calls.ext_of (H12.out.1 _)) | (go_at_call 12; refine Calls.ext_of (H12.out.2 _))))
      refine wpQuiet_nil ?_
      rintro _ ⟨x, rfl⟩
      have HX := Lib.hid (HS.out.ext.trans x.ext)
      go_wp2_with fail
      go_ret
      exact ⟨rfl, HX.out⟩
end Go.Proofs.Ytapcfffmgdpmcaa.De
