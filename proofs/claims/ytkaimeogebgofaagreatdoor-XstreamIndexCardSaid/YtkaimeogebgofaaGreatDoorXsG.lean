/-
  xstream's (row).part, cut walked.
-/
import Derived.Test.YtkaimeogebgofaaGreatDoorXtA
import Derived.Laws.BitsAllLaws
import Derived.Lib.QuoteBits
import Derived.Lib.ConvBytes
namespace Go.Proofs.YtkaimeogebgofaaGreatDoor.Xs
open Go.RowKit
open Go.Proofs.YtkaimeogebgofaaGreatDoor.Tr

abbrev b8 (b : UInt8) : Value := .int .u8 ((b.toNat : Nat) : Int)
def beN (l : List UInt8) : Nat := l.foldl (fun n b => n * 256 + b.toNat) 0
theorem beN_snoc (l : List UInt8) (b : UInt8) : beN (l ++ [b]) = beN l * 256 + b.toNat := by rw [beN, List.foldl_append]; rfl
theorem beN_lt : ∀ (k : Nat) (l : List UInt8), l.length = k → beN l < 256 ^ k
  | 0, l, h => by
    obtain rfl := List.length_eq_zero_iff.1 h
    show 0 < 1
    omega
  | k + 1, l, h => by
    have hne : l ≠ [] := fun e => by rw [e] at h; cases h
    have hl := List.dropLast_concat_getLast hne
    have ih := beN_lt k l.dropLast (by rw [List.length_dropLast, h]; rfl)
    rw [← hl, beN_snoc]
    have := (l.getLast hne).toNat_lt
    rw [Nat.pow_succ]
    omega
theorem or8 (n b : Nat) (hn : n < 16777216) (hb : b < 256) : bits .or .i64 ((n : Int) * 256) (b : Int) = ((n * 256 + b : Nat) : Int) := by
  have e : (n : Int) * 256 = ((n * 256 : Nat) : Int) := by omega
  rw [e]
  show IntKind.i64.wrap ((BitVec.ofInt 64 ((n * 256 : Nat) : Int) ||| BitVec.ofInt 64 ((b : Nat) : Int)).toNat : Int) = _
  rw [BitVec.toNat_or, ofInt_u64 (n * 256) (by omega), ofInt_u64 b (by omega)]
  have h := Nat.two_pow_add_eq_or_of_lt (i := 8) (b := b) (by omega) n
  rw [show n * 256 = 2 ^ 8 * n by omega, ← h]
  exact Lib.wrap_i64_small _ (by omega)
theorem conv21 (x : ByteArray) (W : World) : ∃ W' cap, (convert 62 42 (.string x)).run Tryz.prog W = .ok (.slice (some ⟨W.heap.size, 0, none⟩) x.size cap) W' ∧ Ext [] W W' ∧ W.heap.size < W'.heap.size ∧
    ∀ j (h : j < x.data.toList.length), W'.cell? ⟨W.heap.size, j, none⟩ = some (b8 (x.data.toList[j]'h)) := by
  refine ⟨Lib.bytesWorld W 5 x, grownCap W x.size 0 5, Lib.run_convert_string_bytes W 62 42 5 x Tryz.underlying62 Tryz.underlying42 Tryz.underlying5,
    ⟨rfl, rfl, rfl, by rw [Lib.bytesWorld_size]; omega, fun k hk _ => Lib.bytesWorld_at_old W _ x k hk⟩, by rw [Lib.bytesWorld_size]; omega, fun j hj => ?_⟩
  have hj2 : j < x.size := hj
  rw [Lib.bytesWorld_cell W _ x j hj2, List.getD_eq_getElem?_getD, List.getElem?_eq_getElem hj]
  rfl
def cutB (l : List UInt8) (a k : Nat) : List UInt8 := (l.drop a).take k
theorem extract_cut (s : ByteArray) (a k : Nat) : (s.extract a (a + k)).data.toList = cutB s.data.toList a k := by
  rw [ByteArray.data_extract, Array.toList_extract, cutB, List.extract_eq_take_drop, Nat.add_sub_cancel_left]
theorem cutB_len (l : List UInt8) (a k : Nat) (h : a + k ≤ l.length) : (cutB l a k).length = k := by
  rw [cutB, List.length_take, List.length_drop]; omega
set_option maxRecDepth 100000 in
set_option maxHeartbeats 4000000 in
theorem part21_walk (s : ByteArray) (a k : Nat) (w : World) (h : a + k ≤ s.size) (hs : s.size ≤ 100000) (hk : k ≤ 4) :
    Calls Tryz.prog 27 #[.string s, .int .i64 a, .int .i64 k] w fun e w' => e = .returned (.int .i64 (beN (cutB s.data.toList a k) : Nat)) ∧ Ext [] w w' := by
  obtain ⟨W, cap, hct, hx, -, hC⟩ := conv21 (s.extract a (a + k)) w
  have hl := cutB_len s.data.toList a k h
  have hsz : (s.extract a (a + k)).size = k := by
    show (s.extract a (a + k)).data.toList.length = k
    rw [extract_cut, hl]
  rw [hsz] at hct
  obtain ⟨l, hll⟩ : ∃ l, cutB s.data.toList a k = l := ⟨_, rfl⟩
  have hC2 : ∀ j (h : j < l.length), W.cell? ⟨w.heap.size, j, none⟩ = some (b8 (l[j]'h)) := fun j hj => by
    have e : (s.extract a (a + k)).data.toList = l := (extract_cut s a k).trans hll
    have := hC j (by rw [e]; exact hj)
    simp only [e] at this
    exact this
  rw [hll] at hl ⊢
  obtain ⟨z, hz⟩ : ∃ z, s.size = z := ⟨_, rfl⟩
  have ha0 : (0 : Int) ≤ (a : Int) := by omega
  have hak : (a : Int) + (k : Int) ≤ (s.size : Int) := by omega
  have HC := Lib.hid (⟨hC2, hl, hx⟩ : _ ∧ _ ∧ _)
  obtain ⟨p, hp⟩ : ∃ p, w.heap.size = p := ⟨_, rfl⟩
  rw [hp] at hct HC
  clear hC hC2 hl hx hll hsz hp hz
  go_enter Tryz.func27, Tryz.ntmps27
  go_wp2_with fail
  clear hct
  go_loopg [7, 9, 18] k (fun g nv bv iv wr => ∃ i : Nat, g + i = k ∧ iv = .int .i64 i ∧ nv = .int .i64 (beN (l.take i) : Nat) ∧ wr = W)
  case atStart => exact ⟨0, by omega, rfl, rfl, rfl⟩
  case round =>
    obtain ⟨i, hgi, rfl, rfl, rfl⟩ := hrel
    by_cases hlt : i < k
    case neg =>
      obtain rfl : gk = 0 := by omega
      rw [List.take_of_length_le (by rw [HC.out.2.1]; omega)]
      go_wp2_with fail
      go_ret
      exact ⟨rfl, HC.out.2.2⟩
    case pos =>
    obtain ⟨g, rfl⟩ : ∃ g, gk = g + 1 := ⟨gk - 1, by omega⟩
    have hltz : (i : Int) < (k : Int) := by omega
    have hil : i < l.length := by rw [HC.out.2.1]; exact hlt
    have c1 := HC.out.1 i hil
    have htk : beN (l.take (i + 1)) = beN (l.take i) * 256 + (l[i]'hil).toNat := by rw [List.take_succ_eq_append_getElem hil, beN_snoc]
    have hb := (l[i]'hil).toNat_lt
    have hlt2 := beN_lt i (l.take i) (by rw [List.length_take]; omega)
    have hlt3 : beN (l.take i) < 16777216 := by
      have : i = 0 ∨ i = 1 ∨ i = 2 ∨ i = 3 := by omega
      rcases this with rfl | rfl | rfl | rfl <;> omega
    generalize l[i]'hil = bt at *
    obtain ⟨x, hx⟩ : ∃ x, beN (l.take i) = x := ⟨_, rfl⟩
    rw [hx] at htk hlt3 ⊢
    obtain ⟨y, hy⟩ : ∃ y, bt.toNat = y := ⟨_, rfl⟩
    unfold b8 at c1
    rw [hy] at htk hb c1
    have hor := or8 x y hlt3 (by omega)
    have HT := Lib.hid htk
    clear hlt2 hx hy htk
    go_wp2_with fail
    go_roundg g
    case measure => omega
    case rel => exact ⟨i + 1, by omega, by go_num, by rw [HT.out]; first | rfl | (congr 1; push_cast; omega), rfl⟩
/-- a row's parts by their widths -/
def cutN (l : List UInt8) : List Nat → Nat → List Int
  | [], _ => []
  | k :: r, a => ((beN (cutB l a k) : Nat) : Int) :: cutN l r (a + k)
theorem cutN_len (l : List UInt8) : ∀ (ws : List Nat) (a : Nat), (cutN l ws a).length = ws.length
  | [], _ => rfl
  | k :: r, a => by rw [cutN, List.length_cons, cutN_len l r, List.length_cons]
set_option maxRecDepth 100000 in
set_option maxHeartbeats 4000000 in
theorem cut21_walk (s : ByteArray) (wb : Option Addr) (wc : Nat) (ws : List Nat) (w : World) (hI : IntsAt w wb (ws.map fun k : Nat => (k : Int))) (hsum : ws.sum ≤ s.size) (hs : s.size ≤ 100000) (hk : ∀ k ∈ ws, k ≤ 4) (hn : ws.length ≤ 65536) :
    Calls Tryz.prog 26 #[.string s, .func (.func 27) #[] #[], .slice wb ws.length wc] w fun e w' => ∃ b c, e = .returned (.slice b ws.length c) ∧ Ext [] w w' ∧ IntsAt w' b (cutN s.data.toList ws 0) := by
  obtain ⟨i0, hif, hz0, hz1, hz2⟩ := info_parts infoInt
  obtain ⟨n, hnn⟩ : ∃ n, ws.length = n := ⟨_, rfl⟩
  obtain ⟨R, hR⟩ : ∃ R, cutN s.data.toList ws 0 = R := ⟨_, rfl⟩
  have HR := Lib.hid (⟨hI, hk, hnn, hR, hsum⟩ : _ ∧ _ ∧ _ ∧ _ ∧ _)
  rw [hR]
  rw [hnn] at hn ⊢
  clear hI hk hnn hR hsum
  go_enter Tryz.func26, Tryz.ntmps26
  go_wp2_with fail
  have S := (Sep.start w).new (Ext.refl _ _) (oSl 3 1 (.slice none 0 0) 0 []) (World.ownsRow_nil _ _ _ _) (fun q hq => by simp [oSl, Value.ownBlock] at hq)
  have HS := Lib.hid S
  clear S
  go_loopg [7, 8, 10, 13] n (fun g ov av v10 iv wr => ∃ (i a : Nat) (A : List Int), g + i = n ∧ iv = .int .i64 i ∧ av = .int .i64 a ∧ A.length = i ∧ A ++ cutN s.data.toList (ws.drop i) a = R ∧ a + (ws.drop i).sum ≤ s.size ∧ Sep w wr [oSl 3 1 ov i (A.map iz)])
  case atStart => exact ⟨0, 0, [], by omega, rfl, rfl, rfl, HR.out.2.2.2.1, by simpa using HR.out.2.2.2.2, HS.out⟩
  case round =>
    clear HS
    obtain ⟨i, a, A, hgi, rfl, rfl, hA, hcut, hsm, S⟩ := hrel
    have hr0 : wr.ownsRow 0 3 1 u7 i (A.map iz) := S.get 0 rfl
    by_cases hlt : i < n
    case neg =>
      obtain rfl : gk = 0 := by omega
      rw [List.drop_eq_nil_of_le (by rw [HR.out.2.2.1]; omega), cutN, List.append_nil] at hcut
      subst hcut
      have hr1 : wr.ownsRow 0 3 1 u7 A.length (A.map iz) := by rw [hA]; exact hr0
      obtain ⟨bb, cc, rfl, hI⟩ := ints_row hr1
      have HF := Lib.hid (⟨S.ext, hI⟩ : _ ∧ _)
      have hAn : A.length = n := by omega
      rw [hAn]
      clear S hr0 hr1 hI hA hAn
      go_wp2_with fail
      go_ret
      exact ⟨bb, cc, rfl, HF.out.1, HF.out.2⟩
    case pos =>
    obtain ⟨ao3, c3, rfl⟩ := row_slice hr0
    obtain ⟨g, rfl⟩ : ∃ g, gk = g + 1 := ⟨gk - 1, by omega⟩
    have hltz : (i : Int) < (n : Int) := by omega
    have hil : i < ws.length := by rw [HR.out.2.2.1]; exact hlt
    rw [drop_at ws i hil, cutN] at hcut
    rw [drop_at ws i hil, List.sum_cons] at hsm
    obtain ⟨b, o, rfl, c1⟩ := HR.out.1 i (by rw [List.length_map]; exact hil)
    rw [List.getElem_map] at c1
    have c1 := S.ext.cell c1
    have hk4 := HR.out.2.1 _ (List.getElem_mem hil)
    generalize ws[i]'hil = k at *
    have HP := Lib.hid (part21_walk s a k wr (by omega) hs hk4)
    obtain ⟨y, hy⟩ : ∃ y : Int, ((beN (cutB s.data.toList a k) : Nat) : Int) = y := ⟨_, rfl⟩
    rw [hy] at hcut HP
    have HX := Lib.hid (⟨S, hr0, hcut, hsm, hA⟩ : _ ∧ _ ∧ _ ∧ _ ∧ _)
    have hab : (a : Int) + (k : Int) ≤ 100000 := by omega
    have hab2 : a + k ≤ 100000 := by omega
    clear S hr0 hcut hsm hA hy
    go_wp2_with fail
    refine HP.out.mono ?_
    rintro e w5 ⟨rfl, hx5⟩
    have c1 := hx5.cell c1
    have HX5 := Lib.hid (⟨HX.out.1.quiet hx5, ownsRow_ext HX.out.2.1 hx5 (by simp)⟩ : _ ∧ _)
    clear hx5 HP
    go_wp2_with (first | (at_builtin; refine wpList_append_lies _ rfl _ _ 45 rfl 0 3 i0 _ 1 8 Tryz.underlying45 hif hz0 hz1 hz2 rfl (by decide) (.slice ao3 i c3) i _ rfl (World.ownsRow.alloc HX5.out.2 _) ⟨w5.heap.size, 0, none⟩ 1 1 [.int .i64 y] rfl rfl (cell_one_new _ _ _) (by simp [Value.oneCell']) (by decide) (by unfold maxLen; omega) (by omega) (by omega) (w5.heap.size + 1) (by simp) ?_; intro g6 cap2 w6 hown1 hgrow hat6 hlt6))
    have Pl := push_local (cap := cap2) (n := i + 1) hgrow hat6
    go_roundg g
    case measure => omega
    case rel => exact ⟨i + 1, a + k, A ++ [y], by omega, by go_num, by go_num, by rw [List.length_append, HX.out.2.2.2.2]; rfl, by rw [List.append_assoc]; exact HX.out.2.2.1, by have := HX.out.2.2.2.1; omega, HX5.out.1.upd 0 (oSl 3 1 (.slice (some ⟨g6, 0, none⟩) (i + 1) cap2) (i + 1) ((A ++ [y]).map iz)) rfl Pl.1 Pl.2 (by rw [List.map_append]; exact hown1)⟩
end Go.Proofs.YtkaimeogebgofaaGreatDoor.Xs
