/-
  What the bit writer's functions do, function by function: Put, Align, Len, Text, NewWriter.
-/
import Derived.Test.YtchhgbhbldfofaaBitsW
namespace Go.Proofs.Ytchhgbhbldfofaa.Bt
open Go.RowKit

@[go_sem] theorem meth_split_hi (F : Nat) (w : World) : (method (F + 1) 106 (.agg #[]) "pagemender/bits.split").run Try.prog w = .ok (91, .agg #[]) w := by kernel_rfl
@[go_sem] theorem meth_split_lo (F : Nat) (w : World) : (method (F + 1) 107 (.agg #[]) "pagemender/bits.split").run Try.prog w = .ok (94, .agg #[]) w := by kernel_rfl
theorem u32_and_one (x : Nat) (h : x < 2 ^ 32) : bits BinOp.and IntKind.u32 (x : Int) 1 = ((x % 2 : Nat) : Int) := by
  have h1 := u32_and_nat x 1 (by omega) (by omega)
  rw [Nat.and_one_is_mod] at h1
  exact h1
theorem split_hi (v n i : Nat) (w : World) (hv : v < 2 ^ 32) (hi : i < n) (hn : n ≤ 32) :
    Calls Try.prog 91 #[.agg #[], .int .u32 v, .int .i64 n, .int .i64 i] w fun e w' => e = .returned (.int .u64 ((v / 2 ^ (n - 1 - i) % 2 : Nat) : Int)) ∧ Ext [] w w' := by
  have h1 := u32_and_one (v / 2 ^ (n - 1 - i)) (Nat.lt_of_le_of_lt (Nat.div_le_self _ _) hv)
  have h2 : (((v / 2 ^ (n - 1 - i) : Nat)) : Int) = (v : Int) / 2 ^ (n - 1 - i) := by push_cast; rfl
  rw [h2] at h1
  have h3 : v / 2 ^ (n - 1 - i) % 2 < 2 := by omega
  clear h2
  go_enter Try.func91, Try.ntmps91
  go_wp2
  go_ret
  exact ⟨rfl, by repeat (first | exact Ext.refl _ _ | apply Ext.alloc)⟩
theorem split_lo (v n i : Nat) (w : World) (hv : v < 2 ^ 32) (hi : i < n) (hn : n ≤ 32) :
    Calls Try.prog 94 #[.agg #[], .int .u32 v, .int .i64 n, .int .i64 i] w fun e w' => e = .returned (.int .u64 ((v / 2 ^ i % 2 : Nat) : Int)) ∧ Ext [] w w' := by
  have h1 := u32_and_one (v / 2 ^ i) (Nat.lt_of_le_of_lt (Nat.div_le_self _ _) hv)
  have h2 : (((v / 2 ^ i : Nat)) : Int) = (v : Int) / 2 ^ i := by push_cast; rfl
  rw [h2] at h1
  have h3 : v / 2 ^ i % 2 < 2 := by omega
  clear h2
  go_enter Try.func94, Try.ntmps94
  go_wp2
  go_ret
  exact ⟨rfl, by repeat (first | exact Ext.refl _ _ | apply Ext.alloc)⟩

theorem wput_nil (v n : Int) (w : World) : Calls Try.prog 44 #[.pointer none, .int .u32 v, .int .i64 n] w fun e w' => e = .returned (.int .i64 1) ∧ w = w' := by
  go_enter Try.func44, Try.ntmps44
  go_wp2
  go_ret
  exact ⟨rfl, rfl⟩
theorem wlen_nil (w : World) : Calls Try.prog 35 #[.pointer none] w fun e w' => e = .returned (.int .i64 0) ∧ w = w' := by
  go_enter Try.func35, Try.ntmps35
  go_wp2
  go_ret
  exact ⟨rfl, rfl⟩
theorem wtext_nil (w : World) : Calls Try.prog 23 #[.pointer none] w fun e w' => e = .returned (.string ⟨#[]⟩) ∧ w = w' := by
  go_enter Try.func23, Try.ntmps23
  go_wp2
  go_ret
  exact ⟨rfl, rfl⟩

theorem Wtr.ext {S : List Nat} {w w' : World} {b : Nat} {F : List Nat} {hi : Bool} {l : List Nat} (h : Wtr w b F hi l) (hx : Ext S w w') (hS : ∀ k ∈ F, k ∉ S) : Wtr w' b F hi l := by
  obtain ⟨v, hb, hown, rfl, hne, hbin⟩ := h
  exact ⟨v, hx.keep hb (hS b (by simp)), ownsRow_ext hown hx (fun g hg => hS g (by simp [hg])), rfl, hne, hbin⟩
theorem wlen_any (b : Nat) (F : List Nat) (hi : Bool) (l : List Nat) (w : World) (hW : Wtr w b F hi l) :
    Calls Try.prog 35 #[.pointer (some ⟨b, 0, none⟩)] w fun e w' => e = .returned (.int .i64 l.length) ∧ w = w' := by
  obtain ⟨v, hb, _⟩ := hW
  have c1 := cellOf hb 1
  clear hb
  go_enter Try.func35, Try.ntmps35
  go_wp2
  go_ret
  exact ⟨rfl, rfl⟩
theorem nums_text (bs : List Nat) : strOfNums (bs.map Int.ofNat) = txt bs := by
  simp [strOfNums, txt]
theorem run_row_text {w : World} {v : Value} {n : Nat} {bs : List Nat} (h : w.ownsRow 0 5 1 v n (bs.map b8)) : (convert 54 9 v).run Try.prog w = .ok (.string (txt bs)) w := by
  rcases h.2 with ⟨rfl, h0⟩ | ⟨g, cap, cur, rfl, _, hg, hnc, _, hcs, htake⟩
  · have hx : bs = [] := by have := h.1; simp [h0] at this; exact this
    subst hx
    exact run_convert_bytes_nil w 54 5 Try.underlying54 Try.underlying5 0 0 9 Try.underlying9
  · have hl : bs.length = n := by have := h.1; simpa using this
    have := run_convert_bytes_arg w 54 5 Try.underlying54 Try.underlying5 g 0 n cap (bs.map Int.ofNat) (by simpa using hl) (fun i hi => by
      have := ownsRow_at (i := i) (u := b8 (bs.getD i 0)) h (by rw [List.getElem?_map, List.getElem?_eq_getElem (by omega), List.getD_eq_getElem?_getD, List.getElem?_eq_getElem (by omega)]; rfl)
      rw [Nat.zero_add, this]
      simp [b8, List.getD_eq_getElem?_getD]
      cases bs[i]? <;> rfl) 9 Try.underlying9
    rw [nums_text] at this
    exact this
theorem wtext_any (b : Nat) (F : List Nat) (hi : Bool) (l : List Nat) (w : World) (hW : Wtr w b F hi l) :
    Calls Try.prog 23 #[.pointer (some ⟨b, 0, none⟩)] w fun e w' => e = .returned (.string (txt (packB hi l))) ∧ w = w' := by
  obtain ⟨v, hb, hown, _⟩ := hW
  have c0 : w.cell? ⟨b, 0, none⟩ = some v := cellOf hb 0
  have hc := run_row_text hown
  clear hb
  go_enter Try.func23, Try.ntmps23
  go_wp2
  go_ret
  exact ⟨rfl, rfl⟩
theorem wnew_any (hi : Bool) (w : World) : Calls Try.prog 21 #[.bool hi] w fun e w' =>
    e = .returned (.pointer (some ⟨w.heap.size, 0, none⟩)) ∧ w' = w.alloc (wtr (.slice none 0 0) 0 hi) := by
  go_enter Try.func21, Try.ntmps21
  go_wp2_with (first | (go_at_call 43; refine (from_any _ _).mono ?_; rintro e w1 ⟨rfl, rfl⟩; simp only [endv]))
  all_goals
    go_ret
    exact ⟨rfl, rfl⟩
theorem Wtr.new (w : World) (hi : Bool) : Wtr (w.alloc (wtr (.slice none 0 0) 0 hi)) w.heap.size [w.heap.size] hi [] :=
  ⟨.slice none 0 0, heap_alloc_at _, World.ownsRow_nil _ _ _ _, rfl, by simp [Value.ownBlock], fun x h => by cases h⟩

set_option maxHeartbeats 4000000 in
theorem wput_ok_hi (b : Nat) (F : List Nat) (l : List Nat) (v n : Nat) (w : World) (hl : l.length < 2 ^ 39) (hv : v < 2 ^ 32) (hn : n ≤ 32) (hvn : v < 2 ^ n) (hW : Wtr w b F true l) :
    Calls Try.prog 44 #[.pointer (some ⟨b, 0, none⟩), .int .u32 v, .int .i64 n] w fun e w' => e = .returned (.int .i64 0) ∧ ∃ F', Wtr w' b F' true (l ++ bitsOf true v n) ∧ Ext F w w' ∧ Fr w F F' := by
  have hz : (v : Int) / 2 ^ n = 0 := by
    have h1 : v / 2 ^ n = 0 := Nat.div_eq_of_lt hvn
    have h2 : ((v / 2 ^ n : Nat) : Int) = (v : Int) / 2 ^ n := by push_cast; rfl
    rw [← h2, h1]; rfl
  have hz2 : ((v : Int) / 2 ^ n != 0) = false := by rw [hz]; rfl
  clear hz
  have HW := Lib.hid hW
  clear hW
  go_enter Try.func44, Try.ntmps44
  go_wp2_with fail
  go_loopg [26] n (fun g i wr => ∃ k : Nat, g + k = n ∧ i = .int .i64 k ∧ ∃ F', Wtr wr b F' true (l ++ (bitsOf true v n).take k) ∧ Ext F w wr ∧ Fr w F F')
  case atStart => exact ⟨0, by omega, rfl, F, by simpa using HW.out, Ext.refl _ _, Fr.refl _ _⟩
  case round =>
    obtain ⟨k, hk, rfl, F', hWr, hx, hf⟩ := hrel
    by_cases hkn : k < n
    · have hb : ∃ vv, wr.heap[b]? = some (wtr vv (l ++ (bitsOf true v n).take k).length true) := by obtain ⟨vv, h, _⟩ := hWr; exact ⟨vv, h⟩
      obtain ⟨vv, hb⟩ := hb
      have c2 : wr.cell? ⟨b, 2, none⟩ = some (.iface 106 (.agg #[])) := cellOf hb 2
      have hbit : (v / 2 ^ (n - 1 - k) % 2) < 2 := by omega
      have hlen : (l ++ (bitsOf true v n).take k).length < 2 ^ 40 := by simp [bitsOf_length]; omega
      have H := Lib.hid (And.intro hWr (And.intro hx hf))
      clear hWr hx hf hb
      go_wp2_with (first
        | (go_at_call 91; refine (split_hi v n k _ hv hkn hn).mono ?_; rintro e w1 ⟨rfl, hx1⟩)
        | (go_at_call 54; refine (one_hi b F' (l ++ (bitsOf true v n).take k) (v / 2 ^ (n - 1 - k) % 2) w1 hlen (by omega) (H.out.1.ext hx1 (by simp))).mono ?_; rintro e w2 ⟨rfl, F2, hW2, hx2, hf2⟩))
      go_roundg (n - (k + 1))
      case measure => omega
      case rel =>
        obtain ⟨hWr, hx, hf⟩ := H.out
        refine ⟨k + 1, by omega, by go_num, F2, ?_, ext_fr (hx.trans hx1.weak) hx2 hf, hf.trans hf2 (Nat.le_trans hx.size hx1.size)⟩
        have e : (bitsOf true v n).take (k + 1) = (bitsOf true v n).take k ++ [v / 2 ^ (n - 1 - k) % 2] := by
          rw [List.take_succ_eq_append_getElem (by rw [bitsOf_length]; exact hkn)]
          simp [bitsOf]
        rw [e, ← List.append_assoc]
        exact hW2
    · have e : k = n := by omega
      have e2 : (bitsOf true v n).take k = bitsOf true v n := List.take_of_length_le (by rw [bitsOf_length]; omega)
      have H := Lib.hid (And.intro hWr (And.intro hx (And.intro hf e2)))
      have hkn' : n ≤ k := by omega
      clear hWr hx hf e e2 hkn
      go_wp2_with fail
      go_ret
      obtain ⟨hWr, hx, hf, e2⟩ := H.out
      rw [e2] at hWr
      exact ⟨rfl, F', hWr, hx, hf⟩

set_option maxHeartbeats 4000000 in
theorem wput_ok_lo (b : Nat) (F : List Nat) (l : List Nat) (v n : Nat) (w : World) (hl : l.length < 2 ^ 39) (hv : v < 2 ^ 32) (hn : n ≤ 32) (hvn : v < 2 ^ n) (hW : Wtr w b F false l) :
    Calls Try.prog 44 #[.pointer (some ⟨b, 0, none⟩), .int .u32 v, .int .i64 n] w fun e w' => e = .returned (.int .i64 0) ∧ ∃ F', Wtr w' b F' false (l ++ bitsOf false v n) ∧ Ext F w w' ∧ Fr w F F' := by
  have hz : (v : Int) / 2 ^ n = 0 := by
    have h1 : v / 2 ^ n = 0 := Nat.div_eq_of_lt hvn
    have h2 : ((v / 2 ^ n : Nat) : Int) = (v : Int) / 2 ^ n := by push_cast; rfl
    rw [← h2, h1]; rfl
  have hz2 : ((v : Int) / 2 ^ n != 0) = false := by rw [hz]; rfl
  clear hz
  have HW := Lib.hid hW
  clear hW
  go_enter Try.func44, Try.ntmps44
  go_wp2_with fail
  go_loopg [26] n (fun g i wr => ∃ k : Nat, g + k = n ∧ i = .int .i64 k ∧ ∃ F', Wtr wr b F' false (l ++ (bitsOf false v n).take k) ∧ Ext F w wr ∧ Fr w F F')
  case atStart => exact ⟨0, by omega, rfl, F, by simpa using HW.out, Ext.refl _ _, Fr.refl _ _⟩
  case round =>
    obtain ⟨k, hk, rfl, F', hWr, hx, hf⟩ := hrel
    by_cases hkn : k < n
    · have hb : ∃ vv, wr.heap[b]? = some (wtr vv (l ++ (bitsOf false v n).take k).length false) := by obtain ⟨vv, h, _⟩ := hWr; exact ⟨vv, h⟩
      obtain ⟨vv, hb⟩ := hb
      have c2 : wr.cell? ⟨b, 2, none⟩ = some (.iface 107 (.agg #[])) := cellOf hb 2
      have hbit : (v / 2 ^ k % 2) < 2 := by omega
      have hlen : (l ++ (bitsOf false v n).take k).length < 2 ^ 40 := by simp [bitsOf_length]; omega
      have H := Lib.hid (And.intro hWr (And.intro hx hf))
      clear hWr hx hf hb
      go_wp2_with (first
        | (go_at_call 94; refine (split_lo v n k _ hv hkn hn).mono ?_; rintro e w1 ⟨rfl, hx1⟩)
        | (go_at_call 54; refine (one_lo b F' (l ++ (bitsOf false v n).take k) (v / 2 ^ k % 2) w1 hlen (by omega) (H.out.1.ext hx1 (by simp))).mono ?_; rintro e w2 ⟨rfl, F2, hW2, hx2, hf2⟩))
      go_roundg (n - (k + 1))
      case measure => omega
      case rel =>
        obtain ⟨hWr, hx, hf⟩ := H.out
        refine ⟨k + 1, by omega, by go_num, F2, ?_, ext_fr (hx.trans hx1.weak) hx2 hf, hf.trans hf2 (Nat.le_trans hx.size hx1.size)⟩
        have e : (bitsOf false v n).take (k + 1) = (bitsOf false v n).take k ++ [v / 2 ^ k % 2] := by
          rw [List.take_succ_eq_append_getElem (by rw [bitsOf_length]; exact hkn)]
          simp [bitsOf]
        rw [e, ← List.append_assoc]
        exact hW2
    · have e : k = n := by omega
      have e2 : (bitsOf false v n).take k = bitsOf false v n := List.take_of_length_le (by rw [bitsOf_length]; omega)
      have H := Lib.hid (And.intro hWr (And.intro hx (And.intro hf e2)))
      have hkn' : n ≤ k := by omega
      clear hWr hx hf e e2 hkn
      go_wp2_with fail
      go_ret
      obtain ⟨hWr, hx, hf, e2⟩ := H.out
      rw [e2] at hWr
      exact ⟨rfl, F', hWr, hx, hf⟩

theorem wput_arg (b : Nat) (v n : Int) (w : World) (h0 : 0 ≤ v) (hv : v < 4294967296) (hn : n < 0 ∨ 32 < n ∨ (0 ≤ n ∧ n ≤ 32 ∧ (2 : Int) ^ n.toNat ≤ v)) :
    Calls Try.prog 44 #[.pointer (some ⟨b, 0, none⟩), .int .u32 v, .int .i64 n] w fun e w' => e = .returned (.int .i64 2) ∧ w = w' := by
  rcases hn with hn | hn | ⟨hn0, hn1, hn⟩
  · go_enter Try.func44, Try.ntmps44
    go_wp2_with fail
    go_ret
    exact ⟨rfl, rfl⟩
  · have hn' : ¬ n < 0 := by omega
    go_enter Try.func44, Try.ntmps44
    go_wp2_with fail
    go_ret
    exact ⟨rfl, rfl⟩
  · have hz : 1 ≤ v / 2 ^ n.toNat := by
      have hp : (0 : Int) < 2 ^ n.toNat := Int.pow_pos (by decide)
      exact (Int.le_ediv_iff_mul_le hp).2 (by omega)
    have hz2 : (v / 2 ^ n.toNat != 0) = true := by rw [bne_iff_ne]; omega
    have hn' : ¬ n < 0 := by omega
    have hn2 : ¬ 32 < n := by omega
    clear hz hn
    go_enter Try.func44, Try.ntmps44
    go_wp2_with fail
    go_ret
    exact ⟨rfl, rfl⟩

end Go.Proofs.Ytchhgbhbldfofaa.Bt
