/-
  The document's answer for layer 14: width, find; a table's strings are apart.
-/
import Derived.Test.YtcbllkopolbhaaaLzBackP
import Derived.Test.YtcbllkopolbhaaaLzS
namespace Go.Proofs.Ytcbllkopolbhaaa.Lz
open Go.RowKit Go.Maps

/-! ### plain: strings of a table's rows -/
theorem strOf_two (tb : List (Nat × Nat)) (hw : WF tb) (i : Nat) (h : i < tb.length) : 2 ≤ (strOf (strs tb) (i + 258)).length := by
  rw [strs_at tb hw i h, List.length_append]
  have := (strOf_bound tb hw tb[i].1 ((hw i h).1.mono (by omega))).1
  simp; omega
theorem strOf_inj (tb : List (Nat × Nat)) : WF tb → tb.Nodup → ∀ a b, okCode tb.length a → okCode tb.length b → strOf (strs tb) a = strOf (strs tb) b → a = b := by
  induction tb using snocInd with
  | h0 =>
    intro _ _ a b ha hb h
    have ha : a < 256 := by rcases ha with h | h; exact h; simp at h; omega
    have hb : b < 256 := by rcases hb with h | h; exact h; simp at h; omega
    simpa [strOf, ha, hb] using h
  | hs l e ih =>
    intro hw hnd a b ha hb h
    obtain ⟨hl, he, hc⟩ := hw.init
    have hndl : l.Nodup := (List.nodup_append.1 hnd).1
    have hne : e ∉ l := fun hm => (List.nodup_append.1 hnd).2.2 e hm e (by simp) rfl
    have e0 : (l ++ [e])[l.length]'(by simp) = e := by simp
    have hN : strOf (strs (l ++ [e])) (l.length + 258) = strOf (strs l) e.1 ++ [e.2] := by
      rw [strs_at _ hw l.length (by simp), e0, strs_snoc, strOf_snoc _ _ _ (by rw [strs_len]; exact he)]
    have hO : ∀ c, okCode l.length c → strOf (strs (l ++ [e])) c = strOf (strs l) c := fun c hc => by rw [strs_snoc, strOf_snoc _ _ _ (by rw [strs_len]; exact hc)]
    have hsplit : ∀ c, okCode (l ++ [e]).length c → okCode l.length c ∨ c = l.length + 258 := fun c hc => by
      unfold okCode at hc ⊢
      simp at hc
      omega
    have key : ∀ c, okCode l.length c → strOf (strs l) c ≠ strOf (strs l) e.1 ++ [e.2] := fun c hc hh => by
      by_cases h256 : c < 256
      · have h1 : (strOf (strs l) c).length = 1 := by simp [strOf, h256]
        have h2 := (strOf_bound l hl e.1 he).1
        rw [hh, List.length_append] at h1
        simp only [List.length_singleton] at h1
        omega
      · obtain ⟨i, rfl, hi⟩ : ∃ i, c = i + 258 ∧ i < l.length := by
          rcases hc with h | h
          · exact absurd h h256
          · exact ⟨c - 258, by omega, by omega⟩
        rw [strs_at l hl i hi] at hh
        obtain ⟨h1, h2⟩ := List.append_inj' hh rfl
        have := ih hl hndl _ _ ((hl i hi).1.mono (by omega)) he h1
        exact hne (by rw [show e = l[i] from Prod.ext this.symm (by simpa using h2.symm)]; exact List.getElem_mem hi)
    rcases hsplit a ha with ha | rfl <;> rcases hsplit b hb with hb | rfl
    · rw [hO a ha, hO b hb] at h
      exact ih hl hndl a b ha hb h
    · rw [hO a ha, hN] at h
      exact absurd h (key a ha)
    · rw [hO b hb, hN] at h
      exact absurd h.symm (key b hb)
    · rfl
theorem strs_get (tb : List (Nat × Nat)) (i : Nat) (h : i < tb.length) : (strs tb)[i]'(by rw [strs_len]; exact h) = strOf (strs tb) (i + 258) := by
  unfold strOf
  rw [if_neg (by omega), Nat.add_sub_cancel, List.getD_eq_getElem?_getD, List.getElem?_eq_getElem (by rw [strs_len]; exact h)]
  rfl
/-- the number that 'find' tells of a string -/
def fnd (S : List (List Nat)) (x : List Nat) : Int := if x.length = 1 then ((x.headD 0 : Nat) : Int) else match S.findIdx? (· == x) with | some i => 258 + (i : Int) | none => -1
theorem fnd_code (tb : List (Nat × Nat)) (hw : WF tb) (hn : tb.Nodup) (code : Nat) (hc : okCode tb.length code) : fnd (strs tb) (strOf (strs tb) code) = code := by
  unfold fnd
  by_cases h : code < 256
  · simp [strOf, h]
  · obtain ⟨i, rfl, hi⟩ : ∃ i, code = i + 258 ∧ i < tb.length := by
      rcases hc with h' | h'
      · exact absurd h' h
      · exact ⟨code - 258, by omega, by omega⟩
    have h2 := strOf_two tb hw i hi
    rw [if_neg (by omega)]
    have hf : (strs tb).findIdx? (· == strOf (strs tb) (i + 258)) = some i := by
      rw [List.findIdx?_eq_some_iff_getElem]
      refine ⟨by rw [strs_len]; exact hi, by rw [strs_get tb i hi]; simp, fun j hj => ?_⟩
      rw [strs_get tb j (by omega)]
      simp only [beq_iff_eq]
      intro hh
      have := strOf_inj tb hw hn _ _ (.inr (by omega)) (.inr (by omega)) hh
      omega
    rw [hf]
    simp; omega
theorem fnd_look (tb : List (Nat × Nat)) (hw : WF tb) (hn : tb.Nodup) (row c : Nat) (hr : okCode tb.length row) : fnd (strs tb) (strOf (strs tb) row ++ [c]) = match look tb (row, c) with | some m => (m : Int) | none => -1 := by
  have hb := (strOf_bound tb hw row hr).1
  cases hl : look tb (row, c) with
  | some m =>
    obtain ⟨h1, h2⟩ := look_str hw hl
    rw [← h2]
    exact fnd_code tb hw hn m h1
  | none =>
    unfold fnd
    rw [if_neg (by rw [List.length_append]; simp only [List.length_singleton]; omega)]
    have hf : (strs tb).findIdx? (· == strOf (strs tb) row ++ [c]) = none := by
      rw [List.findIdx?_eq_none_iff]
      intro x hx
      obtain ⟨i, hi, rfl⟩ := List.getElem_of_mem hx
      have hi' : i < tb.length := by rw [strs_len] at hi; exact hi
      rw [strs_get tb i hi']
      simp only [beq_eq_false_iff_ne, ne_eq]
      rw [strs_at tb hw i hi']
      intro hh
      obtain ⟨h1, h2⟩ := List.append_inj' hh rfl
      have := strOf_inj tb hw hn _ _ ((hw i hi').1.mono (by omega)) hr h1
      exact look_none.1 hl (by rw [show (row, c) = tb[i] from Prod.ext this.symm (by simpa using h2.symm)]; exact List.getElem_mem hi')
    rw [hf]

/-! ### width, find -/
set_option maxRecDepth 100000 in
set_option maxHeartbeats 8000000 in
theorem rwidth_any (n : Nat) (early : Bool) (w : World) (hn : n < 2 ^ 40) :
    Calls Try.prog 30 #[.int .i64 n, .bool early] w fun e w' => e = .returned (.int .i64 (wid n early)) ∧ w = w' := by
  cases early
  · have hw : wid n false = if n < 512 then 9 else if n < 1024 then 10 else if n < 2048 then 11 else 12 := rfl
    rw [hw]
    clear hw
    by_cases h0 : n < 512
    · rw [if_pos h0]; go_enter Try.func30, Try.ntmps30; go_wp2_with fail; go_ret; exact ⟨rfl, rfl⟩
    · rw [if_neg h0]
      by_cases h1 : n < 1024
      · rw [if_pos h1]; go_enter Try.func30, Try.ntmps30; go_wp2_with fail; go_ret; exact ⟨rfl, rfl⟩
      · rw [if_neg h1]
        by_cases h2 : n < 2048
        · rw [if_pos h2]; go_enter Try.func30, Try.ntmps30; go_wp2_with fail; go_ret; exact ⟨rfl, rfl⟩
        · rw [if_neg h2]; go_enter Try.func30, Try.ntmps30; go_wp2_with fail; go_ret; exact ⟨rfl, rfl⟩
  · have hw : wid n true = if n + 1 < 512 then 9 else if n + 1 < 1024 then 10 else if n + 1 < 2048 then 11 else 12 := rfl
    rw [hw]
    clear hw
    by_cases h0 : n + 1 < 512
    · rw [if_pos h0]; go_enter Try.func30, Try.ntmps30; go_wp2_with fail; go_ret; exact ⟨rfl, rfl⟩
    · rw [if_neg h0]
      by_cases h1 : n + 1 < 1024
      · rw [if_pos h1]; go_enter Try.func30, Try.ntmps30; go_wp2_with fail; go_ret; exact ⟨rfl, rfl⟩
      · rw [if_neg h1]
        by_cases h2 : n + 1 < 2048
        · rw [if_pos h2]; go_enter Try.func30, Try.ntmps30; go_wp2_with fail; go_ret; exact ⟨rfl, rfl⟩
        · rw [if_neg h2]; go_enter Try.func30, Try.ntmps30; go_wp2_with fail; go_ret; exact ⟨rfl, rfl⟩
theorem ba_inj {a b : ByteArray} (h : a.data.toList = b.data.toList) : a = b := by
  cases a; cases b
  simp only [ByteArray.mk.injEq]
  exact Array.toList_inj.1 h
/-- a row of strings -/
def sv (l : List Nat) : Value := .string (Bt.txt l)
def oSs (v : Value) (S : List (List Nat)) : Ob := oSl 9 1 v S.length (S.map sv)
theorem txt_inj {a b : List Nat} (ha : ∀ x ∈ a, x < 256) (hb : ∀ x ∈ b, x < 256) (h : Bt.txt a = Bt.txt b) : a = b := by
  have h1 : a.map UInt8.ofNat = b.map UInt8.ofNat := by
    have := congrArg (fun s : ByteArray => s.data.toList) h
    simpa [Bt.txt] using this
  have h2 : ∀ l : List Nat, (∀ x ∈ l, x < 256) → (l.map UInt8.ofNat).map (·.toNat) = l := fun l hl => by
    rw [List.map_map]
    conv => rhs; rw [← List.map_id l]
    refine List.map_congr_left fun x hx => ?_
    have := hl x hx
    simp [UInt8.toNat_ofNat']
    omega
  rw [← h2 a ha, ← h2 b hb, h1]
set_option maxRecDepth 100000 in
set_option maxHeartbeats 8000000 in
theorem find_walk (v : Value) (S : List (List Nat)) (x : List Nat) (w : World) (hS : ∀ y ∈ S, ∀ c ∈ y, c < 256) (hx : ∀ c ∈ x, c < 256) (hn : S.length ≤ 4096) (hr : w.ownsRow 0 9 1 v S.length (S.map sv)) :
    Calls Try.prog 31 #[v, .string (Bt.txt x)] w fun e w' => e = .returned (.int .i64 (fnd S x)) ∧ w = w' := by
  have hsz := Bt.txt_size x
  by_cases h1 : x.length = 1
  · obtain ⟨c, rfl⟩ : ∃ c, x = [c] := by cases x with | nil => simp at h1 | cons a r => cases r with | nil => exact ⟨a, rfl⟩ | cons b t => simp at h1
    have hf : fnd S [c] = c := by simp [fnd]
    have hc := hx c (by simp)
    have h0 : (0 : Nat) < (Bt.txt [c]).size := by rw [hsz]; simp
    have hb : (((Bt.txt [c])[0]'h0).toNat : Int) = (c : Int) := by rw [Bt.byteAt_eq]; rw [Bt.byteAt_txt [c] 0 c rfl hc]
    have hl : (((Bt.txt [c]).size : Int) == 1) = true := by rw [hsz]; rfl
    have HF := Lib.hid hf
    clear hf hsz h1
    generalize Bt.txt [c] = s at *
    go_enter Try.func31, Try.ntmps31
    go_wp2_with fail
    go_ret
    rw [HF.out]
    exact ⟨rfl, rfl⟩
  · have hl : (((Bt.txt x).size : Int) == 1) = false := by rw [hsz]; simp; omega
    have hfd : ∀ k, k ≤ S.length → (∀ j (h : j < S.length), j < k → S[j] ≠ x) → fnd S x = if h : k < S.length then (if S[k] = x then 258 + (k : Int) else fnd S x) else -1 := fun k hk hj => by
      split
      · rename_i hlt
        split
        · rename_i he
          have hf : S.findIdx? (· == x) = some k := by
            rw [List.findIdx?_eq_some_iff_getElem]
            exact ⟨hlt, by simp [he], fun j hjk => by simpa using hj j (by omega) hjk⟩
          rw [fnd, if_neg h1, hf]
        · rfl
      · have hf : S.findIdx? (· == x) = none := by
          rw [List.findIdx?_eq_none_iff]
          intro y hy
          obtain ⟨j, hlt, rfl⟩ := List.getElem_of_mem hy
          simpa using hj j hlt (by omega)
        rw [fnd, if_neg h1, hf]
    have HF := Lib.hid hfd
    clear hfd hsz h1
    obtain ⟨s, hs⟩ : ∃ s, Bt.txt x = s := ⟨_, rfl⟩
    rw [hs] at hl ⊢
    have HS := Lib.hid hs
    clear hs
    obtain ⟨ao, cap, rfl⟩ := row_shape hr
    go_enter Try.func31, Try.ntmps31
    go_wp2_with fail
    go_loopg [5] S.length (fun gg i wr => ∃ k : Nat, gg + k = S.length ∧ i = .int .i64 k ∧ (∀ j (h : j < S.length), j < k → S[j] ≠ x) ∧ wr = w)
    case atStart => exact ⟨0, by omega, rfl, fun j _ h => by omega, rfl⟩
    case round =>
      obtain ⟨k, hk, rfl, hj, rfl⟩ := hrel
      have hfk := HF.out k (by omega) hj
      have HJ := Lib.hid hj
      clear hj
      by_cases hlt : k < S.length
      · rw [dif_pos hlt] at hfk
        obtain ⟨ga, ca', hv⟩ := row_form hr (by omega)
        obtain ⟨rfl, rfl⟩ : ao = some ⟨ga, 0, none⟩ ∧ cap = ca' := by simpa using hv
        clear hv
        have q1 : wr.cell? ⟨ga, k, none⟩ = some (.string (Bt.txt S[k])) := ownsRow_at hr (by simp [hlt, sv])
        have hmem := List.getElem_mem hlt
        by_cases he : S[k] = x
        · rw [if_pos he] at hfk
          rw [he, HS.out] at q1
          have HK := Lib.hid hfk
          clear hfk he hmem hr
          go_wp2_with fail
          go_ret
          rw [HK.out]
          exact ⟨rfl, rfl⟩
        · have hne : Bt.txt S[k] ≠ s := fun h => he (txt_inj (hS _ hmem) hx (h.trans HS.out.symm))
          generalize Bt.txt S[k] = t at q1 hne
          have hne2 : (t.toList == s.toList) = false := by
            rw [beq_eq_false_iff_ne]
            intro h
            rw [ByteArray.toList_eq, ByteArray.toList_eq] at h
            exact hne (ba_inj h)
          have HN := Lib.hid he
          clear he hfk hmem hr
          go_wp2_with fail
          go_roundg (S.length - (k + 1))
          case measure => omega
          case rel => exact ⟨k + 1, by omega, by go_num, fun j h hj => by
            rcases Nat.lt_succ_iff_lt_or_eq.1 hj with h' | rfl
            · exact HJ.out j h h'
            · exact HN.out, rfl⟩
      · rw [dif_neg hlt] at hfk
        have HK := Lib.hid hfk
        clear hfk hr
        go_wp2_with fail
        go_ret
        rw [HK.out]
        exact ⟨rfl, rfl⟩
theorem find_at (v : Value) (S : List (List Nat)) (s : ByteArray) (x : List Nat) (w : World) (hs : s = Bt.txt x) (hS : ∀ y ∈ S, ∀ c ∈ y, c < 256) (hx : ∀ c ∈ x, c < 256) (hn : S.length ≤ 4096) (hr : w.ownsRow 0 9 1 v S.length (S.map sv)) :
    Calls Try.prog 31 #[v, .string s] w fun e w' => e = .returned (.int .i64 (fnd S x)) ∧ w = w' := by
  subst hs
  exact find_walk v S x w hS hx hn hr
theorem strs_mem (tb : List (Nat × Nat)) (hw : WF tb) : ∀ y ∈ strs tb, ∀ c ∈ y, c < 256 := fun y hy => by
  obtain ⟨i, hi, rfl⟩ := List.getElem_of_mem hy
  have hi' : i < tb.length := by rw [strs_len] at hi; exact hi
  rw [strs_get tb i hi']
  exact (strOf_bound tb hw (i + 258) (.inr (by omega))).2.2
theorem extract_txt (s : ByteArray) (k m : Nat) (h : k + m ≤ s.size) : s.extract k (k + m) = Bt.txt ((tailB s k).take m) := by
  apply ba_inj
  apply List.ext_getElem
  · simp [Bt.txt, tailB_len]
  · intro i h1 h2
    have hm : i < m := by simp [Bt.txt] at h2; omega
    simp only [Bt.txt, List.toList_toArray, List.getElem_map, List.getElem_take, tailB, List.getElem_range]
    rw [← Bt.byteAt_eq s (k + i) (by omega), UInt8.ofNat_toNat]
    simp
    rfl
end Go.Proofs.Ytcbllkopolbhaaa.Lz
