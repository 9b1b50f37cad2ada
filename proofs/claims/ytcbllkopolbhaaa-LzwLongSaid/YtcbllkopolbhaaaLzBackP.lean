/-
  lzw, the plain law: what Get tells of the bits that Put writes (whole, cut, or with bytes behind). No program is in sight here.
-/
import Derived.Test.YtcbllkopolbhaaaLzI
import Derived.Test.YtcbllkopolbhaaaBitsVal
namespace Go.Proofs.Ytcbllkopolbhaaa.Lz
open Go.RowKit Go.Maps

/-! ### one round of Get -/
section
variable {s : ByteArray} {early : Bool} {budget : Int} {g pos code : Nat} {tb : List (Nat × Nat)} {ah : Int} {last out : List Nat}
theorem getF_more (h : 8 * s.size < pos + wid (258 + tb.length) early) : getF s early budget (g + 1) pos tb ah last out = ([], 8) := by rw [getF, if_pos h]
theorem getF_end (h : ¬ 8 * s.size < pos + wid (258 + tb.length) early) (hc : Bt.getv s true pos (wid (258 + tb.length) early) = 257) : getF s early budget (g + 1) pos tb ah last out = (out, 0) := by
  rw [getF, if_neg h, if_pos hc]
theorem getF_clear (h : ¬ 8 * s.size < pos + wid (258 + tb.length) early) (hc : Bt.getv s true pos (wid (258 + tb.length) early) = 256) :
    getF s early budget (g + 1) pos tb ah last out = getF s early budget g (pos + wid (258 + tb.length) early) [] (-1) last out := by
  rw [getF, if_neg h, hc, if_neg (by omega), if_pos rfl]
theorem getF_code (h : ¬ 8 * s.size < pos + wid (258 + tb.length) early) (hc : Bt.getv s true pos (wid (258 + tb.length) early) = code) (h7 : code ≠ 257) (h6 : code ≠ 256)
    (hbad : ¬ (258 + tb.length < code ∨ code = 258 + tb.length ∧ (ah < 0 ∨ 258 + tb.length = 4096))) :
    getF s early budget (g + 1) pos tb ah last out = if budget - out.length < (nowOf tb last code).length then ([], 3)
      else getF s early budget g (pos + wid (258 + tb.length) early) (tbOf tb ah (nowOf tb last code)) code (nowOf tb last code) (out ++ nowOf tb last code) := by
  rw [getF, if_neg h, hc, if_neg h7, if_neg h6, if_neg hbad]
end
/-- t begins with the bits L, as far as it goes -/
def Rd (t : ByteArray) (L : List Nat) : Prop := ∀ i, i < L.length → i < 8 * t.size → Bt.bit t true i = L.getD i 0
theorem read_one {t : ByteArray} {L A B : List Nat} {c wd : Nat} (hr : Rd t L) (hL : L = A ++ Bt.bitsOf true c wd ++ B) (hc : c < 2 ^ wd) (hle : A.length + wd ≤ 8 * t.size) : Bt.getv t true A.length wd = c := by
  have hl : L.length = A.length + wd + B.length := by rw [hL]; simp [Bt.bitsOf_length]; omega
  rw [← Bv.valOf_getv _ true A.length (fun i => (Bt.bitsOf true c wd).getD i 0) wd (fun i hin => ?_)]
  · exact Bv.valOf_bitsOf true c wd hc
  · rw [hr _ (by omega) (by omega), hL]
    rw [List.append_assoc, List.getD_eq_getElem?_getD, List.getD_eq_getElem?_getD, List.getElem?_append_right (by omega), Nat.add_sub_cancel_left, List.getElem?_append_left (by rw [Bt.bitsOf_length]; omega)]

/-! ### the phrase that is told spells what it stands for -/
theorem look_str {tb : List (Nat × Nat)} (hwf : WF tb) {r c m : Nat} (h : look tb (r, c) = some m) : okCode tb.length m ∧ strOf (strs tb) m = strOf (strs tb) r ++ [c] := by
  unfold look at h
  obtain ⟨i, hi, rfl⟩ := Option.map_eq_some_iff.1 h
  obtain ⟨hlt, he, _⟩ := List.findIdx?_eq_some_iff_getElem.1 hi
  have he : tb[i] = (r, c) := by simpa using he
  refine ⟨.inr (by omega), ?_⟩
  rw [Nat.add_comm, strs_at tb hwf i hlt, he]
theorem ext_str {tb : List (Nat × Nat)} (hwf : WF tb) : ∀ (l : List Nat) (row : Nat), okCode tb.length row → okCode tb.length (ext tb row l).1 ∧ strOf (strs tb) (ext tb row l).1 ++ (ext tb row l).2 = strOf (strs tb) row ++ l
  | [], row, h => ⟨h, rfl⟩
  | c :: r, row, h => by
    unfold ext
    split
    · exact ⟨h, rfl⟩
    · rename_i m hm
      obtain ⟨h1, h2⟩ := look_str hwf hm
      obtain ⟨h3, h4⟩ := ext_str hwf r m h1
      exact ⟨h3, by rw [h4, h2]; simp⟩

/-! ### the writer's and the reader's state -/
def EncDec (tb : List (Nat × Nat)) (known : Nat) (b : Bool) (l : List Nat) (tb' : List (Nat × Nat)) (ah : Int) (last : List Nat) : Prop :=
  (b = false ∧ tb = [] ∧ known = 257 ∧ tb' = [] ∧ ah = -1) ∨
  (b = true ∧ WF tb' ∧ known = 258 + tb'.length ∧ ∃ row : Nat, ah = row ∧ okCode tb'.length row ∧ last = strOf (strs tb') row ∧ tb = grow tb' row l)
theorem EncDec.known_eq {tb : List (Nat × Nat)} {known : Nat} {b : Bool} {l : List Nat} {tb' : List (Nat × Nat)} {ah : Int} {last : List Nat} (h : EncDec tb known b l tb' ah last) : max 258 known = 258 + tb'.length := by
  rcases h with ⟨_, _, rfl, rfl, _⟩ | ⟨_, _, rfl, _⟩
  · rfl
  · omega
/-- one code of a phrase -/
theorem EncDec.step {tb : List (Nat × Nat)} {known : Nat} {b : Bool} {c : Nat} {r : List Nat} {tb' : List (Nat × Nat)} {ah : Int} {last : List Nat} (h : EncDec tb known b (c :: r) tb' ah last) (hc : c < 256) (hk : known < 4094) :
    WF tb ∧ known + 1 = 258 + tb.length ∧ okCode tb.length (ext tb c r).1 ∧ ¬ (258 + tb'.length < (ext tb c r).1 ∨ (ext tb c r).1 = 258 + tb'.length ∧ (ah < 0 ∨ 258 + tb'.length = 4096)) ∧
    nowOf tb' last (ext tb c r).1 = strOf (strs tb) (ext tb c r).1 ∧ tbOf tb' ah (nowOf tb' last (ext tb c r).1) = tb ∧ strOf (strs tb) (ext tb c r).1 ++ (ext tb c r).2 = c :: r := by
  have key : WF tb → okCode tb.length (ext tb c r).1 ∧ strOf (strs tb) (ext tb c r).1 ++ (ext tb c r).2 = c :: r := fun hw => by
    have := ext_str hw r c (.inl hc)
    refine ⟨this.1, this.2.trans ?_⟩
    simp [strOf, hc]
  rcases h with ⟨rfl, rfl, rfl, rfl, rfl⟩ | ⟨rfl, hw', rfl, row, rfl, hok, hlast, htb⟩
  · obtain ⟨k1, k2⟩ := key WF.nil
    have h256 : (ext [] c r).1 < 256 := by rcases k1 with k1 | k1; exact k1; simp at k1; omega
    refine ⟨WF.nil, rfl, k1, by simp; omega, if_neg (by simp; omega), if_neg (by simp), k2⟩
  · have htb : tb = tb' ++ [(row, c)] := htb
    have hw : WF tb := by rw [htb]; exact hw'.snoc hok hc
    obtain ⟨k1, k2⟩ := key hw
    have hl : tb.length = tb'.length + 1 := by rw [htb]; simp
    obtain ⟨b1, b2, b3⟩ := strOf_bound tb hw _ k1
    have hhead : (strOf (strs tb) (ext tb c r).1).headD 0 = c := by
      have := headD_app (r := (ext tb c r).2) b1
      rw [k2] at this
      simpa using this.symm
    obtain ⟨l1, _, _⟩ := strOf_bound tb' hw' row hok
    rw [← hlast] at l1
    have hnow : nowOf tb' last (ext tb c r).1 = strOf (strs tb) (ext tb c r).1 := by
      by_cases hx : (ext tb c r).1 = 258 + tb'.length
      · have e1 : strOf (strs tb) (ext tb c r).1 = last ++ [c] := by
          rw [hx, Nat.add_comm, strs_at tb hw tb'.length (by omega)]
          have e : tb[tb'.length]'(by omega) = (row, c) := by simp [htb]
          rw [e, htb, strs_snoc, strOf_snoc _ _ row (by rw [strs_len]; exact hok), hlast]
        rw [e1] at hhead ⊢
        rw [headD_app l1] at hhead
        rw [nowOf, if_pos hx, hhead]
      · rw [nowOf, if_neg hx, htb, strs_snoc, strOf_snoc]
        rw [strs_len]
        rw [htb] at k1 hx
        unfold okCode at k1 ⊢
        simp at k1
        omega
    refine ⟨hw, by omega, k1, ?_, hnow, ?_, k2⟩
    · unfold okCode at k1
      omega
    · rw [hnow, tbOf, if_pos ⟨by omega, by omega⟩, hhead, htb]
      rfl

theorem EncDec.bh {tb : List (Nat × Nat)} {known : Nat} {b : Bool} {c : Nat} {r : List Nat} {tb' : List (Nat × Nat)} {ah : Int} {last : List Nat} (h : EncDec tb known b (c :: r) tb' ah last) (hk : known < 4094) (code : Nat) (h6 : code ≠ 256) :
    bhN (max 258 known) b code = 258 + tb.length := by
  unfold bhN
  rw [if_neg h6]
  rcases h with ⟨rfl, rfl, rfl, rfl, rfl⟩ | ⟨rfl, hw', rfl, row, rfl, hok, hlast, htb⟩
  · rfl
  · have htb : tb = tb' ++ [(row, c)] := htb
    rw [if_pos ⟨rfl, by omega⟩, htb]
    simp; omega
/-- the last code -/
theorem sim_end (t : ByteArray) (L : List Nat) (early : Bool) (budget : Int) (hr : Rd t L) (n : Nat) (tb' : List (Nat × Nat)) (ah : Int) (last out : List Nat) (g : Nat) (A : List Nat) (hn : n = 258 + tb'.length)
    (hL : L = A ++ Bt.bitsOf true 257 (wid n early)) (hA : A.length ≤ 8 * t.size) (hg : 8 * t.size < A.length + g) (hb : (out.length : Int) ≤ budget) :
    getF t early budget g A.length tb' ah last out = if 8 * t.size < L.length then ([], 8) else if budget < out.length then ([], 3) else (out, 0) := by
  subst hn
  obtain ⟨g, rfl⟩ : ∃ k, g = k + 1 := ⟨g - 1, by omega⟩
  have hl : L.length = A.length + wid (258 + tb'.length) early := by rw [hL, List.length_append, Bt.bitsOf_length]
  by_cases hm : 8 * t.size < A.length + wid (258 + tb'.length) early
  · rw [getF_more hm, if_pos (by omega)]
  · rw [getF_end hm (read_one (B := []) hr (by simpa using hL) (wid_small _ _ _ (by omega)) (by omega)), if_neg (by omega), if_neg (by omega)]
theorem sim (t : ByteArray) (L : List Nat) (early : Bool) (budget : Int) (hr : Rd t L) : ∀ (f : Nat) (tb : List (Nat × Nat)) (known : Nat) (b : Bool) (l : List Nat) (tb' : List (Nat × Nat)) (ah : Int) (last out : List Nat) (g : Nat) (A : List Nat),
    l.length ≤ f → (∀ x ∈ l, x < 256) → known < 4094 → EncDec tb known b l tb' ah last → fits early (max 258 known) b (codesF f tb known l) → L = A ++ putF early (max 258 known) b (codesF f tb known l) →
    A.length ≤ 8 * t.size → 8 * t.size < A.length + g → (out.length : Int) ≤ budget → (8 * t.size < L.length → (out.length : Int) + l.length ≤ budget) →
    getF t early budget g A.length tb' ah last out = if 8 * t.size < L.length then ([], 8) else if budget < ((out ++ l).length : Int) then ([], 3) else (out ++ l, 0) := by
  intro f
  induction f with
  | zero =>
    intro tb known b l tb' ah last out g A hl _ hk hE hfit hL hA hg hb hcut
    obtain rfl : l = [] := List.length_eq_zero_iff.1 (by omega)
    rw [List.append_nil]
    exact sim_end t L early budget hr _ tb' ah last out g A hE.known_eq (by simpa [codesF, putF] using hL) hA hg hb
  | succ f ih =>
    intro tb known b l tb' ah last out g A hl hx hk hE hfit hL hA hg hb hcut
    cases l with
    | nil =>
      rw [List.append_nil]
      exact sim_end t L early budget hr _ tb' ah last out g A hE.known_eq (by simpa [codesF, putF] using hL) hA hg hb
    | cons c r =>
      have hc := hx c (by simp)
      obtain ⟨hw, hkn, hok, hbad, hnow, htbo, hsp⟩ := hE.step hc hk
      have hn := hE.known_eq
      have hbh := hE.bh hk
      have hrest : ∀ x ∈ (ext tb c r).2, x < 256 := fun x h => hx x (List.mem_cons_of_mem _ (ext_mem tb c r x h))
      have hrl := ext_len tb c r
      simp only [List.length_cons] at hl
      have hb1 := strOf_bound tb hw _ hok
      generalize he : ext tb c r = e at *
      obtain ⟨row, rest⟩ := e
      simp only at *
      have h7 : row ≠ 257 := by unfold okCode at hok; omega
      have h6 : row ≠ 256 := by unfold okCode at hok; omega
      have hbh := hbh row h6
      have hB : bhB row = true := by simp [bhB, h6]
      obtain ⟨g, rfl⟩ : ∃ k, g = k + 1 := ⟨g - 1, by omega⟩
      -- what is written
      have hcod : codesF (f + 1) tb known (c :: r) = row :: (if known + 1 = 4094 then 256 :: codesF f [] 257 rest else codesF f (grow tb row rest) (known + 1) rest) := by
        conv => lhs; unfold codesF
        simp only [he]
        split <;> rfl
      rw [hcod] at hfit hL
      obtain ⟨⟨hf1, _⟩, hf2⟩ := hfit
      rw [putF] at hL
      rw [hbh, hB] at hf2 hL
      rw [hn] at hf1 hL
      generalize hcs : (if known + 1 = 4094 then 256 :: codesF f [] 257 rest else codesF f (grow tb row rest) (known + 1) rest) = cs at hf2 hL
      have hll : L.length = A.length + wid (258 + tb'.length) early + (putF early (258 + tb.length) true cs).length := by rw [hL]; simp [Bt.bitsOf_length]; omega
      have hol : (out ++ c :: r).length = (out ++ strOf (strs tb) row).length + rest.length := by rw [← hsp]; simp; omega
      have happ : out ++ c :: r = (out ++ strOf (strs tb) row) ++ rest := by rw [← hsp]; simp
      have hcut' : 8 * t.size < L.length → ((out ++ strOf (strs tb) row).length : Int) + rest.length ≤ budget := fun h => by
        have h1 := hcut h
        have : (out ++ c :: r).length = out.length + (c :: r).length := List.length_append
        omega
      by_cases hm : 8 * t.size < A.length + wid (258 + tb'.length) early
      · rw [getF_more hm, if_pos (by omega)]
      · have hrd := read_one (wd := wid (258 + tb'.length) early) hr (by rw [← List.append_assoc] at hL; exact hL) hf1 (by omega)
        rw [getF_code hm hrd h7 h6 hbad, hnow] at *
        rw [hnow] at htbo
        rw [htbo]
        by_cases hlong : budget - out.length < (strOf (strs tb) row).length
        · rw [if_pos hlong]
          have hlo : (out ++ strOf (strs tb) row).length = out.length + (strOf (strs tb) row).length := List.length_append
          have h9 : ¬ 8 * t.size < L.length := fun h => by have := hcut' h; omega
          rw [if_neg h9, if_pos (by omega)]
        · rw [if_neg hlong]
          have hA2 : (A ++ Bt.bitsOf true row (wid (258 + tb'.length) early)).length = A.length + wid (258 + tb'.length) early := by rw [List.length_append, Bt.bitsOf_length]
          have hlo : (out ++ strOf (strs tb) row).length = out.length + (strOf (strs tb) row).length := List.length_append
          rw [← hA2, happ]
          by_cases hfull : known + 1 = 4094
          · rw [if_pos hfull] at hcs
            subst hcs
            obtain ⟨⟨hf3, _⟩, hf4⟩ := hf2
            have h66 : bhN (258 + tb.length) true 256 = max 258 257 := by simp [bhN]
            rw [putF, h66, show bhB 256 = false from rfl] at hL
            rw [h66, show bhB 256 = false from rfl] at hf4
            have hL2 : L = ((A ++ Bt.bitsOf true row (wid (258 + tb'.length) early)) ++ Bt.bitsOf true 256 (wid (258 + tb.length) early)) ++ putF early (max 258 257) false (codesF f [] 257 rest) := by rw [hL]; simp
            have hll2 : L.length = (A ++ Bt.bitsOf true row (wid (258 + tb'.length) early)).length + wid (258 + tb.length) early + (putF early (max 258 257) false (codesF f [] 257 rest)).length := by rw [hL2, List.length_append, List.length_append (bs := Bt.bitsOf true 256 _), Bt.bitsOf_length]
            have hw8 := wid_le (258 + tb'.length) early
            obtain ⟨g, rfl⟩ : ∃ k, g = k + 1 := ⟨g - 1, by omega⟩
            by_cases hm2 : 8 * t.size < (A ++ Bt.bitsOf true row (wid (258 + tb'.length) early)).length + wid (258 + tb.length) early
            · rw [getF_more hm2, if_pos (by omega)]
            · have hrd2 := read_one (wd := wid (258 + tb.length) early) hr hL2 hf3 (by omega)
              rw [getF_clear hm2 hrd2]
              have hA3 : ((A ++ Bt.bitsOf true row (wid (258 + tb'.length) early)) ++ Bt.bitsOf true 256 (wid (258 + tb.length) early)).length = (A ++ Bt.bitsOf true row (wid (258 + tb'.length) early)).length + wid (258 + tb.length) early := by rw [List.length_append, Bt.bitsOf_length]
              rw [← hA3]
              have hw9 := wid_le (258 + tb.length) early
              exact ih [] 257 false rest [] (-1) _ _ g _ (by omega) hrest (by omega) (.inl ⟨rfl, rfl, rfl, rfl, rfl⟩) hf4 hL2 (by omega) (by omega) (by omega) hcut'
          · rw [if_neg hfull] at hcs
            subst hcs
            have hmx : max 258 (known + 1) = 258 + tb.length := by omega
            have hw9 := wid_le (258 + tb'.length) early
            rw [← hmx] at hL hf2
            exact ih (grow tb row rest) (known + 1) true rest tb row _ _ g _ (by omega) hrest (by omega) (.inr ⟨rfl, hw, by omega, row, rfl, hok, rfl, rfl⟩) hf2 (by rw [hL]; simp) (by omega) (by omega) (by omega) hcut'
end Go.Proofs.Ytcbllkopolbhaaa.Lz
