/-
  runs.Get: what it tells, as a plain function; walked.
-/
import Derived.Test.YtiadnmhginpgfaaRnD
import Derived.Lib.ConvBytes
namespace Go.Proofs.Ytiadnmhginpgfaa.Rn
open Go.RowKit

def getL (b : Int) : List UInt8 → List UInt8 → List UInt8 × Nat
  | [], _ => ([], 8)
  | c :: r, out => if c.toNat = 128 then (out, 0)
    else if 128 < c.toNat then (if r.length < 1 then ([], 8) else if b - out.length < ((257 - c.toNat : Nat) : Int) then ([], 3) else getL b (r.drop 1) (out ++ rep (r.take 1) (257 - c.toNat)))
    else (if r.length < c.toNat + 1 then ([], 8) else if b - out.length < ((c.toNat + 1 : Nat) : Int) then ([], 3) else getL b (r.drop (c.toNat + 1)) (out ++ r.take (c.toNat + 1)))
termination_by l => l.length
decreasing_by all_goals (simp; omega)
def getA (b : Int) (l : List UInt8) : List UInt8 × Nat := if b < 0 then ([], 2) else getL b l []

theorem conv_ex (x : ByteArray) (W : World) : ∃ W' cap, (convert 9 29 (.string x)).run Try.prog W = .ok (.slice (some ⟨W.heap.size, 0, none⟩) (B x).length cap) W' ∧ Ext [] W W' ∧ W.heap.size < W'.heap.size ∧
    ∀ j u, ((B x).map c8)[j]? = some u → W'.cell? ((⟨W.heap.size, 0, none⟩ : Addr).add j) = some u := by
  refine ⟨Lib.bytesWorld W 5 x, grownCap W x.size 0 5, by rw [B_len]; exact Lib.run_convert_string_bytes W 9 29 5 x Try.underlying9 Try.underlying29 Try.underlying5,
    ⟨rfl, rfl, rfl, by rw [Lib.bytesWorld_size]; omega, fun k hk _ => Lib.bytesWorld_at_old W _ x k hk⟩, by rw [Lib.bytesWorld_size]; omega, fun j u hu => ?_⟩
  have hj : j < x.size := by have := (List.getElem?_eq_some_iff.1 hu).1; rw [List.length_map, B_len] at this; exact this
  have hadd : (⟨W.heap.size, 0, none⟩ : Addr).add j = ⟨W.heap.size, j, none⟩ := by unfold Addr.add; split <;> simp_all
  rw [hadd, Lib.bytesWorld_cell W _ x j hj, ← hu, List.getElem?_map, List.getElem?_eq_getElem (by rw [B_len]; exact hj), List.getD_eq_getElem?_getD, List.getElem?_eq_getElem (by rw [B_len]; exact hj)]
  rfl
theorem push_plain {w w1 : World} {g cap n : Nat} {v : Value} (hgrow : w.grownBy w1 v.ownBlock) (hat : v.ownBlock = some g ∨ g = w.heap.size) :
    Ext v.ownBlock.toList w w1 ∧ Fr w v.ownBlock.toList (Value.slice (some ⟨g, 0, none⟩) n cap).ownBlock.toList := by
  refine ⟨(Ext.refl _ w).grown hgrow (fun k hk => .inl (by simp [hk])), fun q hq => ?_⟩
  obtain rfl : q = g := by simpa [Value.ownBlock] using hq
  rcases hat with h | h
  · exact .inl (by simp [h])
  · exact .inr (by omega)
theorem row_shape {w : World} {base : Nat} {e : TypeId} {n : Nat} {v : Value} {xs : List Value} (h : w.ownsRow base e 1 v n xs) : ∃ ao cap, v = .slice ao n cap := by
  rcases h.2 with ⟨h0, hx⟩ | ⟨g, cap, cur, rfl, _⟩
  · have h1 := h.1
    rw [hx] at h1
    obtain rfl : n = 0 := by simp at h1; omega
    exact ⟨none, 0, h0⟩
  · exact ⟨_, cap, rfl⟩
set_option maxRecDepth 100000 in
set_option maxHeartbeats 4000000 in
theorem get_walk (s : ByteArray) (b : Int) (w : World) (hs : s.size ≤ 1048576) (hb : b ≤ 9223372036854775807) (hb0 : -9223372036854775808 ≤ b) :
    Calls Try.prog 11 #[.string s, .int .i64 b] w fun e w' => e = .returned (.tuple #[.string (Rn.S (getA b (B s)).1), .int .i64 ((getA b (B s)).2 : Nat)]) ∧ Ext [] w w' := by
  obtain ⟨i0, hi, hz0, hz1, hz2⟩ := info_parts infoByte
  by_cases hneg : b < 0
  · have hr : getA b (B s) = ([], 2) := if_pos hneg
    rw [hr]
    go_enter Try.func11, Try.ntmps11
    go_wp2_with fail
    go_ret2
    exact ⟨rfl, Ext.refl _ _⟩
  · have hr : getA b (B s) = getL b (B s) [] := if_neg hneg
    rw [hr]
    obtain ⟨R, hR⟩ : ∃ R, getL b (B s) [] = R := ⟨_, rfl⟩
    rw [hR]
    have HR := Lib.hid hR
    clear hr hR
    have S0 : Sep w w [] := Sep.start w
    have S1 := S0.new (Ext.refl _ _) (oSl 5 1 (.slice none 0 0) 0 []) (World.ownsRow_nil _ _ _ _) (by simp [oSl, Value.ownBlock])
    have HS := Lib.hid S1
    clear S0 S1
    go_enter Try.func11, Try.ntmps11
    go_wp2_with fail
    go_loopg [0, 6] s.size (fun g sv ov wr => ∃ (t : ByteArray) (out : List UInt8), g = t.size ∧ t.size ≤ s.size ∧ sv = .string t ∧ getL b (B t) out = R ∧ out.length + 128 * t.size ≤ 128 * s.size ∧ Sep w wr [oSl 5 1 ov out.length (out.map c8)])
    case atStart => exact ⟨s, [], rfl, Nat.le_refl _, rfl, HR.out, by simp, HS.out⟩
    case round =>
      clear HR HS
      obtain ⟨t, out, rfl, hts, rfl, hr, hol, S⟩ := hrel
      have HR := Lib.hid hr
      have HS := Lib.hid S
      by_cases hpos : 0 < t.size
      · have i0' : (0 : Int) < (t.size : Int) := by omega
        obtain ⟨u, hu⟩ : ∃ u, u = t.extract 1 t.size := ⟨_, rfl⟩
        have hbt : B t = (t[0]'hpos) :: B u := by
          have h := B_get t 0 hpos
          rw [hu, B_drop]
          cases hB : B t with
          | nil => rw [hB] at h; simp at h
          | cons a r => rw [hB] at h; simp at h; simp [h]
        have husz : u.size = t.size - 1 := by rw [← B_len, ← B_len, hbt]; simp
        obtain ⟨c, hc⟩ : ∃ c, (t[0]'hpos) = c := ⟨_, rfl⟩
        have hc8 := c.toNat_lt
        rw [hc] at hbt
        have hu' := hu.symm
        rw [hbt, getL] at hr
        have HR := Lib.hid hr
        obtain ⟨ao, cap, rfl⟩ := row_shape (show wr.ownsRow 0 5 1 _ out.length _ from S.get 0 rfl)
        have HU := Lib.hid husz
        clear hr S hu hbt
        by_cases h1 : c.toNat = 128
        · have k1 : ((c.toNat : Int) == 128) = true := by simp [h1]
          have hown : wr.ownsRow 0 5 1 (.slice ao out.length cap) out.length (out.map c8) := HS.out.get 0 rfl
          have hct := run_text hown
          have hRR := HR.out
          rw [if_pos h1] at hRR
          have HRR := Lib.hid hRR
          clear hRR HR hown
          go_wp2_with fail
          go_ret2
          exact ⟨by rw [← HRR.out]; rfl, HS.out.ext⟩
        · by_cases h2 : 128 < c.toNat
          · have k1 : ((c.toNat : Int) == 128) = false := beq_eq_false_iff_ne.2 (by omega)
            have k2 : (128 : Int) < (c.toNat : Int) := by omega
            obtain ⟨m, hm⟩ : ∃ m : Nat, m = 257 - c.toNat := ⟨_, rfl⟩
            have hmi : (257 : Int) - (c.toNat : Int) = (m : Int) := by omega
            have hm1 : 1 ≤ m ∧ m ≤ 128 := by omega
            have HMM := Lib.hid hm
            clear hm
            by_cases h3 : u.size < 1
            · have k3 : (u.size : Int) < 1 := by omega
              have hRR := HR.out
              rw [if_neg h1, if_pos h2, if_pos (by rw [B_len]; omega)] at hRR
              have HRR := Lib.hid hRR
              clear hRR HR husz
              go_wp2_with fail
              go_ret2
              exact ⟨by rw [← HRR.out]; rfl, HS.out.ext⟩
            · have k3 : ¬ ((u.size : Int) < 1) := by omega
              by_cases h4 : b - (out.length : Int) < (m : Int)
              · have hRR := HR.out
                rw [if_neg h1, if_pos h2, if_neg (by rw [B_len]; omega), if_pos (by omega)] at hRR
                have HRR := Lib.hid hRR
                clear hRR HR husz
                go_wp2_with fail
                go_ret2
                exact ⟨by rw [← HRR.out]; rfl, HS.out.ext⟩
              · obtain ⟨x, hx⟩ : ∃ x, u.extract 0 1 = x := ⟨_, rfl⟩
                have hBx : B x = (B u).take 1 := by rw [← hx, B_take]
                have hxl : (B x).length = 1 := by rw [hBx, List.length_take, B_len]; omega
                obtain ⟨W1, capx, hcv, hx1, hW1, hcl⟩ := conv_ex x wr
                have hRR := HR.out
                rw [if_neg h1, if_pos h2, if_neg (by rw [B_len]; omega), if_neg (by omega), ← hBx, ← HMM.out] at hRR
                have HRR := Lib.hid hRR
                have HBX := Lib.hid hBx
                have HX1 := Lib.hid hx1
                have HCL := Lib.hid hcl
                clear hRR hBx hx1 hcl HR husz
                have k5 : (B x).length ≤ 128 := by omega
                rw [hxl] at hcv
                go_wp2_with fail
                refine (show Calls Try.prog 19 #[.slice (some ⟨wr.heap.size, 0, none⟩) 1 capx, .int .i64 ((m : Nat) : Int)] W1 _ from by
                  have h := repeat_walk (B x) m ⟨wr.heap.size, 0, none⟩ capx W1 (by omega) (by omega) (by rw [hxl]; omega) HCL.out hW1
                  rw [hxl] at h
                  exact h).mono ?_
                rintro e w2 ⟨g, cur, rfl, hg, htk, hgb, hx2⟩
                have hown : w2.ownsRow 0 5 1 (.slice ao out.length cap) out.length (out.map c8) := ((HS.out.quiet HX1.out).quiet hx2).get 0 rfl
                have HG := Lib.hid (⟨hg, htk, hgb, hx2⟩ : _ ∧ _ ∧ _ ∧ _)
                clear hg htk hgb hx2 hcv
                rw [Nat.one_mul] at HG
                go_wp2_with (at_builtin; refine wpList_append_src _ rfl _ _ 29 29 rfl 0 5 i0 _ 1 1 Try.underlying29 hi hz0 hz1 hz2 rfl (by decide) (.slice ao out.length cap) out.length (out.map c8) rfl hown (.slice (some ⟨g, 0, none⟩) m m) m ((rep (B x) m).map c8) rfl (Src.ofSlice _ Try.underlying29 ⟨g, 0, none⟩ _ _ _ (by rw [List.length_map, rep_len, Nat.mul_one]) (fun j u hu => World.news_of_block HG.out.1 j u (by rw [← HG.out.2.1] at hu; rw [← hu, List.getElem?_take_of_lt (by have := (List.getElem?_eq_some_iff.1 hu).1; rw [List.length_take] at this; omega)])) (by simp [c8, Value.oneCell'])) (by omega) (by unfold maxLen; omega) (by omega) (by omega) ?_; intro g1 cap1 w3 hown1 hgrow1 hat1 hlt1; have P1 := push_plain (cap := cap1) (n := out.length + m) hgrow1 hat1; have HP := Lib.hid P1; have HO := Lib.hid hown1; clear P1 hown1 hgrow1 hat1 hlt1 hown)
                go_roundg (u.size - 1)
                case measure => have := HU.out; omega
                case rel =>
                  have he : (u.extract 1 u.size).size = u.size - 1 := by simp
                  have hu9 := HU.out
                  have hr9 := HRR.out
                  have ho := HO.out
                  rw [← List.map_append] at ho
                  have hl9 : (out ++ rep (B x) m).length = out.length + m := by rw [List.length_append, rep_len]
                  refine ⟨u.extract 1 u.size, out ++ rep (B x) m, he.symm, by omega, rfl, by rw [B_drop]; exact hr9, by rw [hl9, he]; omega, ?_⟩
                  rw [hl9]
                  exact ((HS.out.quiet HX1.out).quiet HG.out.2.2.2).upd 0 (oSl 5 1 _ _ _) rfl HP.out.1 HP.out.2 ho
          · have k1 : ((c.toNat : Int) == 128) = false := beq_eq_false_iff_ne.2 (by omega)
            have k2 : ¬ ((128 : Int) < (c.toNat : Int)) := by omega
            by_cases h3 : u.size < c.toNat + 1
            · have k3 : (u.size : Int) < (c.toNat : Int) + 1 := by omega
              have hRR := HR.out
              rw [if_neg h1, if_neg h2, if_pos (by rw [B_len]; omega)] at hRR
              have HRR := Lib.hid hRR
              clear hRR HR husz
              go_wp2_with fail
              go_ret2
              exact ⟨by rw [← HRR.out]; rfl, HS.out.ext⟩
            · have k3 : ¬ ((u.size : Int) < (c.toNat : Int) + 1) := by omega
              by_cases h4 : b - (out.length : Int) < (c.toNat : Int) + 1
              · have hRR := HR.out
                rw [if_neg h1, if_neg h2, if_neg (by rw [B_len]; omega), if_pos (by simp only [Int.natCast_add]; omega)] at hRR
                have HRR := Lib.hid hRR
                clear hRR HR husz
                go_wp2_with fail
                go_ret2
                exact ⟨by rw [← HRR.out]; rfl, HS.out.ext⟩
              · obtain ⟨x, hx⟩ : ∃ x, u.extract 0 (c.toNat + 1) = x := ⟨_, rfl⟩
                have hBx : B x = (B u).take (c.toNat + 1) := by rw [← hx, B_take]
                have hxl : (B x).length = c.toNat + 1 := by rw [hBx, List.length_take, B_len]; omega
                obtain ⟨W1, capx, hcv, hx1, hW1, hcl⟩ := conv_ex x wr
                have hRR := HR.out
                rw [if_neg h1, if_neg h2, if_neg (by rw [B_len]; omega), if_neg (by simp only [Int.natCast_add]; omega), ← hBx] at hRR
                have HRR := Lib.hid hRR
                have HBX := Lib.hid hBx
                have HX1 := Lib.hid hx1
                have HCL := Lib.hid hcl
                clear hRR hBx hx1 hcl HR husz
                have k5 : (B x).length ≤ 128 := by omega
                rw [hxl] at hcv
                go_wp2_with fail
                refine (show Calls Try.prog 19 #[.slice (some ⟨wr.heap.size, 0, none⟩) (c.toNat + 1) capx, .int .i64 ((1 : Nat) : Int)] W1 _ from by
                  have h := repeat_walk (B x) 1 ⟨wr.heap.size, 0, none⟩ capx W1 (by omega) (by omega) (by omega) HCL.out hW1
                  rw [hxl] at h
                  exact h).mono ?_
                rintro e w2 ⟨g, cur, rfl, hg, htk, hgb, hx2⟩
                have hown : w2.ownsRow 0 5 1 (.slice ao out.length cap) out.length (out.map c8) := ((HS.out.quiet HX1.out).quiet hx2).get 0 rfl
                have HG := Lib.hid (⟨hg, htk, hgb, hx2⟩ : _ ∧ _ ∧ _ ∧ _)
                clear hg htk hgb hx2 hcv
                rw [Nat.mul_one] at HG
                go_wp2_with (at_builtin; refine wpList_append_src _ rfl _ _ 29 29 rfl 0 5 i0 _ 1 1 Try.underlying29 hi hz0 hz1 hz2 rfl (by decide) (.slice ao out.length cap) out.length (out.map c8) rfl hown (.slice (some ⟨g, 0, none⟩) (c.toNat + 1) (c.toNat + 1)) (c.toNat + 1) ((rep (B x) (c.toNat + 1)).map c8) rfl (Src.ofSlice _ Try.underlying29 ⟨g, 0, none⟩ _ _ _ (by rw [List.length_map, rep_len, Nat.mul_one]) (fun j u hu => World.news_of_block HG.out.1 j u (by rw [← HG.out.2.1] at hu; rw [← hu, List.getElem?_take_of_lt (by have := (List.getElem?_eq_some_iff.1 hu).1; rw [List.length_take] at this; omega)])) (by simp [c8, Value.oneCell'])) (by omega) (by unfold maxLen; omega) (by omega) (by omega) ?_; intro g1 cap1 w3 hown1 hgrow1 hat1 hlt1; have P1 := push_plain (cap := cap1) (n := out.length + (c.toNat + 1)) hgrow1 hat1; have HP := Lib.hid P1; have HO := Lib.hid hown1; clear P1 hown1 hgrow1 hat1 hlt1 hown)
                go_roundg (u.size - (c.toNat + 1))
                case measure => have := HU.out; omega
                case rel =>
                  have he : (u.extract (c.toNat + 1) u.size).size = u.size - (c.toNat + 1) := by simp
                  have hu9 := HU.out
                  have hr9 := HRR.out
                  have ho := HO.out
                  rw [show rep (B x) (c.toNat + 1) = B x by rw [← hxl, rep_first], ← List.map_append] at ho
                  have hl9 : (out ++ B x).length = out.length + (c.toNat + 1) := by rw [List.length_append, hxl]
                  refine ⟨u.extract (c.toNat + 1) u.size, out ++ B x, he.symm, by omega, rfl, by rw [B_drop]; exact hr9, by rw [hl9, he]; omega, ?_⟩
                  rw [hl9]
                  exact ((HS.out.quiet HX1.out).quiet HG.out.2.2.2).upd 0 (oSl 5 1 _ _ _) rfl HP.out.1 HP.out.2 ho
      · have i0' : ¬ ((0 : Int) < (t.size : Int)) := by omega
        have he : B t = [] := List.eq_nil_of_length_eq_zero (by rw [B_len]; omega)
        rw [he, getL] at hr
        have HRR := Lib.hid hr
        clear hr S he HR
        go_wp2_with fail
        go_ret2
        exact ⟨by rw [← HRR.out]; rfl, HS.out.ext⟩
end Go.Proofs.Ytiadnmhginpgfaa.Rn
