/-
  lzw.Get walked: it tells what 'getL' tells.
-/
import Derived.Test.YtcbllkopolbhaaaLzH
namespace Go.Proofs.Ytcbllkopolbhaaa.Lz
open Go.RowKit Go.Maps

def nowOf (tb : List (Nat × Nat)) (last : List Nat) (code : Nat) : List Nat := if code = 258 + tb.length then last ++ [last.headD 0] else strOf (strs tb) code
def tbOf (tb : List (Nat × Nat)) (ah : Int) (now : List Nat) : List (Nat × Nat) := if 0 ≤ ah ∧ 258 + tb.length < 4096 then tb ++ [(ah.toNat, now.headD 0)] else tb
def getF (s : ByteArray) (early : Bool) (budget : Int) : Nat → Nat → List (Nat × Nat) → Int → List Nat → List Nat → List Nat × Nat
  | 0, _, _, _, _, _ => ([], 8)
  | f + 1, pos, tb, ah, last, out =>
    if 8 * s.size < pos + wid (258 + tb.length) early then ([], 8)
    else if Bt.getv s true pos (wid (258 + tb.length) early) = 257 then (out, 0)
    else if Bt.getv s true pos (wid (258 + tb.length) early) = 256 then getF s early budget f (pos + wid (258 + tb.length) early) [] (-1) last out
    else if 258 + tb.length < Bt.getv s true pos (wid (258 + tb.length) early) ∨ Bt.getv s true pos (wid (258 + tb.length) early) = 258 + tb.length ∧ (ah < 0 ∨ 258 + tb.length = 4096) then ([], 4)
    else if budget - out.length < (nowOf tb last (Bt.getv s true pos (wid (258 + tb.length) early))).length then ([], 3)
    else getF s early budget f (pos + wid (258 + tb.length) early) (tbOf tb ah (nowOf tb last (Bt.getv s true pos (wid (258 + tb.length) early)))) (Bt.getv s true pos (wid (258 + tb.length) early))
      (nowOf tb last (Bt.getv s true pos (wid (258 + tb.length) early))) (out ++ nowOf tb last (Bt.getv s true pos (wid (258 + tb.length) early)))
/-- what Get tells: bytes, and an error's number -/
def getL (s : ByteArray) (early : Bool) (budget : Int) : List Nat × Nat := if budget < 0 then ([], 2) else getF s early budget (8 * s.size + 1) 0 [] (-1) [] []

/-- what holds of the state at each round's head -/
structure GInv (s : ByteArray) (pos : Nat) (tb : List (Nat × Nat)) (ah : Int) (last out : List Nat) : Prop where
  hpos : pos ≤ 8 * s.size
  wf : WF tb
  hlen : tb.length ≤ 3838
  hah : ah = -1 ∨ ∃ a : Nat, ah = a ∧ okCode tb.length a ∧ last = strOf (strs tb) a
  hout : out.length ≤ 500 * pos
  hlast : last.length ≤ 3840
theorem headD_mem {l : List Nat} (h : 0 < l.length) : l.headD 0 ∈ l := by
  cases l with
  | nil => simp at h
  | cons a r => simp
theorem headD_app {l r : List Nat} (h : 0 < l.length) : (l ++ r).headD 0 = l.headD 0 := by
  cases l with
  | nil => simp at h
  | cons a t => simp
theorem GInv.step {s : ByteArray} {pos wd code : Nat} {tb : List (Nat × Nat)} {ah : Int} {last out : List Nat} (h : GInv s pos tb ah last out) (h257 : code ≠ 257) (h256 : code ≠ 256)
    (hbad : ¬ (258 + tb.length < code ∨ code = 258 + tb.length ∧ (ah < 0 ∨ 258 + tb.length = 4096))) (hw : 9 ≤ wd) (hmore : ¬ 8 * s.size < pos + wd) :
    0 < (nowOf tb last code).length ∧ (nowOf tb last code).length ≤ 3840 ∧ (nowOf tb last code).headD 0 < 256 ∧ GInv s (pos + wd) (tbOf tb ah (nowOf tb last code)) code (nowOf tb last code) (out ++ nowOf tb last code) := by
  obtain ⟨h1, h2, h3, h4, h5, h6⟩ := h
  by_cases hc : code = 258 + tb.length
  · have h0 : 0 ≤ ah := by omega
    have h96 : 258 + tb.length < 4096 := by omega
    obtain ⟨a, rfl, hok, hlast⟩ : ∃ a : Nat, ah = a ∧ okCode tb.length a ∧ last = strOf (strs tb) a := by
      rcases h4 with h4 | h4
      · omega
      · exact h4
    obtain ⟨b1, b2, b3⟩ := strOf_bound tb h2 a hok
    rw [← hlast] at b1 b2 b3
    have hn : nowOf tb last code = last ++ [last.headD 0] := if_pos hc
    have hh : (nowOf tb last code).headD 0 = last.headD 0 := by rw [hn]; exact headD_app b1
    have hb : last.headD 0 < 256 := b3 _ (headD_mem b1)
    have ht : tbOf tb a (nowOf tb last code) = tb ++ [(a, last.headD 0)] := by
      unfold tbOf
      rw [if_pos ⟨h0, h96⟩, hh]
      rfl
    have hlen : (nowOf tb last code).length = last.length + 1 := by rw [hn]; simp
    have hWF := h2.snoc hok hb
    refine ⟨by omega, by omega, by omega, ⟨by omega, by rw [ht]; exact hWF, by rw [ht]; simp; omega, .inr ⟨code, rfl, by rw [ht]; exact .inr (by simp; omega), ?_⟩, by rw [List.length_append]; omega, by omega⟩⟩
    have hat := strs_at _ hWF tb.length (by simp)
    have e : (tb ++ [(a, last.headD 0)])[tb.length] = (a, last.headD 0) := by simp
    rw [e, strs_snoc, strOf_snoc _ _ a (by rw [strs_len]; exact hok), ← hlast] at hat
    rw [ht, hn, hc, Nat.add_comm 258, strs_snoc, ← hlast]
    exact hat.symm
  · have hlt : code < 258 + tb.length := by omega
    have hok : okCode tb.length code := by unfold okCode; omega
    obtain ⟨b1, b2, b3⟩ := strOf_bound tb h2 code hok
    have hn : nowOf tb last code = strOf (strs tb) code := if_neg hc
    rw [← hn] at b1 b2 b3
    have hb := b3 _ (headD_mem b1)
    refine ⟨b1, by omega, hb, ?_⟩
    by_cases hp : 0 ≤ ah ∧ 258 + tb.length < 4096
    · obtain ⟨a, rfl, hok', hlast⟩ : ∃ a : Nat, ah = a ∧ okCode tb.length a ∧ last = strOf (strs tb) a := by
        rcases h4 with h4 | h4
        · omega
        · exact h4
      have ht : tbOf tb a (nowOf tb last code) = tb ++ [(a, (nowOf tb last code).headD 0)] := by
        unfold tbOf
        rw [if_pos hp]
        rfl
      rw [ht]
      exact ⟨by omega, h2.snoc hok' hb, by simp; omega, .inr ⟨code, rfl, hok.mono (by simp), by rw [strs_snoc, strOf_snoc _ _ _ (by rw [strs_len]; exact hok), hn]⟩, by rw [List.length_append]; omega, by omega⟩
    · have ht : tbOf tb ah (nowOf tb last code) = tb := if_neg hp
      rw [ht]
      exact ⟨by omega, h2, h3, .inr ⟨code, rfl, hok, hn⟩, by rw [List.length_append]; omega, by omega⟩
theorem head_at {l : List Nat} {d : Nat} (h : 0 < l.length) (hd : l.headD 0 = d) : (l.map Bt.b8)[0]? = some (.int .u8 d) := by
  subst hd
  cases l with
  | nil => simp at h
  | cons a r => simp [Bt.b8]
theorem push_plain {w w1 : World} {g cap n : Nat} {v : Value} (hgrow : w.grownBy w1 v.ownBlock) (hat : v.ownBlock = some g ∨ g = w.heap.size) :
    Ext v.ownBlock.toList w w1 ∧ Fr w v.ownBlock.toList (Value.slice (some ⟨g, 0, none⟩) n cap).ownBlock.toList := by
  refine ⟨(Ext.refl _ w).grown hgrow (fun k hk => .inl (by simp [hk])), fun q hq => ?_⟩
  obtain rfl : q = g := by simpa [Value.ownBlock] using hq
  rcases hat with h | h
  · exact .inl (by simp [h])
  · exact .inr (by omega)
theorem eCells_snoc (tb : List (Nat × Nat)) (r c : Nat) : eCells (tb ++ [(r, c)]) = eCells tb ++ [iv r, Bt.b8 c] := by simp [eCells]

def oEs (v : Value) (tb : List (Nat × Nat)) : Ob := oSl 41 2 v tb.length (eCells tb)
theorem infoEdge : (Try.prog.info? 41).map (fun i => (i.zero, i.size, i.bytes)) = some (some (.agg #[.int .i64 0, .int .u8 0]), 2, 16) := by kernel_rfl

set_option maxRecDepth 100000 in
set_option maxHeartbeats 16000000 in
theorem get_walk (s : ByteArray) (early : Bool) (budget : Int) (w : World) (hs : s.size ≤ 1048576) (hb0 : 0 ≤ budget) (hb1 : budget ≤ 9223372036854775807) :
    Calls Try.prog 12 #[.string s, .bool early, .int .i64 budget] w fun e w' => e = .returned (.tuple #[.string (Bt.txt (getL s early budget).1), .int .i64 (getL s early budget).2]) ∧ Ext [] w w' := by
  have hR : getF s early budget (8 * s.size + 1) 0 [] (-1) [] [] = getL s early budget := by rw [getL, if_neg (by omega)]
  generalize getL s early budget = R at hR ⊢
  obtain ⟨j0, hif, hz0, hz1, hz2⟩ := info_parts Bt.infoByte
  obtain ⟨j1, hif', hz0', hz1', hz2'⟩ := info_parts infoEdge
  have HR := Lib.hid hR
  clear hR
  go_enter Try.func12, Try.ntmps12
  go_wp2_with fail
  refine (Bt.sRnew s true (Sep.start w)).mono ?_; rintro e w1 ⟨b1, rfl, S⟩
  have S1 := S.new (Ext.refl [] w1) (oBs (.slice none 0 0) []) (World.ownsRow_nil _ _ _ _) (by simp [oBs, oSl, Value.ownBlock])
  have S2 := S1.new (Ext.refl [] w1) (oEs (.slice none 0 0) []) (World.ownsRow_nil _ _ _ _) (by simp [oEs, oSl, Value.ownBlock])
  have S3 := S2.new (Ext.refl [] w1) (oBs (.slice none 0 0) []) (World.ownsRow_nil _ _ _ _) (by simp [oBs, oSl, Value.ownBlock])
  have HS := Lib.hid S3
  clear S S1 S2 S3
  go_wp2_with fail
  go_loopg [9, 10, 11, 12] (8 * s.size + 1) (fun gg vo vl vt va wr => ∃ pos tb ah last out, va = .int .i64 ah ∧ GInv s pos tb ah last out ∧ 8 * s.size < pos + gg ∧ getF s early budget gg pos tb ah last out = R ∧
    Sep w wr [oBs vl last, oEs vt tb, oBs vo out, Bt.oR b1 s pos true])
  case atStart => exact ⟨0, [], -1, [], [], rfl, ⟨by omega, WF.nil, by simp, .inl rfl, by simp, by simp⟩, by omega, HR.out, HS.out⟩
  case round =>
    clear HR HS
    obtain ⟨pos, tb, ah, last, out, rfl, hI, hgg, hR, S⟩ := hrel
    obtain ⟨aol, capl, rfl⟩ := row_shape2 (by omega) (show wr.ownsRow 0 5 1 u10 last.length _ from S.get 0 rfl)
    obtain ⟨aot, capt, rfl⟩ := row_shape2 (by omega) (show wr.ownsRow 0 41 2 u11 tb.length _ from S.get 1 rfl)
    obtain ⟨aoo, capo, rfl⟩ := row_shape2 (by omega) (show wr.ownsRow 0 5 1 u9 out.length _ from S.get 2 rfl)
    have HI := Lib.hid hI
    have hpos := hI.hpos
    have hlen := hI.hlen
    have hol := hI.hout
    have hll := hI.hlast
    clear hI
    obtain ⟨f, rfl⟩ : ∃ f, gk = f + 1 := ⟨gk - 1, by omega⟩
    have hwl := wid_le (258 + tb.length) early
    have HR := Lib.hid hR
    have HS := Lib.hid S
    clear hR S
    go_wp2_with fail
    refine (width_any (258 + tb.length) early _ (by omega)).mono ?_; rintro e w4 ⟨rfl, rfl⟩
    go_wp2_with fail
    by_cases hmore : 8 * s.size < pos + wid (258 + tb.length) early
    · refine (Bt.sGetMore 3 HS.out rfl (by omega) (by omega) hpos hmore).mono ?_; clear HS; rintro e w5 ⟨rfl, S⟩
      have h := HR.out
      rw [getF, if_pos hmore] at h
      have HR2 := Lib.hid h
      clear h
      go_wp2_with fail
      go_ret2
      rw [← HR2.out]
      exact ⟨rfl, S.ext⟩
    · refine (Bt.sGet (n := wid (258 + tb.length) early) 3 HS.out rfl (by omega) (by omega) (by omega)).mono ?_; clear HS; rintro e w5 ⟨rfl, S⟩
      have hcl := Bt.getv_lt s true pos (wid (258 + tb.length) early)
      have hc4 : Bt.getv s true pos (wid (258 + tb.length) early) < 4096 := Nat.lt_of_lt_of_le hcl (Nat.pow_le_pow_right (by omega) hwl.2 : _ ≤ 2 ^ 12)
      clear hcl
      have h := HR.out
      rw [getF, if_neg hmore] at h
      generalize Bt.getv s true pos (wid (258 + tb.length) early) = code at h hc4 ⊢
      generalize wid (258 + tb.length) early = wd at h hmore hwl S ⊢
      have HR2 := Lib.hid h
      clear h HR
      have HS := Lib.hid S
      clear S
      by_cases h257 : code = 257
      · subst h257
        have hct := Bt.run_row_text (HS.out.get 2 rfl)
        have h := HR2.out
        rw [if_pos rfl] at h
        have HR3 := Lib.hid h
        clear h
        go_wp2_with fail
        go_ret2
        rw [← HR3.out]
        exact ⟨rfl, HS.out.ext⟩
      · by_cases h256 : code = 256
        · subst h256
          have h := HR2.out
          rw [if_neg (by omega), if_pos rfl] at h
          have HR3 := Lib.hid h
          clear h
          go_wp2_with fail
          go_roundg f
          case measure => omega
          case rel =>
            refine ⟨pos + wd, [], -1, last, out, rfl, ⟨by omega, WF.nil, by simp, .inl rfl, by omega, hll⟩, by omega, HR3.out, ?_⟩
            exact HS.out.upd 1 (oEs (.slice aot 0 capt) []) rfl (Ext.refl _ _) (fun q hq => .inl (by cases aot <;> exact hq)) (row_zero (HS.out.get 1 rfl))
        · have h := HR2.out
          rw [if_neg h257, if_neg h256] at h
          have HR3 := Lib.hid h
          clear h HR2
          by_cases hbad : 258 + tb.length < code ∨ code = 258 + tb.length ∧ (ah < 0 ∨ 258 + tb.length = 4096)
          · have h := HR3.out
            rw [if_pos hbad] at h
            have HR4 := Lib.hid h
            clear h HR3
            rcases hbad with hb | ⟨hb, hb3⟩
            · go_wp2_with fail
              go_ret2
              rw [← HR4.out]
              exact ⟨rfl, HS.out.ext⟩
            · have hb1 : 258 + tb.length ≤ code := by omega
              have hb2 : code ≤ 258 + tb.length := by omega
              clear hb
              rcases hb3 with hb3 | hb3
              · go_wp2_with fail
                go_ret2
                rw [← HR4.out]
                exact ⟨rfl, HS.out.ext⟩
              · have hb4 : ((258 + (tb.length : Int)) == 4096) = true := by simp; omega
                clear hb3
                go_wp2_with fail
                all_goals go_ret2
                all_goals rw [← HR4.out]
                all_goals exact ⟨rfl, HS.out.ext⟩
          · have h := HR3.out
            rw [if_neg hbad] at h
            have HR4 := Lib.hid h
            clear h HR3
            obtain ⟨n1, n2, n3, hI'⟩ := HI.out.step h257 h256 hbad hwl.1 hmore
            have HN := Lib.hid hI'
            clear hI'
            by_cases hnx : code = 258 + tb.length
            · have hah : 0 ≤ ah := by omega
              have h96 : ((258 + (tb.length : Int)) == 4096) = false := by simp; omega
              have hx1 : 258 + tb.length ≤ code := by omega
              have hx2 : code ≤ 258 + tb.length := by omega
              obtain ⟨a, rfl, hok, hlast⟩ : ∃ a : Nat, ah = a ∧ okCode tb.length a ∧ last = strOf (strs tb) a := by
                rcases HI.out.hah with h4 | h4
                · omega
                · exact h4
              have l1 := (strOf_bound tb HI.out.wf a hok).1
              rw [← hlast] at l1
              have hno : nowOf tb last code = last ++ [last.headD 0] := if_pos hnx
              have HO := Lib.hid hno
              have HX := Lib.hid hnx
              clear hbad hno hlast hok hnx
              obtain ⟨gl, capl', hv⟩ := row_form (show w5.ownsRow 0 5 1 (.slice aol last.length capl) last.length (last.map Bt.b8) from HS.out.get 0 rfl) l1
              obtain ⟨rfl, rfl⟩ : aol = some ⟨gl, 0, none⟩ ∧ capl = capl' := by simpa using hv
              clear hv
              obtain ⟨hl, hhl⟩ : ∃ hl, last.headD 0 = hl := ⟨_, rfl⟩
              have cl0 : w5.cell? ⟨gl, 0, none⟩ = some (.int .u8 hl) := ownsRow_at (show w5.ownsRow 0 5 1 (.slice (some ⟨gl, 0, none⟩) last.length capl) last.length (last.map Bt.b8) from HS.out.get 0 rfl) (head_at l1 hhl)
              have hownl : w5.ownsRow 0 5 1 (.slice (some ⟨gl, 0, none⟩) last.length capl) last.length (last.map Bt.b8) := HS.out.get 0 rfl
              have hglt := World.block_lt_of_cell? _ _ cl0
              simp at hglt
              have il : (0 : Int) < (last.length : Int) := by omega
              have HL := Lib.hid hhl
              clear hhl
              go_wp2_with fail
              go_region_held3 (fun w' => w'.cell? ⟨gl, 0, none⟩ = some (.int .u8 hl)) (first | go_keep | (exact Ext.cell S2.ext ‹_›) | (rw [hgrow1.cell_far _ (by simp; omega) (Ne.symm hne2)]; assumption)) (first | (go_at_call 26; refine (clone_walk _ last _ l1 (by omega) ?_).mono ?_; (first | exact hownl.drew | exact (hownl.drew).alloc _ | exact (hownl.alloc _).drew); rintro e w2 ⟨v', rfl, S2⟩; have R2 : w2.ownsRow 0 5 1 v' last.length (last.map Bt.b8) := S2.get 0 rfl; have X2 : Ext [] w5 w2 := (by first | exact ((Ext.refl [] w5).drew).trans S2.ext | exact (((Ext.refl [] w5).alloc _).drew).trans S2.ext); have hbs : ∀ q, v'.ownBlock = some q → w5.heap.size ≤ q := (fun q hq => by have := S2.base _ (List.mem_singleton.2 rfl) q (by simp [oBs, oSl, hq]); simp at this; omega); have hne2 : v'.ownBlock ≠ some gl := (fun h => by have := hbs _ h; omega); have hsz2 : w5.heap.size ≤ w2.heap.size := X2.size) | (refine step_append_lies _ (by rfl) _ _ _ (by rfl) 0 5 j0 _ 1 1 Try.underlying36 hif hz0 hz1 hz2 rfl (by decide) v' _ _ (by rfl) (R2.alloc _) ⟨w2.heap.size, 0, none⟩ 1 1 [.int .u8 hl] (by rfl) (by rfl) (cell_one_new _ _ _) (by simp [Value.oneCell']) (by decide) (by unfold maxLen; omega) (by omega) (by omega) (w2.heap.size + 1) (by simp) ?_; intro gn capn w6 hown1 hgrow1 hat1 hlt1) | (refine step_append_lies _ (by rfl) _ _ _ (by rfl) 0 5 j0 _ 1 1 Try.underlying36 hif hz0 hz1 hz2 rfl (by decide) v' _ _ (by rfl) R2 ⟨w5.heap.size, 0, none⟩ 1 1 [.int .u8 hl] (by rfl) (by rfl) (World.news_of_block (cs := #[.int .u8 hl]) (t := 5) (fr := (0, 0)) (S2.ext.keep (heap_at _ (by simp)) (by simp))) (by simp [Value.oneCell']) (by decide) (by unfold maxLen; omega) (by omega) (by omega) (w2.heap.size) rfl ?_; intro gn capn w6 hown1 hgrow1 hat1 hlt1))
              all_goals
                have X3 : Ext [] w5 w6 := (by first | exact (X2.alloc _).grown hgrow1 (fun k hk => .inr (hbs k hk)) | exact X2.grown hgrow1 (fun k hk => .inr (hbs k hk)))
                have S := HS.out.new X3 (oBs (.slice (some ⟨gn, 0, none⟩) (last ++ [hl]).length capn) (last ++ [hl])) (by unfold oBs; rw [List.map_append, List.length_append]; exact hown1) (fun q hq => by
                  obtain rfl : q = gn := by simpa [oBs, oSl, Value.ownBlock] using hq
                  rcases hat1 with h | h
                  · exact hbs _ h
                  · omega)
                have hno := HO.out
                rw [HL.out] at hno
                rw [← hno] at S
                have hnl : last.length + 1 = (nowOf tb last code).length := by rw [hno]; simp
                rw [hnl]
                clear hno hnl hown1 hgrow1 hat1 HS
                generalize nowOf tb last code = now at *
                have HS := Lib.hid S
                clear S
                by_cases hlong : budget - out.length < now.length
                · have h := HR4.out
                  rw [if_pos hlong] at h
                  have HR5 := Lib.hid h
                  clear h HR4
                  go_wp2_with fail
                  go_ret2
                  rw [← HR5.out]
                  exact ⟨rfl, HS.out.ext⟩
                · have h := HR4.out
                  rw [if_neg hlong] at h
                  have HR5 := Lib.hid h
                  clear h HR4
                  have hown : w6.ownsRow 0 5 1 (.slice aoo out.length capo) out.length (out.map Bt.b8) := HS.out.get 3 rfl
                  have hnews : ∀ j u, (now.map Bt.b8)[j]? = some u → w6.cell? ((⟨gn, 0, none⟩ : Addr).add j) = some u := World.ownsRow.cells (show w6.ownsRow 0 5 1 (.slice (some ⟨gn, 0, none⟩) now.length capn) now.length (now.map Bt.b8) from HS.out.get 0 rfl) rfl
                  obtain ⟨hd, hhd⟩ : ∃ hd, now.headD 0 = hd := ⟨_, rfl⟩
                  rw [hhd] at n3
                  have HD := Lib.hid hhd
                  clear hhd
                  by_cases hpush : 0 ≤ (a : Int) ∧ 258 + tb.length < 4096
                  · skip
                    have ht : tbOf tb a now = tb ++ [(a, hd)] := by rw [← HD.out]; exact if_pos hpush
                    rw [ht] at HN HR5
                    clear ht
                    obtain ⟨hp1, hp2⟩ := hpush
                    go_wp2_with (first | (at_builtin; refine wpList_append_lies _ rfl _ _ 36 rfl 0 5 j0 _ 1 1 Try.underlying36 hif hz0 hz1 hz2 rfl (by decide) (.slice aoo out.length capo) out.length (out.map Bt.b8) rfl hown ⟨gn, 0, none⟩ now.length capn (now.map Bt.b8) rfl (by simp) hnews (by simp [Bt.b8, Value.oneCell']) n1 (by unfold maxLen; omega) (by omega) (by omega) w6.heap.size rfl ?_; intro g1 cap1 w7 hown1 hgrow1 hat1 hlt1; have P1 := push_plain (cap := cap1) (n := out.length + now.length) hgrow1 hat1; have S7 := HS.out.upd 3 (oBs (.slice (some ⟨g1, 0, none⟩) (out.length + now.length) cap1) (out ++ now)) rfl P1.1 P1.2 (show w7.ownsRow 0 5 1 _ _ _ by rw [List.map_append, List.length_append]; exact hown1); have H7 := Lib.hid S7; clear S7 P1 hown1 hgrow1 hat1; have c0 : w7.cell? ⟨gn, 0, none⟩ = some (.int .u8 (hd)) := ownsRow_at (show w7.ownsRow 0 5 1 (.slice (some ⟨gn, 0, none⟩) now.length capn) now.length (now.map Bt.b8) from H7.out.get 0 rfl) (head_at n1 HD.out)) | (at_builtin; refine wpList_append_lies _ rfl _ _ 54 rfl 0 41 j1 _ 2 16 Try.underlying54 hif' hz0' hz1' hz2' rfl (by decide) (.slice aot tb.length capt) tb.length (eCells tb) rfl (World.ownsRow.alloc (show w7.ownsRow 0 41 2 (.slice aot tb.length capt) tb.length (eCells tb) from H7.out.get 2 rfl) _) ⟨w7.heap.size, 0, none⟩ 1 1 [.int .i64 a, .int .u8 (hd)] rfl rfl (World.news_of_block (cs := #[.int .i64 a, .int .u8 (hd)]) (t := 41) (fr := (0, 0)) (heap_alloc_at _)) (by simp [Value.oneCell']) (by decide) (by unfold maxLen; omega) (by omega) (by omega) (w7.heap.size + 1) (by simp) ?_; intro g2 cap2 w8 hown2 hgrow2 hat2 hlt2; have P2 := push_local (cap := cap2) (n := tb.length + 1) hgrow2 hat2; have S8 := H7.out.upd 2 (oEs (.slice (some ⟨g2, 0, none⟩) (tb.length + 1) cap2) (tb ++ [(a, hd)])) rfl P2.1 P2.2 (show w8.ownsRow 0 41 2 _ _ _ by rw [eCells_snoc, List.length_append]; exact hown2); have H8 := Lib.hid S8; clear S8 P2 hown2 hgrow2 hat2))
                    go_roundg f
                    case measure => omega
                    case rel => exact ⟨pos + wd, tb ++ [(a, hd)], code, now, out ++ now, (by rw [HX.out]; go_num), HN.out, by omega, HR5.out, Sep.snd H8.out⟩
                  · have ht : tbOf tb a now = tb := if_neg hpush
                    rw [ht] at HN HR5
                    clear ht
                    go_wp2_with (at_builtin; refine wpList_append_lies _ rfl _ _ 36 rfl 0 5 j0 _ 1 1 Try.underlying36 hif hz0 hz1 hz2 rfl (by decide) (.slice aoo out.length capo) out.length (out.map Bt.b8) rfl hown ⟨gn, 0, none⟩ now.length capn (now.map Bt.b8) rfl (by simp) hnews (by simp [Bt.b8, Value.oneCell']) n1 (by unfold maxLen; omega) (by omega) (by omega) w6.heap.size rfl ?_; intro g1 cap1 w7 hown1 hgrow1 hat1 hlt1; have P1 := push_plain (cap := cap1) (n := out.length + now.length) hgrow1 hat1; have S7 := HS.out.upd 3 (oBs (.slice (some ⟨g1, 0, none⟩) (out.length + now.length) cap1) (out ++ now)) rfl P1.1 P1.2 (show w7.ownsRow 0 5 1 _ _ _ by rw [List.map_append, List.length_append]; exact hown1); have H7 := Lib.hid S7; clear S7 P1 hown1 hgrow1 hat1; have c0 : w7.cell? ⟨gn, 0, none⟩ = some (.int .u8 (hd)) := ownsRow_at (show w7.ownsRow 0 5 1 (.slice (some ⟨gn, 0, none⟩) now.length capn) now.length (now.map Bt.b8) from H7.out.get 0 rfl) (head_at n1 HD.out))
                    all_goals
                      go_roundg f
                      case measure => omega
                      case rel => exact ⟨pos + wd, tb, code, now, out ++ now, (by rw [HX.out]; go_num), HN.out, by omega, HR5.out, Sep.snd H7.out⟩
            · have hlt : code < 258 + tb.length := by omega
              have hok : okCode tb.length code := by unfold okCode; omega
              have hno : nowOf tb last code = strOf (strs tb) code := if_neg hnx
              have HO := Lib.hid hno
              clear hbad hno
              go_wp2_with fail
              refine (bytes_walk tb HI.out.wf (by omega) _ code hok _ (HS.out.get 1 rfl)).mono ?_; rintro e w6 ⟨vn, rfl, S'⟩
              rw [← HO.out] at S'
              generalize nowOf tb last code = now at *
              have S := HS.out.new S'.ext _ (S'.get 0 rfl) (S'.base _ (by simp))
              clear HS S'
              obtain ⟨gn, capn, rfl⟩ := row_form (show w6.ownsRow 0 5 1 vn now.length (now.map Bt.b8) from S.get 0 rfl) n1
              have HS := Lib.hid S
              clear S
              by_cases hlong : budget - out.length < now.length
              · have h := HR4.out
                rw [if_pos hlong] at h
                have HR5 := Lib.hid h
                clear h HR4
                go_wp2_with fail
                go_ret2
                rw [← HR5.out]
                exact ⟨rfl, HS.out.ext⟩
              · have h := HR4.out
                rw [if_neg hlong] at h
                have HR5 := Lib.hid h
                clear h HR4
                have hown : w6.ownsRow 0 5 1 (.slice aoo out.length capo) out.length (out.map Bt.b8) := HS.out.get 3 rfl
                have hnews : ∀ j u, (now.map Bt.b8)[j]? = some u → w6.cell? ((⟨gn, 0, none⟩ : Addr).add j) = some u := World.ownsRow.cells (show w6.ownsRow 0 5 1 (.slice (some ⟨gn, 0, none⟩) now.length capn) now.length (now.map Bt.b8) from HS.out.get 0 rfl) rfl
                obtain ⟨hd, hhd⟩ : ∃ hd, now.headD 0 = hd := ⟨_, rfl⟩
                rw [hhd] at n3
                have HD := Lib.hid hhd
                clear hhd
                by_cases hpush : 0 ≤ ah ∧ 258 + tb.length < 4096
                · obtain ⟨a, rfl⟩ : ∃ a : Nat, ah = a := ⟨ah.toNat, by omega⟩
                  have ht : tbOf tb a now = tb ++ [(a, hd)] := by rw [← HD.out]; exact if_pos hpush
                  rw [ht] at HN HR5
                  clear ht
                  obtain ⟨hp1, hp2⟩ := hpush
                  go_wp2_with (first | (at_builtin; refine wpList_append_lies _ rfl _ _ 36 rfl 0 5 j0 _ 1 1 Try.underlying36 hif hz0 hz1 hz2 rfl (by decide) (.slice aoo out.length capo) out.length (out.map Bt.b8) rfl hown ⟨gn, 0, none⟩ now.length capn (now.map Bt.b8) rfl (by simp) hnews (by simp [Bt.b8, Value.oneCell']) n1 (by unfold maxLen; omega) (by omega) (by omega) w6.heap.size rfl ?_; intro g1 cap1 w7 hown1 hgrow1 hat1 hlt1; have P1 := push_plain (cap := cap1) (n := out.length + now.length) hgrow1 hat1; have S7 := HS.out.upd 3 (oBs (.slice (some ⟨g1, 0, none⟩) (out.length + now.length) cap1) (out ++ now)) rfl P1.1 P1.2 (show w7.ownsRow 0 5 1 _ _ _ by rw [List.map_append, List.length_append]; exact hown1); have H7 := Lib.hid S7; clear S7 P1 hown1 hgrow1 hat1; have c0 : w7.cell? ⟨gn, 0, none⟩ = some (.int .u8 (hd)) := ownsRow_at (show w7.ownsRow 0 5 1 (.slice (some ⟨gn, 0, none⟩) now.length capn) now.length (now.map Bt.b8) from H7.out.get 0 rfl) (head_at n1 HD.out)) | (at_builtin; refine wpList_append_lies _ rfl _ _ 54 rfl 0 41 j1 _ 2 16 Try.underlying54 hif' hz0' hz1' hz2' rfl (by decide) (.slice aot tb.length capt) tb.length (eCells tb) rfl (World.ownsRow.alloc (show w7.ownsRow 0 41 2 (.slice aot tb.length capt) tb.length (eCells tb) from H7.out.get 2 rfl) _) ⟨w7.heap.size, 0, none⟩ 1 1 [.int .i64 a, .int .u8 (hd)] rfl rfl (World.news_of_block (cs := #[.int .i64 a, .int .u8 (hd)]) (t := 41) (fr := (0, 0)) (heap_alloc_at _)) (by simp [Value.oneCell']) (by decide) (by unfold maxLen; omega) (by omega) (by omega) (w7.heap.size + 1) (by simp) ?_; intro g2 cap2 w8 hown2 hgrow2 hat2 hlt2; have P2 := push_local (cap := cap2) (n := tb.length + 1) hgrow2 hat2; have S8 := H7.out.upd 2 (oEs (.slice (some ⟨g2, 0, none⟩) (tb.length + 1) cap2) (tb ++ [(a, hd)])) rfl P2.1 P2.2 (show w8.ownsRow 0 41 2 _ _ _ by rw [eCells_snoc, List.length_append]; exact hown2); have H8 := Lib.hid S8; clear S8 P2 hown2 hgrow2 hat2))
                  go_roundg f
                  case measure => omega
                  case rel => exact ⟨pos + wd, tb ++ [(a, hd)], code, now, out ++ now, rfl, HN.out, by omega, HR5.out, Sep.snd H8.out⟩
                · have ht : tbOf tb ah now = tb := if_neg hpush
                  rw [ht] at HN HR5
                  clear ht
                  go_wp2_with (at_builtin; refine wpList_append_lies _ rfl _ _ 36 rfl 0 5 j0 _ 1 1 Try.underlying36 hif hz0 hz1 hz2 rfl (by decide) (.slice aoo out.length capo) out.length (out.map Bt.b8) rfl hown ⟨gn, 0, none⟩ now.length capn (now.map Bt.b8) rfl (by simp) hnews (by simp [Bt.b8, Value.oneCell']) n1 (by unfold maxLen; omega) (by omega) (by omega) w6.heap.size rfl ?_; intro g1 cap1 w7 hown1 hgrow1 hat1 hlt1; have P1 := push_plain (cap := cap1) (n := out.length + now.length) hgrow1 hat1; have S7 := HS.out.upd 3 (oBs (.slice (some ⟨g1, 0, none⟩) (out.length + now.length) cap1) (out ++ now)) rfl P1.1 P1.2 (show w7.ownsRow 0 5 1 _ _ _ by rw [List.map_append, List.length_append]; exact hown1); have H7 := Lib.hid S7; clear S7 P1 hown1 hgrow1 hat1; have c0 : w7.cell? ⟨gn, 0, none⟩ = some (.int .u8 (hd)) := ownsRow_at (show w7.ownsRow 0 5 1 (.slice (some ⟨gn, 0, none⟩) now.length capn) now.length (now.map Bt.b8) from H7.out.get 0 rfl) (head_at n1 HD.out))
                  all_goals
                    go_roundg f
                    case measure => omega
                    case rel => exact ⟨pos + wd, tb, code, now, out ++ now, rfl, HN.out, by omega, HR5.out, Sep.snd H7.out⟩
end Go.Proofs.Ytcbllkopolbhaaa.Lz
