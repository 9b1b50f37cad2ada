/-
  reach.Lost walked.
-/
import Derived.Test.YtgpgamohcafklaaGreatDoorRcN
namespace Go.Proofs.YtgpgamohcafklaaGreatDoor.Rc
open Go.RowKit
open Go.Proofs.YtgpgamohcafklaaGreatDoor.Tr
open Go.Proofs.YtgpgamohcafklaaGreatDoor.So

/-- the refs that are left when those of objects are struck -/
def leftF (Z : List Rf) (done : Rf → Bool) : Rf → Option Value := fun r => if r ∈ Z ∧ done r = false then some (.bool true) else none
theorem leftF_start (Z : List Rf) : leftF Z (fun _ => false) = setF Z := by
  funext r
  unfold leftF setF
  simp
theorem leftF_step (Z : List Rf) (done : Rf → Bool) (x : Rf) : (fun q => if q = x then none else leftF Z done q) = leftF Z (fun q => done q || decide (q = x)) := by
  funext q
  unfold leftF
  by_cases h : q = x
  · simp [h]
  · simp [h]
theorem leftF_next {L : List Om} {Z : List Rf} {left : Rf → Bool} {x : Rf} (h : hasO L x = true) : (fun q => if q = x then none else leftF Z (fun r => hasO L r && !left r) q) = leftF Z (fun r => hasO L r && !(left r && !decide (r = x))) := by
  rw [leftF_step]
  congr 1
  funext q
  by_cases hq : q = x
  · subst hq
    simp [h]
  · simp [hq]
theorem leftF_end {L : List Om} {Z : List Rf} {left : Rf → Bool} (h : ∀ r ∈ Z, left r = false) : leftF Z (fun r => hasO L r && !left r) = leftF Z (hasO L) := by
  funext r
  unfold leftF
  by_cases hr : r ∈ Z
  · simp [hr, h r hr]
  · simp [hr]
theorem idx_has (L : List Om) (r : Rf) : (idxF L r).isSome = hasO L r := by
  unfold idxF hasO
  cases findO L r <;> rfl
theorem idxF_some {L : List Om} {r : Rf} {v : Value} (h : idxF L r = some v) : ∃ x, findO L r = some x ∧ v = omV x := by
  unfold idxF at h
  cases hf : findO L r with
  | none => rw [hf] at h; cases h
  | some x => rw [hf] at h; exact ⟨x, rfl, (Option.some.inj h).symm⟩
set_option maxRecDepth 100000 in
set_option maxHeartbeats 16000000 in
theorem lost_walk (v : Value) (L : List Om) (root : Rf) (w : World) (h : OmsAt w v L) (hw : ∀ x ∈ L, OmWf x) (hr : RfWf root) (hl : L.length ≤ 100000) (E : List Rf) (hE : E.Nodup) (hEm : ∀ r, r ∈ E ↔ r ∈ refsL root L ∧ hasO L r = false) (hEs : E.Pairwise fun x y => ltOf (cf2 r1 r2) x y = true) (hEl : (refsL root L).length ≤ 1000000) :
    Calls Tryz.prog 20 #[.agg #[v, .int .i64 root.1, .int .i64 root.2]] w fun e w' => ∃ v2, e = .returned v2 ∧ Ext [] w w' ∧ Cells w' 2 encRf v2 E := by
  have HR := Lib.hid (fun W (hx : Ext [] w W) => rrefs_walk v L root W (h.ext hx) hw hr hl)
  have HI := Lib.hid (fun W (hx : Ext [] w W) => index_walk v L root.1 root.2 W (h.ext hx) hw hl)
  have HEE := Lib.hid (⟨hE, hEm, hEs, hEl⟩ : _ ∧ _ ∧ _ ∧ _)
  clear hE hEm hEs hEl
  obtain ⟨m0, m1⟩ := root
  obtain ⟨base, cap, rfl, -, hT⟩ := h
  obtain ⟨n, hln⟩ : ∃ n, L.length = n := ⟨_, rfl⟩
  obtain ⟨Z, hZ⟩ : ∃ Z, refsL (m0, m1) L = Z := ⟨_, rfl⟩
  have hzw : ∀ r ∈ Z, RfWf r := fun r hr2 => by rw [← hZ] at hr2; exact refsL_wf hr hr2
  have HH := Lib.hid (⟨hT, hln, hw, hzw⟩ : _ ∧ _ ∧ _ ∧ _)
  rw [hln] at hl HR HI ⊢
  simp only [hZ] at HR HEE ⊢
  clear hT hln hw hZ hr hzw
  have hb0 := heap_alloc_at (w := w) (.cells #[.slice base n cap, .int .i64 m0, .int .i64 m1] 26)
  obtain ⟨W0, hW0⟩ : ∃ W0, w.alloc (Obj.cells #[.slice base n cap, .int .i64 m0, .int .i64 m1] 26) = W0 := ⟨_, rfl⟩
  have hx0 : Ext [] w W0 := by rw [← hW0]; exact (Ext.refl [] w).alloc _
  rw [hW0] at hb0
  have HB := Lib.hid (⟨hx0, hb0⟩ : _ ∧ _)
  have c0 := cellOf hb0 0
  have c1 := cellOf hb0 1
  have c2 := cellOf hb0 2
  clear hx0 hb0
  show Calls _ _ #[.agg #[_, .int .i64 m0, .int .i64 m1]] _ _
  go_enter Tryz.func20, Tryz.ntmps20
  go_upto_region 1 with (fail)
  clear hW0
  have k0 : ∀ y : Ex W0, y.w.cell? ⟨w.heap.size, 0, none⟩ = some (.slice base n cap) := fun y => y.cell c0
  have k1 : ∀ y : Ex W0, y.w.cell? ⟨w.heap.size, 1, none⟩ = some (.int .i64 m0) := fun y => y.cell c1
  have k2 : ∀ y : Ex W0, y.w.cell? ⟨w.heap.size, 2, none⟩ = some (.int .i64 m1) := fun y => y.cell c2
  refine wp_region_perm (C := fun w' => ∃ y : Ex W0, w' = y.w) [0, 2] 5 (by kernel_rfl) (by kernel_rfl) ⟨Ex.mk _ ((Ext.refl [] W0).drew), rfl⟩ ?_
  simp only [pick, List.getElem?_toArray, List.getElem?_cons_zero, List.getElem?_cons_succ, List.drop_succ_cons, List.drop_zero]
  repeat (go_big_quiet_step (fail))
  refine wpQuiet_nil ?_
  clear k0 k1 k2
  have HS0 := Lib.hid ((Sep.start W0).quiet ((Ext.refl [] W0).drew))
  refine anyC_one (f := 2) (i := 1) (by kernel_rfl) (by decide) rfl rfl (fun K hK => ?_)
  go_wp2_with fail
  refine (HR.out _ (HB.out.1.trans HS0.out.ext)).mono ?_
  rintro e w1 ⟨mb, mn, rfl, S1⟩
  have HS1 := Lib.hid (sep_join HS0.out S1)
  clear S1
  go_wp2_with fail
  refine hK _ _ ⟨Ex.mk _ HS1.out.ext, rfl⟩ ?_
  clear hK K
  refine anyC_one (f := 1) (i := 3) (by kernel_rfl) (by decide) rfl rfl (fun K hK => ?_)
  go_wp2_with fail
  refine (HI.out _ (HB.out.1.trans HS1.out.ext)).mono ?_
  rintro e w2 ⟨mi, rfl, S2⟩
  have HS2 := Lib.hid (sep_join HS1.out S2)
  clear S2
  go_wp2_with fail
  refine hK _ _ ⟨Ex.mk _ HS2.out.ext, rfl⟩ ?_
  clear hK K
  refine anyC_one (f := 0) (i := 4) (by kernel_rfl) (by decide) rfl rfl (fun K hK => ?_)
  go_wp2_with fail
  refine hK _ _ ⟨Ex.mk _ HS2.out.ext, rfl⟩ ?_
  clear hK K
  refine anyC_end (by kernel_rfl) ?_
  go_wp2_with fail
  refine NoPanic.normal ?_
  have HM := Lib.hid (HS2.out.get 0 rfl : Mp.MapAt Tryz.prog 24 mkR w2 mi n (idxF L))
  go_wp2_with (first | (at_range; refine Mp.wpList_range_mp rfl _ 56 rfl 33 lawR Tryz.underlying56 rfl HM.out ?_; intro w3 cnt hrg hx3 hsz3))
  go_frame
  have S3 := HS2.out.upd 0 (Mp.oRg Tryz.prog 24 mkR mi w2.heap.size n (idxF L) (fun x => (idxF L x).isSome) cnt) rfl hx3.weak (fun k hk => by
    rcases List.mem_cons.1 hk with rfl | hk
    · exact .inl (by simp [Mp.oMp])
    · obtain rfl : k = w2.heap.size := by simpa using hk
      exact .inr (Nat.le_refl _)) hrg
  obtain ⟨p, hp⟩ : ∃ p, w2.heap.size = p := ⟨_, rfl⟩
  rw [hp] at S3 ⊢
  have HS := Lib.hid S3
  clear S3 hp hrg hx3 hsz3 HM HS0 HS1 HS2 HR HI c0 c1 c2
  go_loopg [5] cnt (fun g v5 wr => ∃ (left : Rf → Bool) (c : Nat), c ≤ g ∧ Sep W0 wr [Mp.oRg Tryz.prog 24 mkR mi p n (idxF L) left c, Mp.oMp Tryz.prog 24 mkR mb mn (leftF Z (fun r => hasO L r && !left r))])
  case atStart =>
    refine ⟨fun x => (idxF L x).isSome, cnt, Nat.le_refl _, ?_⟩
    have e : leftF Z (fun r => hasO L r && !(idxF L r).isSome) = setF Z := by
      rw [← leftF_start]
      congr 1
      funext r
      rw [idx_has]
      cases hasO L r <;> rfl
    rw [e]
    exact HS.out
  case round =>
    clear HS
    obtain ⟨left, c, hcg, S⟩ := hrel
    have HRG := Lib.hid (S.get 0 rfl : Mp.RangeAt Tryz.prog 24 mkR wr mi p n (idxF L) left c)
    have HX := Lib.hid S
    clear S
    go_wp2_with (first | (at_next; refine Mp.wpList_next_mp rfl _ rfl lawR mkR_inj invR rfl HRG.out ?_ ?_))
    · intro hc0 hl0
      have hend := leftF_end (L := L) (Z := Z) (left := left) (fun r hr2 => by
        obtain ⟨kl, hkl⟩ := keyR (HH.out.2.2.2 r hr2)
        exact hl0 r.1 r.2 kl hkl)
      have SE := Sep.tail HX.out
      rw [hend] at SE
      have HE := Lib.hid SE
      clear SE hend hl0 HX HRG
      go_wp2_with fail
      refine (keysRB_walk mb _).mono ?_
      rintro e w8 ⟨rfl, rfl⟩
      have hx8 : Ext [] wr (wr.alloc (.cells #[.map (some mb)] 38)) := (Ext.refl [] wr).alloc _
      have hf : ∀ r, (leftF Z (hasO L) r).isSome = true ↔ r ∈ E := fun r => by
        rw [HEE.out.2.1 r]
        unfold leftF
        split
        · rename_i h; simp [h]
        · rename_i h; constructor
          · intro h2; cases h2
          · intro h2; exact absurd h2 h
      have hmm8 : Mp.MapAt Tryz.prog 24 mkR (wr.alloc (.cells #[.map (some mb)] 38)) mb mn (leftF Z (hasO L)) := (HE.out.quiet hx8).get 0 rfl
      have HSo := Lib.hid (sortedR_walk W0 _ _ E (HE.out.quiet hx8) (keysRB_iter mb mn wr.heap.size (leftF Z (hasO L))) (Go.Proofs.enters_of Tryz.func44 (by kernel_rfl) rfl) (fun k hk => by obtain rfl := List.mem_singleton.1 hk; exact ⟨_, List.mem_singleton.2 rfl, by simp [Mp.oMp]⟩)
        (fun V hv => ⟨hv.keep (heap_alloc_at _) (by simp), hmm8.ext hv (by simp)⟩)
        (fun pre hp => by
          obtain ⟨h1, h2⟩ := chn_nodup hp
          have h3 := List.Nodup.length_le_of_subset (l₂ := Z) h1 (fun r hr => ((HEE.out.2.1 r).1 ((hf r).1 (h2 r hr))).1)
          exact Nat.le_trans h3 HEE.out.2.2.2)
        (fun ys h1 h2 => chn_perm h1 h2 HEE.out.1 hf (fun r hr => keyR (HH.out.2.2.2 r ((HEE.out.2.1 r).1 hr).1))) HEE.out.2.2.1)
      have HX8 := Lib.hid hx8
      clear hx8 hmm8 hf
      go_wp2_with fail
      refine HSo.out.mono ?_
      rintro e w9 ⟨v9, rfl, hx9, hc9⟩
      have HF := Lib.hid (⟨HB.out.1.trans hx9, hc9⟩ : _ ∧ _)
      obtain ⟨b9, c9, rfl, -⟩ := hc9
      clear hx9 HSo
      go_wp2_with fail
      go_ret
      exact ⟨_, rfl, HF.out.1, HF.out.2⟩
    · intro r1 r2 kl v w5 c' hk hlr hfr hrg hlt hx5 hen
      obtain ⟨x, hfx, rfl⟩ := idxF_some hfr
      obtain ⟨g, rfl⟩ : ∃ g, gk = g + 1 := ⟨gk - 1, by omega⟩
      have hhas : hasO L (r1, r2) = true := by rw [hasO, hfx]; rfl
      have S5 := HX.out.upd 0 (Mp.oRg Tryz.prog 24 mkR mi p n (idxF L) (fun y => left y && !decide (y = (r1, r2))) c') rfl (hx5.mono (fun i _ hi => by simp [Mp.oRg] at hi ⊢; exact .inr hi)) (Fr.refl _ _) hrg
      have S6 := S5.quiet ((Ext.refl [] w5).alloc (.cells #[.int .i64 r1, .int .i64 r2] 24))
      have HM6 := Lib.hid (S6.get 1 rfl : Mp.MapAt Tryz.prog 24 mkR _ mb mn (leftF Z (fun r => hasO L r && !left r)))
      obtain ⟨xb, xc, hxv⟩ := oms_tv HH.out.1 (findO_mem hfx).1
      have HE := Lib.hid (⟨S6, hhas, hk⟩ : _ ∧ _ ∧ _)
      clear S5 S6 hrg hx5 hlr hfr hk hfx hhas HX HRG
      obtain ⟨xnum, xgen, xtv, xst, xdt, xtr⟩ := x
      have hxv : xtv = .slice xb xtr.length xc := hxv
      subst hxv
      go_wp2_with (first | (at_delete; refine Mp.wpList_delete_mp rfl _ _ 38 rfl 4 lawR mkR_inj Tryz.underlying38 rfl HM6.out (r1, r2) kl rfl HE.out.2.2 ?_; intro w7 hm7 hx7; rw [leftF_next HE.out.2.1] at hm7; have S7 := HE.out.1.upd 1 (Mp.oMp Tryz.prog 24 mkR mb mn (leftF Z (fun r => hasO L r && !(left r && !decide (r = (r1, r2)))))) rfl hx7 (Fr.refl _ _) hm7; have HS7 := Lib.hid S7; clear S7 hm7 hx7))
      go_roundg g
      case measure => omega
      case rel => exact ⟨_, c', by omega, HS7.out⟩
end Go.Proofs.YtgpgamohcafklaaGreatDoor.Rc
