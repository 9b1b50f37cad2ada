/-
 Texts PgB, PgC, PgD, as far as the statement needs them.
-/
import Derived.Test.YtljachhmdogkdaaGreatDoorQRdA
import Derived.Test.YtljachhmdogkdaaGreatDoorQPkX
import Derived.Test.YtljachhmdogkdaaGreatDoorQTvA
set_option maxRecDepth 100000
set_option maxHeartbeats 64000000
namespace Go.Proofs.YtljachhmdogkdaaGreatDoor
namespace Pg
open Go.RowKit
open Tr
open Rc
theorem sub_le (l:List Nd) (i:Nat):(subN l i).length≤l.length:=by
 unfold subN
 split
 ·rw [List.length_map,List.length_drop,List.length_take]; omega
 ·exact Nat.zero_le _
theorem get_ok {l:List Nd} {s:ByteArray} {v:List Nd} (h:getN l s=some v):isN l 8=true∧∃ k:Nat,k<l.length∧v=subN l k:=by
 unfold getN at h
 split at h
 ·rename_i hf
  have his:isN l 8=true:=by
   cases h8:isN l 8 with
   | true=>rfl
   | false=>
    rw [foundN,Bool.and_eq_true] at hf
    have:=hf.1
    rw [namesN,h8] at this
    simp at this
  obtain⟨hc,-⟩:=is_facts his
  have hlt:findN (namesN l) s<(namesN l).length:=by
   rw [foundN,Bool.and_eq_true] at hf
   simpa using hf.1
  have hnl:=names_len his
  have hkl:2*findN (namesN l) s+1<(ndAt l 0).kids.length:=by omega
  have hcb:=root_kids hc (2*findN (namesN l) s+1) _ (List.getElem?_eq_getElem hkl)
  have hgd:(ndAt l 0).kids.getD (2*findN (namesN l) s+1) 0=(ndAt l 0).kids[2*findN (namesN l) s+1]'hkl:=by rw [List.getD_eq_getElem?_getD,List.getElem?_eq_getElem hkl]; rfl
  rw [hgd] at h
  refine⟨his,((ndAt l 0).kids[2*findN (namesN l) s+1]'hkl).toNat,by omega,(Option.some.inj h).symm⟩
 ·cases h
theorem get_tree {l:List Nd} {s:ByteArray} {v:List Nd} (h:getN l s=some v):checkN v=0∧0<v.length∧v.length≤l.length:=by
 obtain⟨his,k,hk,rfl⟩:=get_ok h
 have hc:=(cuts_ok (is_facts his).1 hk).sub
 exact⟨hc,(check_zero hc).1,sub_le l k⟩
theorem get_lt {l:List Nd} {s:ByteArray} {v:List Nd} (h:getN l s=some v) (hl:Lt l):Lt v:=by
 obtain⟨his,k,hk,rfl⟩:=get_ok h
 refine⟨Nat.le_trans (sub_le l k) hl.len,fun x hx=>?_⟩
 unfold subN at hx
 split at hx
 ·obtain⟨y,hy,rfl⟩:=List.mem_map.1 hx
  exact hl.s y (List.mem_of_mem_take (List.mem_of_mem_drop hy))
 ·cases hx
def kType:ByteArray:=⟨#[84,121,112,101]⟩
def kPage:ByteArray:=⟨#[80,97,103,101]⟩
def kPages:ByteArray:=⟨#[80,97,103,101,115]⟩
def kCatalog:ByteArray:=⟨#[67,97,116,97,108,111,103]⟩
def kKids:ByteArray:=⟨#[75,105,100,115]⟩
def kParent:ByteArray:=⟨#[80,97,114,101,110,116]⟩
def kCount:ByteArray:=⟨#[67,111,117,110,116]⟩
def typeN (l:List Nd) (nm:ByteArray):Bool:=match getN l kType with
 | some v=>((ndAt v 0).kind==6)&&((ndAt v 0).s.toList==nm.toList)
 | none=>false
def pageN (x:Om):Bool:=!x.stream&&typeN x.tree kPage
def nodeN (x:Om):Bool:=!x.stream&&typeN x.tree kPages
def catN (x:Om):Bool:=!x.stream&&typeN x.tree kCatalog
def linkN (x:Nd):Rf×Bool:=((x.n,x.gen),x.kind==9)
def toN (l:List Nd) (nm:ByteArray):Rf×Bool:=match getN l nm with
 | some v=>linkN (ndAt v 0)
 | none=>((0,0),false)
theorem type_walk (v:Value) (l:List Nd) (nm:ByteArray) (w:World) (h:NodesAt w v l) (hl:Lt l) :
  Calls Tryz.prog 46 #[v,.string nm] w fun e w'=>e=.returned (.bool (typeN l nm))∧Ext [] w w':=by
 have HG:=zz (get_walk v l kType w h hl)
 obtain⟨base,cap,rfl,-,-⟩:=h
 obtain⟨R,hR⟩:∃ R,typeN l nm=R:=⟨_,rfl⟩
 rw [hR]
 unfold typeN at hR
 cases hg:getN l kType with
 | none=>
  rw [hg] at HG hR
  simp only [Option.isSome_none,Option.getD_none] at HG hR
  subst hR
  clear hg
  go_enter Tryz.func46,Tryz.ntmps46
  go_wp2_with fail
  refine HG.out.mono ?_
  rintro e w1 ⟨v2,rfl,hx,hN⟩
  obtain⟨tb,tc,rfl,-⟩:=hN
  have HX:=zz hx
  clear hx HG
  go_wp2_with fail
  go_ret
  exact⟨rfl,HX.out⟩
 | some t=>
  rw [hg] at HG hR
  simp only [Option.isSome_some,Option.getD_some] at HG hR
  obtain⟨-,h0,-⟩:=get_tree hg
  clear hg
  obtain⟨x,hx0⟩:∃ x,ndAt t 0=x:=⟨_,rfl⟩
  rw [hx0] at hR
  have HI:=zz3 ⟨h0,hx0,hR⟩
  clear hx0 hR
  go_enter Tryz.func46,Tryz.ntmps46
  go_wp2_with fail
  refine HG.out.mono ?_
  rintro e w1 ⟨v2,rfl,hx,hN⟩
  obtain⟨tb,tc,rfl,-,hN⟩:=hN
  obtain⟨b,q,rfl,d1,d2,d3,d4,-⟩:=node_in hN 0 HI.out.1
  rw [Nat.zero_mul,Nat.add_zero,show ((0:Nat):Int)=0 from rfl,HI.out.2.1] at d1 d4
  obtain⟨m,hm⟩:∃ m,t.length=m:=⟨_,rfl⟩
  have h0:(0:Int)<(m:Int):=by have:=HI.out.1; omega
  rw [hm]
  have HX:=zz hx
  clear hx HG hN hm d2 d3
  obtain⟨xk,xn,xg,xs,xK⟩:=x
  have hR:=HI.out.2.2
  dsimp only at d1 d4 hR
  cases hk:(xk==6) with
  | false=>
   rw [hk,Bool.false_and] at hR
   subst hR
   have HK:=zz hk
   go_wp2_with fail
   go_ret
   exact⟨rfl,HX.out⟩
  | true=>
   rw [hk,Bool.true_and] at hR
   subst hR
   have HK:=zz hk
   go_wp2_with fail
   go_ret
   exact⟨rfl,HX.out⟩
theorem page_walk (x:Om) (w:World) (h:NodesAt w x.tv x.tree) (hl:Lt x.tree) :
  Calls Tryz.prog 14 #[omV x] w fun e w'=>e=.returned (.bool (pageN x))∧Ext [] w w':=by
 have HT:=zz (fun W (hx:Ext [] w W)=>type_walk _ _ kPage W (h.ext hx) hl)
 obtain⟨xn,xg,xv,xs,xd,xt⟩:=x
 obtain⟨b,c,h3⟩:=tree_slice h
 have h3:xv=.slice b xt.length c:=h3
 subst h3
 unfold pageN
 dsimp only at HT ⊢
 generalize typeN xt kPage=R at HT ⊢
 generalize xt.length=m at HT ⊢
 clear h hl
 cases xs with
 | true=>
  go_enter Tryz.func14,Tryz.ntmps14
  go_wp2_with fail
  go_ret
  exact⟨rfl,(Ext.refl [] w).alloc _⟩
 | false=>
  go_enter Tryz.func14,Tryz.ntmps14
  go_wp2_with fail
  refine (HT.out _ ((Ext.refl [] w).alloc _)).mono ?_
  rintro e w1 ⟨rfl,hx⟩
  have HX:=zz (((Ext.refl [] w).alloc _).trans hx)
  clear hx
  go_wp2_with fail
  go_ret
  exact⟨rfl,HX.out⟩
theorem node_walk (x:Om) (w:World) (h:NodesAt w x.tv x.tree) (hl:Lt x.tree) :
  Calls Tryz.prog 84 #[omV x] w fun e w'=>e=.returned (.bool (nodeN x))∧Ext [] w w':=by
 have HT:=zz (fun W (hx:Ext [] w W)=>type_walk _ _ kPages W (h.ext hx) hl)
 obtain⟨xn,xg,xv,xs,xd,xt⟩:=x
 obtain⟨b,c,h3⟩:=tree_slice h
 have h3:xv=.slice b xt.length c:=h3
 subst h3
 unfold nodeN
 dsimp only at HT ⊢
 generalize typeN xt kPages=R at HT ⊢
 generalize xt.length=m at HT ⊢
 clear h hl
 cases xs with
 | true=>
  go_enter Tryz.func84,Tryz.ntmps84
  go_wp2_with fail
  go_ret
  exact⟨rfl,(Ext.refl [] w).alloc _⟩
 | false=>
  go_enter Tryz.func84,Tryz.ntmps84
  go_wp2_with fail
  refine (HT.out _ ((Ext.refl [] w).alloc _)).mono ?_
  rintro e w1 ⟨rfl,hx⟩
  have HX:=zz (((Ext.refl [] w).alloc _).trans hx)
  clear hx
  go_wp2_with fail
  go_ret
  exact⟨rfl,HX.out⟩
theorem cat_walk (x:Om) (w:World) (h:NodesAt w x.tv x.tree) (hl:Lt x.tree) :
  Calls Tryz.prog 65 #[omV x] w fun e w'=>e=.returned (.bool (catN x))∧Ext [] w w':=by
 have HT:=zz (fun W (hx:Ext [] w W)=>type_walk _ _ kCatalog W (h.ext hx) hl)
 obtain⟨xn,xg,xv,xs,xd,xt⟩:=x
 obtain⟨b,c,h3⟩:=tree_slice h
 have h3:xv=.slice b xt.length c:=h3
 subst h3
 unfold catN
 dsimp only at HT ⊢
 generalize typeN xt kCatalog=R at HT ⊢
 generalize xt.length=m at HT ⊢
 clear h hl
 cases xs with
 | true=>
  go_enter Tryz.func65,Tryz.ntmps65
  go_wp2_with fail
  go_ret
  exact⟨rfl,(Ext.refl [] w).alloc _⟩
 | false=>
  go_enter Tryz.func65,Tryz.ntmps65
  go_wp2_with fail
  refine (HT.out _ ((Ext.refl [] w).alloc _)).mono ?_
  rintro e w1 ⟨rfl,hx⟩
  have HX:=zz (((Ext.refl [] w).alloc _).trans hx)
  clear hx
  go_wp2_with fail
  go_ret
  exact⟨rfl,HX.out⟩
theorem sizeRef:(Tryz.prog.info? 24).map (·.size)=some 2:=by kernel_rfl
theorem link_walk (k n g:Int) (s:ByteArray) (kb:Option Addr) (kn kc:Nat) (w:World) :
  Calls Tryz.prog 83 #[.agg #[.int .i64 k,.int .i64 n,.int .i64 g,.string s,.slice kb kn kc]] w fun e w'=>e=.returned (.tuple #[.agg #[.int .i64 n,.int .i64 g],.bool (k==9)])∧Ext [] w w':=by
 obtain⟨W0,hW0⟩:∃ W0,(w.alloc (.cells #[.int .i64 k,.int .i64 n,.int .i64 g,.string s,.slice kb kn kc] 41)).alloc (.cells #[.int .i64 0,.int .i64 0] 24)=W0:=⟨_,rfl⟩
 have hx0:Ext [] w W0:=by rw [←hW0]; exact ((Ext.refl [] w).alloc _).alloc _
 have hbA:W0.heap[w.heap.size]? = some (.cells #[.int .i64 k,.int .i64 n,.int .i64 g,.string s,.slice kb kn kc] 41 (0,0)):=by rw [←hW0]; exact heap_alloc_old _ (heap_alloc_at _)
 have hbB:W0.heap[w.heap.size+1]? = some (.cells #[.int .i64 0,.int .i64 0] 24 (0,0)):=by
  have:=heap_alloc_at (w:=w.alloc (.cells #[.int .i64 k,.int .i64 n,.int .i64 g,.string s,.slice kb kn kc] 41)) (.cells #[.int .i64 0,.int .i64 0] 24)
  rw [show (w.alloc (.cells #[.int .i64 k,.int .i64 n,.int .i64 g,.string s,.slice kb kn kc] 41)).heap.size=w.heap.size+1 from by simp,hW0] at this
  exact this
 go_enter Tryz.func83,Tryz.ntmps83
 go_upto_region 1 with (fail)
 (try rw [hW0])
 have a0:=cellOf hbA 0
 have a1:=cellOf hbA 1
 have a2:=cellOf hbA 2
 have b0:=cellOf hbB 0
 have b1:=cellOf hbB 1
 have f0:=freeOf hbB 0
 have f1:=freeOf hbB 1
 have mixed:Tryz.prog.follows .mixedOrders=true:=by kernel_rfl
 have HX:=zz2 ⟨hx0,hbB⟩
 clear hW0 hx0 hbA hbB
 go_region
 go_wp2_with fail
 (try simp only [Exit.inBlock,Exit.then])
 refine bodyPost_ret (results_row_tmp rfl _ _ (w.heap.size+1) 24 #[.int .i64 n,.int .i64 g] (0,0) _ rfl (heap_drew.trans (heap_setCell_same (heap_setCell_same HX.out.2 _) _)) Tryz.underlying24 rfl sizeRef) rfl ?_
 have hp:w.heap.size≤w.heap.size+1:=by omega
 exact⟨rfl,((HX.out.1.setCell _ _ (.inr hp)).setCell _ _ (.inr hp)).drew⟩
theorem to_walk (v:Value) (l:List Nd) (nm:ByteArray) (w:World) (h:NodesAt w v l) (hl:Lt l) :
  Calls Tryz.prog 48 #[v,.string nm] w fun e w'=>e=.returned (.tuple #[mkR (toN l nm).1,.bool (toN l nm).2])∧Ext [] w w':=by
 have HG:=zz (fun W (hx:Ext [] w W)=>get_walk v l nm W (h.ext hx) hl)
 obtain⟨base,cap,rfl,-,-⟩:=h
 obtain⟨R,hR⟩:∃ R,toN l nm=R:=⟨_,rfl⟩
 rw [hR]
 unfold toN at hR
 have hb0:=heap_alloc_at (w:=w) (.cells #[.int .i64 0,.int .i64 0] 24)
 have hx0:Ext [] w (w.alloc (.cells #[.int .i64 0,.int .i64 0] 24)):=(Ext.refl [] w).alloc _
 have HB:=zz2 ⟨hx0,hb0⟩
 clear hx0 hb0
 cases hg:getN l nm with
 | none=>
  rw [hg] at HG hR
  simp only [Option.isSome_none,Option.getD_none] at HG hR
  subst hR
  clear hg
  go_enter Tryz.func48,Tryz.ntmps48
  go_wp2_with fail
  refine (HG.out _ HB.out.1).mono ?_
  rintro e w1 ⟨v2,rfl,hx,hN⟩
  obtain⟨tb,tc,rfl,-⟩:=hN
  have hb1:=hx.keep HB.out.2 (by simp)
  have b0:=cellOf hb1 0
  have b1:=cellOf hb1 1
  have f0:=freeOf hb1 0
  have f1:=freeOf hb1 1
  have HX:=zz2 ⟨HB.out.1.trans hx,hb1⟩
  clear hx HG hb1
  go_wp2_with fail
  (try simp only [Exit.inBlock,Exit.then])
  refine bodyPost_ret (results_row_tmp rfl _ _ w.heap.size 24 #[.int .i64 0,.int .i64 0] (0,0) _ rfl (heap_setCell_same (heap_setCell_same HX.out.2 _) _) Tryz.underlying24 rfl sizeRef) rfl ?_
  exact⟨rfl,(HX.out.1.setCell _ _ (.inr (Nat.le_refl _))).setCell _ _ (.inr (Nat.le_refl _))⟩
 | some t=>
  rw [hg] at HG hR
  simp only [Option.isSome_some,Option.getD_some] at HG hR
  obtain⟨-,h0,-⟩:=get_tree hg
  clear hg
  obtain⟨x,hx0⟩:∃ x,ndAt t 0=x:=⟨_,rfl⟩
  rw [hx0] at hR
  subst hR
  have HI:=zz2 ⟨h0,hx0⟩
  clear hx0
  obtain⟨xk,xn,xg,xs,xK⟩:=x
  unfold linkN
  dsimp only
  go_enter Tryz.func48,Tryz.ntmps48
  go_wp2_with fail
  refine (HG.out _ HB.out.1).mono ?_
  rintro e w1 ⟨v2,rfl,hx,hN⟩
  obtain⟨tb,tc,rfl,-,hN⟩:=hN
  obtain⟨b,q,rfl,d1,d2,d3,d4,-,kb,kc,d5,-⟩:=node_in hN 0 HI.out.1
  rw [Nat.zero_mul,Nat.add_zero,show ((0:Nat):Int)=0 from rfl,HI.out.2] at d1 d2 d3 d4 d5
  obtain⟨m,hm⟩:∃ m,t.length=m:=⟨_,rfl⟩
  have h0:(0:Int)<(m:Int):=by have:=HI.out.1; omega
  rw [hm]
  have hb1:=hx.keep HB.out.2 (by simp)
  have HX:=zz2 ⟨HB.out.1.trans hx,hb1⟩
  clear hx HG hN hm hb1
  dsimp only at d1 d2 d3 d4 d5
  obtain⟨xl,hxl⟩:∃ xl,xK.length=xl:=⟨_,rfl⟩
  rw [hxl] at d5
  have HLk:=zz (fun W=>link_walk xk xn xg xs kb xl kc W)
  clear hxl
  go_wp2_with fail
  refine (HLk.out _).mono ?_
  rintro e w2 ⟨rfl,hx2⟩
  have hb2:=hx2.keep HX.out.2 (by simp)
  have b0:=cellOf hb2 0
  have b1:=cellOf hb2 1
  have f0:=freeOf hb2 0
  have f1:=freeOf hb2 1
  have HX2:=zz2 ⟨HX.out.1.trans hx2,hb2⟩
  clear hx2 hb2 HX HLk d1 d2 d3 d4 d5
  go_wp2_with fail
  (try simp only [Exit.inBlock,Exit.then])
  refine bodyPost_ret (results_row_tmp rfl _ _ w.heap.size 24 #[.int .i64 xn,.int .i64 xg] (0,0) _ rfl (heap_setCell_same (heap_setCell_same HX2.out.2 _) _) Tryz.underlying24 rfl sizeRef) rfl ?_
  exact⟨rfl,(HX2.out.1.setCell _ _ (.inr (Nat.le_refl _))).setCell _ _ (.inr (Nat.le_refl _))⟩
theorem of_walk (x:Om) (w:World) (hs:∃ b n c,x.tv=.slice b n c) :
  Calls Tryz.prog 29 #[omV x] w fun e w'=>e=.returned (mkR (x.num,x.gen))∧Ext [] w w':=by
 obtain⟨xn,xg,xv,xs,xd,xt⟩:=x
 obtain⟨tb,tn,tc,rfl⟩:∃ b n c,xv=.slice b n c:=hs
 have hbB:=heap_alloc_at (w:=w.alloc (.cells #[.int .i64 xn,.int .i64 xg,.slice tb tn tc,.bool xs,.string xd] 35)) (.cells #[.int .i64 xn,.int .i64 xg] 24)
 rw [show (w.alloc (.cells #[.int .i64 xn,.int .i64 xg,.slice tb tn tc,.bool xs,.string xd] 35)).heap.size=w.heap.size+1 from by simp] at hbB
 have HX:=zz hbB
 clear hbB
 go_enter Tryz.func29,Tryz.ntmps29
 go_wp2_with fail
 (try simp only [Exit.inBlock,Exit.then])
 refine bodyPost_ret (results_cell_row rfl _ _ (w.heap.size+1) 24 #[.int .i64 xn,.int .i64 xg] (0,0) _ rfl HX.out Tryz.underlying24 rfl sizeRef) rfl ?_
 exact⟨rfl,((Ext.refl [] w).alloc _).alloc _⟩
def kidF (v:List Nd) (K:List Int):List Rf×Bool:=K.foldl (fun st k=>if (linkN (ndAt v k)).2=true then (st.1++[(linkN (ndAt v k)).1],st.2) else (st.1,false)) ([],true)
def kidsN (l:List Nd):List Rf×Bool×Bool:=match getN l kKids with
 | some v=>if (ndAt v 0).kind=7 then ((kidF v (ndAt v 0).kids).1,true,(kidF v (ndAt v 0).kids).2) else ([],false,false)
 | none=>([],false,false)
theorem kidF_snoc (v:List Nd) (K:List Int) (k:Int):kidF v (K++[k])=if (linkN (ndAt v k)).2=true then ((kidF v K).1++[(linkN (ndAt v k)).1],(kidF v K).2) else ((kidF v K).1,false):=by
 unfold kidF
 rw [List.foldl_append]
 rfl
theorem kidF_len (v:List Nd):∀ K:List Int,(kidF v K).1.length≤K.length:=by
 have h:∀ (K:List Int) (st:List Rf×Bool),(K.foldl (fun st k=>if (linkN (ndAt v k)).2=true then (st.1++[(linkN (ndAt v k)).1],st.2) else (st.1,false)) st).1.length≤st.1.length+K.length:=by
  intro K
  induction K with
  | nil=>intro st; simp
  | cons k K ih=>
   intro st
   rw [List.foldl_cons]
   refine Nat.le_trans (ih _) ?_
   split <;> simp <;> omega
 intro K
 have:=h K ([],true)
 rw [List.length_nil,Nat.zero_add] at this
 exact this
theorem kids_walk (v:Value) (l:List Nd) (w:World) (h:NodesAt w v l) (hl:Lt l) :
  Calls Tryz.prog 60 #[v] w fun e w'=>∃ v2,e=.returned (.tuple #[v2,.bool (kidsN l).2.1,.bool (kidsN l).2.2])∧Sep w w' [oSl 24 2 v2 (kidsN l).1.length (rfC (kidsN l).1)]:=by
 obtain⟨j0,hjf,hy0,hy1,hy2⟩:=info_parts infoRef17
 have HG:=zz (get_walk v l kKids w h hl)
 obtain⟨base,cap,rfl,-,-⟩:=h
 have hnil:∀ W:World,Ext [] w W→Sep w W [oSl 24 2 (.slice none 0 0) 0 (rfC [])]:=fun W hW=>((Sep.start w).quiet hW).new (Ext.refl _ _) (oSl 24 2 (.slice none 0 0) 0 (rfC [])) (World.ownsRow_nil _ _ _ _) (fun q hq=>by simp [oSl,Value.ownBlock] at hq)
 have HNil:=zz hnil
 obtain⟨R,hR⟩:∃ R,kidsN l=R:=⟨_,rfl⟩
 rw [hR]
 unfold kidsN at hR
 clear hnil
 cases hg:getN l kKids with
 | none=>
  rw [hg] at HG hR
  simp only [Option.isSome_none,Option.getD_none] at HG hR
  subst hR
  clear hg
  go_enter Tryz.func60,Tryz.ntmps60
  go_wp2_with fail
  refine HG.out.mono ?_
  rintro e w1 ⟨v2,rfl,hx,hN⟩
  obtain⟨tb,tc,rfl,-⟩:=hN
  have HX:=zz hx
  clear hx HG
  go_wp2_with fail
  go_ret3
  exact⟨_,rfl,HNil.out _ HX.out⟩
 | some t=>
  rw [hg] at HG hR
  simp only [Option.isSome_some,Option.getD_some] at HG hR
  obtain⟨hct,h0,-⟩:=get_tree hg
  have hrk:=root_kids hct
  have hrl:=root_len hct
  clear hg
  by_cases hk7:(ndAt t 0).kind=7
  case neg=>
   rw [if_neg hk7] at hR
   subst hR
   have HI:=zz2 ⟨h0,hk7⟩
   clear hk7 hct hrk hrl
   go_enter Tryz.func60,Tryz.ntmps60
   go_wp2_with fail
   refine HG.out.mono ?_
   rintro e w1 ⟨v2,rfl,hx,hN⟩
   obtain⟨tb,tc,rfl,-,hN⟩:=hN
   obtain⟨b,q,rfl,d1,-⟩:=node_in hN 0 HI.out.1
   rw [Nat.zero_mul,Nat.add_zero,show ((0:Nat):Int)=0 from rfl] at d1
   obtain⟨k,hk⟩:∃ k,(ndAt t 0).kind=k:=⟨_,rfl⟩
   have hkb:(k != 7)=true:=bne_iff_ne.2 (by rw [←hk]; exact HI.out.2)
   rw [hk] at d1
   obtain⟨m,hm⟩:∃ m,t.length=m:=⟨_,rfl⟩
   have h0:(0:Int)<(m:Int):=by have:=HI.out.1; omega
   rw [hm]
   have HX:=zz hx
   clear hx HG hN hm hk
   go_wp2_with fail
   go_ret3
   exact⟨_,rfl,HNil.out _ HX.out⟩
  case pos=>
  rw [if_pos hk7] at hR
  obtain⟨K,hK⟩:∃ K,(ndAt t 0).kids=K:=⟨_,rfl⟩
  rw [hK] at hR hrk hrl
  obtain⟨n,hn⟩:∃ n,K.length=n:=⟨_,rfl⟩
  obtain⟨m,hm⟩:∃ m,t.length=m:=⟨_,rfl⟩
  rw [hn] at hrl
  have HI:=zz7 ⟨h0,hk7,hK,hrk,hn,hR,hm⟩
  clear hk7 hct hrk hK hR
  go_enter Tryz.func60,Tryz.ntmps60
  go_wp2_with fail
  refine HG.out.mono ?_
  rintro e w1 ⟨v2,rfl,hx,hN⟩
  obtain⟨tb,tc,rfl,-,hN⟩:=hN
  obtain⟨b,q,rfl,d1,-,-,-,-,kb,kc,d5,hIn⟩:=node_in hN 0 HI.out.1
  rw [Nat.zero_mul,Nat.add_zero,show ((0:Nat):Int)=0 from rfl] at d1 d5
  rw [show ((0:Nat):Int)=0 from rfl,HI.out.2.2.1] at hIn
  rw [HI.out.2.1] at d1
  rw [HI.out.2.2.1,HI.out.2.2.2.2.1] at d5
  have hmz:(0:Int)<(m:Int):=by omega
  rw [hm]
  have HX:=zz3 ⟨hx,hN,hIn⟩
  have HS:=zz ((Sep.start w1).new (Ext.refl _ _) (oSl 24 2 (.slice none 0 0) 0 (rfC [])) (World.ownsRow_nil _ _ _ _) (fun q hq=>by simp [oSl,Value.ownBlock] at hq))
  clear hx HG hN hIn HNil hn hm
  go_wp2_with fail
  go_loopg [2,4,8,9,10,30] n (fun g v2 v4 v8 v9 v10 iv wr=>∃ (i:Nat) (A:List Rf) (al:Bool),g+i=n∧iv=.int .i64 i∧v4=.bool al∧kidF t (K.take i)=(A,al)∧Sep w1 wr [oSl 24 2 v2 A.length (rfC A)])
  case atStart=>exact⟨0,[],true,by omega,rfl,rfl,rfl,HS.out⟩
  case round=>
   clear HS
   obtain⟨i,A,al,hgi,rfl,rfl,hA,S⟩:=hrel
   have hr0:wr.ownsRow 0 24 2 u2 A.length (rfC A):=S.get 0 rfl
   obtain⟨ab,ac,rfl⟩:=row_slice hr0
   by_cases hlt:i<n
   case neg=>
    obtain rfl:gk=0:=by omega
    rw [List.take_of_length_le (by rw [HI.out.2.2.2.2.1]; omega)] at hA
    have hR:=HI.out.2.2.2.2.2.1
    rw [hA] at hR
    subst hR
    have HF:=zz (Sep.since HX.out.1 S)
    clear S hA hr0
    go_wp2_with fail
    go_ret3
    exact⟨_,rfl,HF.out⟩
   case pos=>
   obtain⟨g,rfl⟩:∃ g,gk=g+1:=⟨gk - 1,by omega⟩
   have hltz:(i:Int)<(n:Int):=by omega
   have hik:i<K.length:=by rw [HI.out.2.2.2.2.1]; exact hlt
   obtain⟨b5,o5,rfl,c5⟩:=HX.out.2.2 i hik
   have hcb:=HI.out.2.2.2.1 i _ (List.getElem?_eq_getElem hik)
   have htk:kidF t (K.take (i+1))=if (linkN (ndAt t (K[i]'hik))).2=true then (A++[(linkN (ndAt t (K[i]'hik))).1],al) else (A,false):=by rw [List.take_succ_eq_append_getElem hik,kidF_snoc,hA]
   have hAl:=kidF_len t (K.take i)
   rw [hA,List.length_take] at hAl
   generalize K[i]'hik=cI at *
   obtain⟨c,rfl⟩:∃ c:Nat,cI=(c:Int):=⟨cI.toNat,by omega⟩
   obtain⟨b',q',he,d1',d2',d3',d4',-,kb',kc',d5',-⟩:=node_in HX.out.2.1 c (by omega)
   obtain⟨rfl,rfl⟩:b=b'∧q=q':=by simpa using he
   have e1:=S.ext.cell d1'
   have e2:=S.ext.cell d2'
   have e3:=S.ext.cell d3'
   have e4:=S.ext.cell d4'
   have e5:=S.ext.cell d5'
   have c5:=S.ext.cell c5
   have hcm:(c:Int)<(m:Int):=by rw [←HI.out.2.2.2.2.2.2]; exact hcb.2
   have hc0:(0:Int)≤(c:Int):=by omega
   obtain⟨x,hx0⟩:∃ x,ndAt t (c:Int)=x:=⟨_,rfl⟩
   rw [hx0] at htk e1 e2 e3 e4 e5
   obtain⟨xk,xn,xg,xs,xK⟩:=x
   dsimp only at e1 e2 e3 e4 e5
   obtain⟨xl,hxl⟩:∃ xl,xK.length=xl:=⟨_,rfl⟩
   rw [hxl] at e5
   have HLk:=link_walk xk xn xg xs kb' xl kc'
   obtain⟨al2,hal⟩:∃ al2,A.length=al2:=⟨_,rfl⟩
   rw [hal] at hr0 hAl ⊢
   have hAn:al2≤65536:=by omega
   have HT:=zz4 ⟨htk,S,hr0,hal⟩
   clear hxl htk S hr0 hA hx0 he d1' d2' d3' d4' d5' hcb hal hAl
   unfold linkN at HT
   dsimp only at HT
   cases hb9:(xk==9) with
   | false=>
    rw [hb9] at HT HLk
    have HLk:=zz HLk
    clear hb9
    go_wp2_with fail
    refine (HLk.out _).mono ?_
    rintro e w2 ⟨rfl,hx2⟩
    have HX2:=zz hx2
    clear hx2 HLk e1 e2 e3 e4 e5 c5
    go_wp2_with fail
    go_roundg g
    case measure=>omega
    case rel=>exact⟨i+1,A,false,by omega,by go_num,rfl,by simpa using HT.out.1,by
     have:=HT.out.2.1.quiet (HX2.out.alloc (.cells #[.int .i64 xn,.int .i64 xg] 24))
     rw [HT.out.2.2.2] at this ⊢
     exact this⟩
   | true=>
    rw [hb9] at HT HLk
    have HLk:=zz HLk
    clear hb9
    go_wp2_with fail
    refine (HLk.out _).mono ?_
    rintro e w2 ⟨rfl,hx2⟩
    have S2:=HT.out.2.1.quiet (hx2.alloc (.cells #[.int .i64 xn,.int .i64 xg] 24))
    have hr2:(w2.alloc (.cells #[.int .i64 xn,.int .i64 xg] 24)).ownsRow 0 24 2 (.slice ab A.length ac) A.length (rfC A):=S2.get 0 rfl
    rw [HT.out.2.2.2] at hr2 S2
    have HX2:=zz2 ⟨S2,hr2⟩
    clear hx2 HLk e1 e2 e3 e4 e5 c5 S2 hr2
    go_upto_region 10 with (fail)
    obtain⟨W,hW⟩:∃ W,w2.alloc (.cells #[.int .i64 xn,.int .i64 xg] 24)=W:=⟨_,rfl⟩
    have hbW:W.heap[w2.heap.size]? = some (.cells #[.int .i64 xn,.int .i64 xg] 24 (0,0)):=by rw [←hW]; exact heap_alloc_at _
    obtain⟨p,hp⟩:∃ p,w2.heap.size=p:=⟨_,rfl⟩
    rw [hW] at HX2 ⊢
    rw [hp] at hbW ⊢
    have k0:=cellOf hbW 0
    have k1:=cellOf hbW 1
    clear hW hp hbW
    go_wp2_with (first | (at_builtin; refine wpList_append_lies _ rfl _ _ 36 rfl 0 24 j0 _ 2 16 Tryz.underlying36 hjf hy0 hy1 hy2 rfl (by decide) (.slice ab al2 ac) al2 _ rfl (World.ownsRow.alloc HX2.out.2 _) ⟨W.heap.size,0,none⟩ 1 1 [.int .i64 xn,.int .i64 xg] rfl rfl (World.news_of_block (heap_alloc_at (w:=W) _)) (by simp [Value.oneCell']) (by decide) (by unfold maxLen; omega) (by omega) (by omega) (W.heap.size+1) (by simp) ?_; intro g6 cap2 w9 hown1 hgrow hat6 hlt6; have HGr:=zz3 ⟨hown1,hgrow,hat6⟩; clear hown1 hgrow hat6 hlt6 k0 k1))
    have Pl:=push_local (cap:=cap2) (n:=al2+1) HGr.out.2.1 HGr.out.2.2
    have hl1:(A++[((xn,xg):Rf)]).length=al2+1:=by rw [List.length_append,HT.out.2.2.2]; rfl
    have S9:=HX2.out.1.upd 0 (oSl 24 2 (.slice (some ⟨g6,0,none⟩) (al2+1) cap2) (A++[((xn,xg):Rf)]).length (rfC (A++[((xn,xg):Rf)]))) rfl Pl.1 Pl.2 (by
     show World.ownsRow _ 0 24 2 _ _ _
     rw [hl1,rfC_append]
     exact HGr.out.1)
    have HS9:=zz S9
    clear S9 Pl
    go_roundg g
    case measure=>omega
    case rel=>exact⟨i+1,_,al,by omega,by go_num,rfl,by simpa using HT.out.1,HS9.out⟩
end Pg
end Go.Proofs.YtljachhmdogkdaaGreatDoor
