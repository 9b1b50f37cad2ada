/-
 Texts PgJ, PgK, PgL, PgM, as far as the statement needs them.
-/
import Derived.Test.YtljachhmdogkdaaGreatDoorQPgI
set_option maxRecDepth 100000
set_option maxHeartbeats 64000000
namespace Go.Proofs.YtljachhmdogkdaaGreatDoor
namespace Pg
open Go.RowKit
open Tr
open Rc
def kLength:ByteArray:=⟨#[76,101,110,103,116,104]⟩
def kObjStm:ByteArray:=⟨#[79,98,106,83,116,109]⟩
def kXRef:ByteArray:=⟨#[88,82,101,102]⟩
def hidN (x:Om):Bool:=x.stream&&(typeN x.tree kObjStm||typeN x.tree kXRef)
def putN (x:Om):Int:=
 if x.num<1∨x.num>8388607∨x.gen<0∨x.gen>65535 then 2 else
 if checkN x.tree≠0 then checkN x.tree else
 if ((!x.stream && !x.data.toList.isEmpty)||(x.stream&&((getN x.tree kLength).isSome||((ndAt x.tree 0).kind != 8))))=true then 2 else
 if x.data.size>1048576 then 3 else 0
theorem named_walk (v:Value) (l:List Nd) (nm:ByteArray) (w:World) (h:NodesAt w v l) (hl:Lt l) :
  Calls Tryz.prog 92 #[v,.string nm] w fun e w'=>e=.returned (.bool (typeN l nm))∧Ext [] w w':=by
 have HG:=zz (get_walk v l kType w h hl)
 obtain⟨base,cap,rfl,-,-⟩:=h
 obtain⟨R,hR⟩:∃ R,typeN l nm=R:=⟨_,rfl⟩
 rw [hR]
 unfold typeN at hR
 cases hg:getN l kType with
 | none=>
  rw [hg] at HG hR
  simp only [Option.isSome_none,Option.getD_none] at HG hR
  subst hR
  clear hg
  go_enter Tryz.func92,Tryz.ntmps92
  go_wp2_with fail
  refine HG.out.mono ?_
  rintro e w1 ⟨v2,rfl,hx,hN⟩
  obtain⟨tb,tc,rfl,-⟩:=hN
  have HX:=zz hx
  clear hx HG
  go_wp2_with fail
  go_ret
  exact⟨rfl,HX.out⟩
 | some t=>
  rw [hg] at HG hR
  simp only [Option.isSome_some,Option.getD_some] at HG hR
  obtain⟨-,h0,-⟩:=get_tree hg
  clear hg
  obtain⟨x,hx0⟩:∃ x,ndAt t 0=x:=⟨_,rfl⟩
  rw [hx0] at hR
  have HI:=zz3 ⟨h0,hx0,hR⟩
  clear hx0 hR
  go_enter Tryz.func92,Tryz.ntmps92
  go_wp2_with fail
  refine HG.out.mono ?_
  rintro e w1 ⟨v2,rfl,hx,hN⟩
  obtain⟨tb,tc,rfl,-,hN⟩:=hN
  obtain⟨b,q,rfl,d1,d2,d3,d4,-⟩:=node_in hN 0 HI.out.1
  rw [Nat.zero_mul,Nat.add_zero,show ((0:Nat):Int)=0 from rfl,HI.out.2.1] at d1 d4
  obtain⟨m,hm⟩:∃ m,t.length=m:=⟨_,rfl⟩
  have h0:(0:Int)<(m:Int):=by have:=HI.out.1; omega
  rw [hm]
  have HX:=zz hx
  clear hx HG hN hm d2 d3
  obtain⟨xk,xn,xg,xs,xK⟩:=x
  have hR:=HI.out.2.2
  dsimp only at d1 d4 hR
  cases hk:(xk==6) with
  | false=>
   rw [hk,Bool.false_and] at hR
   subst hR
   have HK:=zz hk
   go_wp2_with fail
   go_ret
   exact⟨rfl,HX.out⟩
  | true=>
   rw [hk,Bool.true_and] at hR
   subst hR
   have HK:=zz hk
   go_wp2_with fail
   go_ret
   exact⟨rfl,HX.out⟩
theorem hidden_walk (x:Om) (w:World) (h:NodesAt w x.tv x.tree) (hl:Lt x.tree) :
  Calls Tryz.prog 58 #[omV x] w fun e w'=>e=.returned (.bool (hidN x))∧Ext [] w w':=by
 have HT:=zz (fun W (hx:Ext [] w W)=>named_walk _ _ kObjStm W (h.ext hx) hl)
 have HU:=zz (fun W (hx:Ext [] w W)=>named_walk _ _ kXRef W (h.ext hx) hl)
 obtain⟨xn,xg,xv,xs,xd,xt⟩:=x
 obtain⟨b,c,h3⟩:=tree_slice h
 have h3:xv=.slice b xt.length c:=h3
 subst h3
 unfold hidN
 dsimp only at HT HU ⊢
 generalize typeN xt kObjStm=R at HT ⊢
 generalize typeN xt kXRef=R2 at HU ⊢
 generalize xt.length=m at HT HU ⊢
 clear h hl
 have hbx:=heap_alloc_at (w:=w) (.cells #[.int .i64 xn,.int .i64 xg,.slice b m c,.bool xs,.string xd] 35)
 have HB:=zz hbx
 clear hbx
 cases xs with
 | false=>
  go_enter Tryz.func58,Tryz.ntmps58
  go_wp2_with fail
  go_ret
  exact⟨rfl,(Ext.refl [] w).alloc _⟩
 | true=>
  go_enter Tryz.func58,Tryz.ntmps58
  go_wp2_with fail
  refine (HT.out _ ((Ext.refl [] w).alloc _)).mono ?_
  rintro e w1 ⟨rfl,hx⟩
  have HX:=zz (((Ext.refl [] w).alloc _).trans hx)
  have b2:=cellOf (hx.keep HB.out (by simp)) 2
  clear hx
  cases R with
  | true=>
   go_wp2_with fail
   go_ret
   exact⟨rfl,HX.out⟩
  | false=>
   go_wp2_with fail
   refine (HU.out _ HX.out).mono ?_
   rintro e w2 ⟨rfl,hx⟩
   have HX2:=zz (HX.out.trans hx)
   clear hx b2
   go_wp2_with fail
   go_ret
   exact⟨rfl,HX2.out⟩
theorem putcheck_walk (x:Om) (w:World) (h:NodesAt w x.tv x.tree) (hl:Lt x.tree) :
  Calls Tryz.prog 57 #[omV x] w fun e w'=>e=.returned (.int .i64 (putN x))∧Ext [] w w':=by
 have HC:=zz (fun W (hx:Ext [] w W)=>check_walk _ _ W (h.ext hx) hl.len hl.s)
 have HG:=zz (fun W (hx:Ext [] w W)=>get_walk _ _ kLength W (h.ext hx) hl)
 obtain⟨R,hR⟩:∃ R,putN x=R:=⟨_,rfl⟩
 rw [hR]
 obtain⟨xn,xg,xv,xs,xd,xt⟩:=x
 obtain⟨b,c,h3⟩:=tree_slice h
 have h3:xv=.slice b xt.length c:=h3
 subst h3
 unfold putN at hR
 dsimp only at HC HG hR
 have HN:=zz h
 obtain⟨m,hm⟩:∃ m,xt.length=m:=⟨_,rfl⟩
 have HM:=zz hm
 rw [hm] at HC HG
 show Calls _ _ #[.agg #[.int .i64 xn,.int .i64 xg,.slice b xt.length c,.bool xs,.string xd]] _ _
 rw [hm]
 have hbx:=heap_alloc_at (w:=w) (.cells #[.int .i64 xn,.int .i64 xg,.slice b m c,.bool xs,.string xd] 35)
 have HB:=zz hbx
 clear hbx h hl hm
 by_cases hbad:xn<1∨xn>8388607∨xg<0∨xg>65535
 case pos=>
  rw [if_pos hbad] at hR
  subst hR
  by_cases g1:xn<1
  ·clear hbad
   go_enter Tryz.func57,Tryz.ntmps57
   go_wp2_with fail
   go_ret
   exact⟨rfl,(Ext.refl [] w).alloc _⟩
  by_cases g2:xn>8388607
  ·clear hbad
   go_enter Tryz.func57,Tryz.ntmps57
   go_wp2_with fail
   go_ret
   exact⟨rfl,(Ext.refl [] w).alloc _⟩
  by_cases g3:xg<0
  ·clear hbad
   go_enter Tryz.func57,Tryz.ntmps57
   go_wp2_with fail
   go_ret
   exact⟨rfl,(Ext.refl [] w).alloc _⟩
  have g4:xg>65535:=by omega
  clear hbad
  go_enter Tryz.func57,Tryz.ntmps57
  go_wp2_with fail
  go_ret
  exact⟨rfl,(Ext.refl [] w).alloc _⟩
 case neg=>
 rw [if_neg hbad] at hR
 have g1:¬ xn<1:=by omega
 have g2:¬ xn>8388607:=by omega
 have g3:¬ xg<0:=by omega
 have g4:¬ xg>65535:=by omega
 clear hbad
 obtain⟨ce,hce⟩:∃ ce,checkN xt=ce:=⟨_,rfl⟩
 rw [hce] at HC hR
 go_enter Tryz.func57,Tryz.ntmps57
 go_wp2_with fail
 refine (HC.out _ ((Ext.refl [] w).alloc _)).mono ?_
 rintro e w1 ⟨rfl,hx⟩
 have hb1:=hx.keep HB.out (by simp)
 have hN1:=HN.out.ext (((Ext.refl [] w).alloc _).trans hx)
 have HX:=zz3 ⟨((Ext.refl [] w).alloc _).trans hx,hb1,hN1⟩
 have b2:=cellOf hb1 2
 clear hx hb1 hN1
 by_cases hc0:ce=0
 case neg=>
  rw [if_pos hc0] at hR
  subst hR
  have hcb:(ce != 0)=true:=bne_iff_ne.2 hc0
  clear hc0
  go_wp2_with fail
  go_ret
  exact⟨rfl,HX.out.1⟩
 case pos=>
 rw [if_neg (by simp [hc0])] at hR
 subst hc0
 obtain⟨has,hhas⟩:∃ b,(getN xt kLength).isSome=b:=⟨_,rfl⟩
 rw [hhas] at HG hR
 obtain⟨hpos,-⟩:=check_zero hce
 clear hhas
 go_wp2_with fail
 refine (HG.out _ HX.out.1).mono ?_
 rintro e w2 ⟨v2,rfl,hx,hN⟩
 obtain⟨tb,tc,rfl,-⟩:=hN
 have hb2:=hx.keep HX.out.2.1 (by simp)
 have hN2:=HX.out.2.2.ext hx
 obtain⟨base,cap,hsl,-,hIn⟩:=hN2
 obtain⟨zb,zq,he,z1,-⟩:=node_in hIn 0 hpos
 rw [Nat.zero_mul,Nat.add_zero,show ((0:Nat):Int)=0 from rfl] at z1
 subst he
 obtain⟨rfl,-,rfl⟩:b=some ⟨zb,zq,none⟩∧xt.length=xt.length∧c=cap:=by simpa using hsl
 obtain⟨k0,hk0⟩:∃ k,(ndAt xt 0).kind=k:=⟨_,rfl⟩
 rw [hk0] at z1 hR
 have hmz:(0:Int)<(m:Int):=by have:=HM.out; omega
 have HX2:=zz (HX.out.1.trans hx)
 have b2:=cellOf hb2 2
 have b3:=cellOf hb2 3
 have b4:=cellOf hb2 4
 clear HX hx hb2 hsl hIn hpos hce hk0 HC HG HB
 cases xs with
 | false=>
  cases hdb:xd.toList.isEmpty with
  | false=>
   rw [hdb] at hR
   rw [if_pos (by simp)] at hR
   subst hR
   go_wp2_with fail
   go_ret
   exact⟨rfl,HX2.out⟩
  | true=>
   rw [hdb] at hR
   rw [if_neg (by simp)] at hR
   by_cases hsz:xd.size>1048576
   ·have hz:(1048576:Int)<(xd.size:Int):=by omega
    rw [if_pos hsz] at hR
    subst hR
    go_wp2_with fail
    go_ret
    exact⟨rfl,HX2.out⟩
   ·have hz:¬ (1048576:Int)<(xd.size:Int):=by omega
    rw [if_neg hsz] at hR
    subst hR
    go_wp2_with fail
    go_ret
    exact⟨rfl,HX2.out⟩
 | true=>
  cases has with
  | true=>
   rw [if_pos (by simp)] at hR
   subst hR
   go_wp2_with fail
   go_ret
   exact⟨rfl,HX2.out⟩
  | false=>
   cases hk8:(k0 != 8) with
   | true=>
    rw [hk8] at hR
    rw [if_pos (by simp)] at hR
    subst hR
    go_wp2_with fail
    go_ret
    exact⟨rfl,HX2.out⟩
   | false=>
    rw [hk8] at hR
    rw [if_neg (by simp)] at hR
    by_cases hsz:xd.size>1048576
    ·have hz:(1048576:Int)<(xd.size:Int):=by omega
     rw [if_pos hsz] at hR
     subst hR
     go_wp2_with fail
     go_ret
     exact⟨rfl,HX2.out⟩
    ·have hz:¬ (1048576:Int)<(xd.size:Int):=by omega
     rw [if_neg hsz] at hR
     subst hR
     go_wp2_with fail
     go_ret
     exact⟨rfl,HX2.out⟩
def badS (p:Option Int) (x:Om):Bool:=(match p with | some q=>decide (x.num≤q) | none=>false)||(putN x != 0)||hidN x
def strictF:Option Int→List Om→Bool
 | _,[]=>true
 | p,x::r=>!badS p x&&strictF (some x.num) r
def strictN (L:List Om):Int:=if strictF none L=true then 0 else 2
def prevN (L:List Om):Nat→Option Int
 | 0=>none
 | j+1=>(L[j]?).map (·.num)
theorem strict_walk (v:Value) (L:List Om) (m0 m1:Int) (w:World) (h:OmsAt w v L) (hw:∀ x∈L,OmWf x) (hl:L.length≤100000) :
  Calls Tryz.prog 22 #[.agg #[v,.int .i64 m0,.int .i64 m1]] w fun e w'=>e=.returned (.int .i64 (strictN L))∧Ext [] w w':=by
 obtain⟨base,cap,rfl,-,hT⟩:=h
 obtain⟨n,hln⟩:∃ n,L.length=n:=⟨_,rfl⟩
 obtain⟨R,hR⟩:∃ R,strictF none L=R:=⟨_,rfl⟩
 obtain⟨RV,hRV⟩:∃ RV,strictN L=RV:=⟨_,rfl⟩
 have HH:=zz5 ⟨hT,hln,hw,hR,hRV⟩
 rw [hln] at hl ⊢
 rw [hRV]
 clear hT hln hw hR hRV
 obtain⟨gb,hgb⟩:∃ p,w.heap.size=p:=⟨_,rfl⟩
 have hb0:=heap_alloc_at (w:=w) (.cells #[.slice base n cap,.int .i64 m0,.int .i64 m1] 26)
 rw [hgb] at hb0
 have hx0:Ext [] w (w.alloc (.cells #[.slice base n cap,.int .i64 m0,.int .i64 m1] 26)):=(Ext.refl [] w).alloc _
 go_enter Tryz.func22,Tryz.ntmps22
 go_wp2_with fail
 refine gen_world (fun w0 hw0=>?_)
 rw [hw0] at hb0 hx0
 have HB:=zz2 ⟨hb0,hx0⟩
 clear hb0 hx0 hw0 hgb
 go_loopg [2,3,4,8] n (fun g v2 v3 v4 iv wr=>∃ i:Nat,g+i=n∧iv=.int .i64 i∧v2=.int .i64 0∧strictF (prevN L i) (L.drop i)=R∧Ext [] w0 wr)
 case atStart=>exact⟨0,by omega,rfl,rfl,HH.out.2.2.2.1,Ext.refl _ _⟩
 case round=>
  obtain⟨i,hgi,rfl,rfl,hR,hx⟩:=hrel
  by_cases hlt:i<n
  case neg=>
   obtain rfl:gk=0:=by omega
   rw [List.drop_of_length_le (by rw [HH.out.2.1]; omega)] at hR
   have hR2:true=R:=hR
   have hV:RV=0:=by rw [←HH.out.2.2.2.2,strictN,HH.out.2.2.2.1,←hR2]; rfl
   subst hV
   have HF:=zz (HB.out.2.trans hx)
   clear hx hR hR2
   go_wp2_with fail
   go_ret
   exact⟨rfl,HF.out⟩
  case pos=>
  obtain⟨g,rfl⟩:∃ g,gk=g+1:=⟨gk - 1,by omega⟩
  have hltz:(i:Int)<(n:Int):=by omega
  have hil:i<L.length:=by rw [HH.out.2.1]; exact hlt
  obtain⟨b,o,hbase,n1,n2,n3,n4,n5,hN⟩:=HH.out.1.ext (HB.out.2.trans hx) i hil
  have hwx:=(HH.out.2.2.1 _ (List.getElem_mem hil)).lt
  have hpv:prevN L (i+1)=some (L[i]'hil).num:=by rw [prevN,List.getElem?_eq_getElem hil]; rfl
  rw [List.drop_eq_getElem_cons hil,strictF] at hR
  have hprev:∀ j,i=j+1→∃ q:Int,prevN L i=some q∧wr.cell? ⟨b,o+j*5,none⟩=some (.int .i64 q):=fun j hj=>by
   subst hj
   have hjl:j<L.length:=by omega
   obtain⟨b',o',hb',k1,-⟩:=HH.out.1.ext (HB.out.2.trans hx) j hjl
   rw [hbase] at hb'
   obtain⟨rfl,rfl⟩:b=b'∧o=o':=by simpa using hb'
   exact⟨_,by rw [prevN,List.getElem?_eq_getElem hjl]; rfl,k1⟩
  subst hbase
  generalize L[i]'hil=x at *
  obtain⟨tb,tc,htv⟩:=tree_slice hN
  obtain⟨num,gen,tv,st,dt,tr⟩:=x
  have htv:tv=.slice tb tr.length tc:=htv
  subst htv
  obtain⟨bd,hbd⟩:∃ bd,badS (prevN L i) ⟨num,gen,.slice tb tr.length tc,st,dt,tr⟩=bd:=⟨_,rfl⟩
  have HN:=zz2 ⟨hN,hwx⟩
  obtain⟨tn,htn⟩:∃ tn,tr.length=tn:=⟨_,rfl⟩
  rw [htn] at n3
  dsimp only at n1 n2 n3 n4 n5 hpv hR
  rw [hbd] at hR
  have HX:=zz4 ⟨hx,hR,hpv,hbd⟩
  have HPV:=zz hprev
  clear hN hwx hx hR hpv hbd hprev
  go_upto_region 4 with (fail)
  refine gen_world (fun W hW=>?_)
  have hxW:Ext [] wr W:=by rw [←hW]; exact (Ext.refl [] wr).alloc _
  have hbA:W.heap[wr.heap.size]? = some (.cells #[.int .i64 num,.int .i64 gen,.slice tb tn tc,.bool st,.string dt] 35 (0,0)):=by rw [←hW]; exact heap_alloc_at _
  obtain⟨p,hp⟩:∃ p,wr.heap.size=p:=⟨_,rfl⟩
  rw [hp] at hbA ⊢
  have j0:∀ y:Ex W,y.w.cell? ⟨p,0,none⟩=some (.int .i64 num):=fun y=>y.cell (cellOf hbA 0)
  have j1:∀ y:Ex W,y.w.cell? ⟨p,1,none⟩=some (.int .i64 gen):=fun y=>y.cell (cellOf hbA 1)
  have j2:∀ y:Ex W,y.w.cell? ⟨p,2,none⟩=some (.slice tb tn tc):=fun y=>y.cell (cellOf hbA 2)
  have j3:∀ y:Ex W,y.w.cell? ⟨p,3,none⟩=some (.bool st):=fun y=>y.cell (cellOf hbA 3)
  have j4:∀ y:Ex W,y.w.cell? ⟨p,4,none⟩=some (.string dt):=fun y=>y.cell (cellOf hbA 4)
  have hbg:=(HX.out.1.trans hxW).keep HB.out.1 (by simp)
  have k0:∀ y:Ex W,y.w.cell? ⟨gb,0,none⟩=some (.slice (some ⟨b,o,none⟩) n cap):=fun y=>y.cell (cellOf hbg 0)
  have hP:=fun (y:Ex W)=>(putcheck_walk ⟨num,gen,.slice tb tr.length tc,st,dt,tr⟩ y.w (HN.out.1.ext (hxW.trans y.ext)) HN.out.2).mono (fun e w' (h:_∧Ext [] y.w w')=>(⟨h.1,Ex.mk w' (y.ext.trans h.2),rfl⟩:_∧∃ z:Ex W,w' = z.w))
  have hD:=fun (y:Ex W)=>(hidden_walk ⟨num,gen,.slice tb tr.length tc,st,dt,tr⟩ y.w (HN.out.1.ext (hxW.trans y.ext)) HN.out.2).mono (fun e w' (h:_∧Ext [] y.w w')=>(⟨h.1,Ex.mk w' (y.ext.trans h.2),rfl⟩:_∧∃ z:Ex W,w' = z.w))
  obtain⟨pv,hpv⟩:∃ q,putN ⟨num,gen,.slice tb tr.length tc,st,dt,tr⟩=q:=⟨_,rfl⟩
  obtain⟨hd,hhd⟩:∃ q,hidN ⟨num,gen,.slice tb tr.length tc,st,dt,tr⟩=q:=⟨_,rfl⟩
  rw [hpv] at hP
  rw [hhd] at hD
  dsimp only [omV,omC] at hP hD
  rw [htn] at hP hD
  have HP:=zz hP
  have HD:=zz hD
  have HXW:=zz hxW
  have hbad:=HX.out.2.2.2
  unfold badS at hbad
  rw [hpv,hhd] at hbad
  obtain⟨bad,hbb⟩:∃ bb,bd=bb:=⟨_,rfl⟩
  rw [hbb] at hbad
  dsimp only at hbad
  clear hW hxW hbA hbg hP hD hpv hhd n1 n2 n3 n4 n5 hp
  have HBD:=zz hbb
  clear hbb
  go_cut [35] from 13 to 35 (fun c35 wx=>c35=.bool bad∧Ext [] W wx)
  case first=>
   cases i with
   | zero=>
    rw [show prevN L 0=none from rfl] at hbad
    dsimp only at hbad
    rw [Bool.false_or] at hbad
    by_cases hpz:pv=0
    case neg=>
     have hpz2:(pv != 0)=true:=bne_iff_ne.2 hpz
     rw [hpz2] at hbad
     have hb:bad=true:=by rw [←hbad]; rfl
     subst hb
     clear hbad
     refine wp_region_quietX (C:=fun w'=>∃ y:Ex W,w' = y.w) (by kernel_rfl) (by kernel_rfl) ⟨Ex.mk _ ((Ext.refl [] W).drew),rfl⟩ ?_
     repeat (go_big_quiet_step (first | with_reducible exact HP.out _ | with_reducible exact HD.out _))
     refine wpQuiet_nil ?_
     rintro w' ⟨y,rfl⟩
     go_wp2_with fail
     go_meet
     exact⟨rfl,y.ext⟩
    case pos=>
     subst hpz
     have hb:bad=hd:=by rw [←hbad]; simp
     subst hb
     clear hbad
     refine wp_region_quietX (C:=fun w'=>∃ y:Ex W,w' = y.w) (by kernel_rfl) (by kernel_rfl) ⟨Ex.mk _ ((Ext.refl [] W).drew),rfl⟩ ?_
     repeat (go_big_quiet_step (first | with_reducible exact HP.out _ | with_reducible exact HD.out _))
     refine wpQuiet_nil ?_
     rintro w' ⟨y,rfl⟩
     go_wp2_with fail
     go_meet
     exact⟨rfl,y.ext⟩
   | succ j=>
    obtain⟨q,hq,hcq⟩:=HPV.out j rfl
    rw [hq] at hbad
    dsimp only at hbad
    have l0:∀ y:Ex W,y.w.cell? ⟨b,o+j*5,none⟩=some (.int .i64 q):=fun y=>y.cell (HXW.out.cell hcq)
    have hjn:(j:Int)<(n:Int):=by omega
    clear hq hcq
    by_cases hle:num≤q
    case pos=>
     have hb:bad=true:=by rw [←hbad]; simp [hle]
     subst hb
     clear hbad
     refine wp_region_quietX (C:=fun w'=>∃ y:Ex W,w' = y.w) (by kernel_rfl) (by kernel_rfl) ⟨Ex.mk _ ((Ext.refl [] W).drew),rfl⟩ ?_
     repeat (go_big_quiet_step (first | with_reducible exact HP.out _ | with_reducible exact HD.out _))
     refine wpQuiet_nil ?_
     rintro w' ⟨y,rfl⟩
     go_wp2_with fail
     go_meet
     exact⟨rfl,y.ext⟩
    case neg=>
    rw [decide_eq_false hle,Bool.false_or] at hbad
    by_cases hpz:pv=0
    case neg=>
     have hpz2:(pv != 0)=true:=bne_iff_ne.2 hpz
     rw [hpz2] at hbad
     have hb:bad=true:=by rw [←hbad]; rfl
     subst hb
     clear hbad
     refine wp_region_quietX (C:=fun w'=>∃ y:Ex W,w' = y.w) (by kernel_rfl) (by kernel_rfl) ⟨Ex.mk _ ((Ext.refl [] W).drew),rfl⟩ ?_
     repeat (go_big_quiet_step (first | with_reducible exact HP.out _ | with_reducible exact HD.out _))
     refine wpQuiet_nil ?_
     rintro w' ⟨y,rfl⟩
     go_wp2_with fail
     go_meet
     exact⟨rfl,y.ext⟩
    case pos=>
     subst hpz
     have hb:bad=hd:=by rw [←hbad]; simp
     subst hb
     clear hbad
     refine wp_region_quietX (C:=fun w'=>∃ y:Ex W,w' = y.w) (by kernel_rfl) (by kernel_rfl) ⟨Ex.mk _ ((Ext.refl [] W).drew),rfl⟩ ?_
     repeat (go_big_quiet_step (first | with_reducible exact HP.out _ | with_reducible exact HD.out _))
     refine wpQuiet_nil ?_
     rintro w' ⟨y,rfl⟩
     go_wp2_with fail
     go_meet
     exact⟨rfl,y.ext⟩
  case rest=>
  obtain⟨rfl,hxc⟩:=hcut
  have hb:=HBD.out
  subst hb
  have hR:=HX.out.2.1
  have HE:=zz (HX.out.1.trans (HXW.out.trans hxc))
  clear hbad hxc HP HD HPV HXW HBD j0 j1 j2 j3 j4 k0
  cases bd with
  | true=>
   have hR2:false=R:=hR
   have hV:RV=2:=by rw [←HH.out.2.2.2.2,strictN,HH.out.2.2.2.1,←hR2]; rfl
   subst hV
   clear hR hR2
   go_wp2_with fail
   go_ret
   exact⟨rfl,HB.out.2.trans HE.out⟩
  | false=>
   have hR2:strictF (prevN L (i+1)) (L.drop (i+1))=R:=by rw [HX.out.2.2.1,←hR]; rfl
   have HF:=zz hR2
   clear hR hR2 HX
   go_wp2_with fail
   go_roundg g
   case measure=>omega
   case rel=>exact⟨i+1,by omega,by go_num,rfl,HF.out,HE.out⟩
theorem allG_ok28 (L:List Om):∀ (g i:Nat) (Q:List Rf),QOk L Q→QOk L (allG L g i Q)
 | 0,_,Q,h=>h
 | g+1,i,Q,h=>by
  rw [allG]
  split
  ·exact allG_ok28 L g (i+1) _ (pushQ_ok L _ Q h)
  ·exact h
theorem allN_ok28 (root:Rf) (L:List Om):QOk L (Rc.allN root L):=by
 unfold Rc.allN
 split
 ·rename_i h
  exact allG_ok28 L _ _ _ ⟨by simp,fun r hr=>by rw [List.mem_singleton.1 hr]; exact h⟩
 ·exact⟨by simp,fun r hr=>by cases hr⟩
theorem qok_wf28 {L:List Om} (hw:∀ x∈L,OmWf x) {Q:List Rf} (h:QOk L Q):∀ r∈Q,RfWf r:=fun r hr=>by
 obtain⟨x,hx⟩:=hasO_some (h.2 r hr)
 obtain⟨h1,h2⟩:=findO_mem hx
 rw [h2]
 exact lt_wf (hw x h1)
def zeroOm:Om:=⟨0,0,.slice none 0 0,false,⟨#[]⟩,[]⟩
def objOr (L:List Om) (r:Rf):Om:=(findO L r).getD zeroOm
theorem objOr_V (L:List Om) (r:Rf):(idxF L r).getD zeroV=omV (objOr L r):=by
 unfold idxF objOr
 cases findO L r <;> rfl
def missP (L:List Om) (C:List Rf) (r:Rf):Bool:=pageN (objOr L r) && !decide (r∈C)
theorem check1_walk (L:List Om) (mb sb cb n q:Nat) (C:List Rf) (X:Array Value) (r:Rf) (w:World) (hA:AskAt w mb n L) (hM:seenAt w sb C) (hr:RfWf r)
  (hc:w.heap[cb]? = some (.cells X 93 (0,0))) (hc3:X[3]? = some (.map (some mb))) (hc4:X[4]? = some (.map (some sb))) (hq:w.cell? ⟨q,0,none⟩=some (.pointer (some ⟨cb,0,none⟩))) :
  Calls Tryz.prog 52 #[mkR r,.pointer (some ⟨q,0,none⟩)] w fun e w'=>e=.returned (.bool (missP L C r))∧Ext [] w w':=by
 obtain⟨kl,hkl⟩:=keyR hr
 have hoV:=objOr_V L r
 have hoN:NodesAt w (objOr L r).tv (objOr L r).tree:=by
  unfold objOr
  cases hf:findO L r with
  | none=>exact nodes_nil w
  | some x=>exact hA.nodes x (findO_mem hf).1
 have hoL:Lt (objOr L r).tree:=by
  unfold objOr
  cases hf:findO L r with
  | none=>exact⟨by show (0:Nat)≤_; omega,fun x hx=>by cases hx⟩
  | some x=>exact (hA.wf x (findO_mem hf).1).lt
 unfold missP
 obtain⟨o,ho⟩:∃ o,objOr L r=o:=⟨_,rfl⟩
 rw [ho] at hoV hoN hoL ⊢
 obtain⟨xb,xc,hxv⟩:=tree_slice hoN
 obtain⟨pg,hpg⟩:∃ b,pageN o=b:=⟨_,rfl⟩
 have hP:=fun W (hx:Ext [] w W)=>page_walk o W (hoN.ext hx) hoL
 rw [hpg] at hP ⊢
 obtain⟨r0,r1⟩:=r
 obtain⟨W0,hW0⟩:∃ W0,w.alloc (.cells #[.int .i64 r0,.int .i64 r1] 24)=W0:=⟨_,rfl⟩
 have hx0:Ext [] w W0:=by rw [←hW0]; exact (Ext.refl [] w).alloc _
 obtain⟨p,hp⟩:∃ p,w.heap.size=p:=⟨_,rfl⟩
 have hb0:W0.heap[p]? = some (.cells #[.int .i64 r0,.int .i64 r1] 24 (0,0)):=by rw [←hW0,←hp]; exact heap_alloc_at _
 have k0:∀ y:Ex W0,y.w.cell? ⟨p,0,none⟩=some (.int .i64 r0):=fun y=>y.cell (cellOf hb0 0)
 have k1:∀ y:Ex W0,y.w.cell? ⟨p,1,none⟩=some (.int .i64 r1):=fun y=>y.cell (cellOf hb0 1)
 have kq:∀ y:Ex W0,y.w.cell? ⟨q,0,none⟩=some (.pointer (some ⟨cb,0,none⟩)):=fun y=>y.cell (hx0.cell hq)
 have k3:∀ y:Ex W0,y.w.cell? ⟨cb,3,none⟩=some (.map (some mb)):=fun y=>y.cell (hx0.cell ((cellOf hc 3).trans hc3))
 have k4:∀ y:Ex W0,y.w.cell? ⟨cb,4,none⟩=some (.map (some sb)):=fun y=>y.cell (hx0.cell ((cellOf hc 4).trans hc4))
 have hlo:∀ y:Ex W0,(Instr.lookup 60 (.map (some mb)) (.agg #[.int .i64 r0,.int .i64 r1]) false).run Tryz.prog y.w=.ok (omV o) y.w:=fun y=>by
  rw [←hoV]; exact (hA.ext (hx0.trans y.ext)).map.look lawR Tryz.underlying60 (zeroObj _) (x:=(r0,r1)) hkl
 have hls:∀ y:Ex W0,(Instr.lookup 91 (.map (some sb)) (.agg #[.int .i64 r0,.int .i64 r1]) false).run Tryz.prog y.w=.ok (.bool (decide ((r0,r1)∈C))) y.w:=fun y=>by
  rw [←setF_look]; exact (hM.ext (hx0.trans y.ext) (by simp)).look lawR Tryz.underlying91 (zeroBoolW _) (x:=(r0,r1)) hkl
 have hPy:=fun (y:Ex W0)=>(hP y.w (hx0.trans y.ext)).mono (fun e w' (h:_∧Ext [] y.w w')=>(⟨h.1,Ex.mk w' (y.ext.trans h.2),rfl⟩:_∧∃ z:Ex W0,w' = z.w))
 obtain⟨sn,hsn⟩:∃ b,decide ((r0,r1)∈C)=b:=⟨_,rfl⟩
 rw [hsn] at hls ⊢
 have hvt:omV o=.agg (objX o.num o.gen xb o.tree.length xc o.stream o.data):=by unfold omV; rw [hxv]; rfl
 rw [hvt] at hlo hPy
 unfold objX at hlo hPy
 obtain⟨xn,hxn⟩:∃ xn,o.tree.length=xn:=⟨_,rfl⟩
 rw [hxn] at hlo hPy
 have HP:=zz hPy
 have HX:=zz hx0
 clear hoV hoN hoL hP hx0 hb0 hkl hA hM hr hc hc3 hc4 hq hPy hvt hxn hsn hpg ho hxv
 show Calls _ _ #[.agg #[.int .i64 r0,.int .i64 r1],_] _ _
 go_enter Tryz.func52,Tryz.ntmps52
 go_upto_region 1 with fail
 clear hW0 hp
 cases pg with
 | false=>
  refine wp_region_quietX (C:=fun w'=>∃ y:Ex W0,w' = y.w) (by kernel_rfl) (by kernel_rfl) ⟨Ex.mk _ ((Ext.refl [] W0).drew),rfl⟩ ?_
  repeat (go_big_quiet_step (with_reducible exact HP.out _))
  refine wpQuiet_nil ?_
  rintro w' ⟨y,rfl⟩
  have HY:=zz (HX.out.trans y.ext)
  go_wp2_with fail
  go_ret
  exact⟨rfl,HY.out⟩
 | true=>
  refine wp_region_quietX (C:=fun w'=>∃ y:Ex W0,w' = y.w) (by kernel_rfl) (by kernel_rfl) ⟨Ex.mk _ ((Ext.refl [] W0).drew),rfl⟩ ?_
  repeat (go_big_quiet_step (with_reducible exact HP.out _))
  refine wpQuiet_nil ?_
  rintro w' ⟨y,rfl⟩
  have HY:=zz (HX.out.trans y.ext)
  go_wp2_with fail
  go_ret
  exact⟨rfl,HY.out⟩
def idxP (f:Rf→Bool):List Rf→Nat→Int
 | [],_=>-1
 | x::L,i=>if f x=true then (i:Int) else idxP f L (i+1)
theorem idxP_any (f:Rf→Bool):∀ (L:List Rf) (i:Nat),decide (0≤idxP f L i)=L.any f
 | [],_=>rfl
 | x::L,i=>by
  rw [idxP,List.any_cons]
  by_cases h:f x=true
  ·rw [if_pos h,h,Bool.true_or]; exact decide_eq_true (by omega)
  ·rw [if_neg h,idxP_any f L (i+1)]
   simp [h]
def RowAt (w:World) (v:Value) (A:List Rf):Prop:=∃ kb kc,v=.slice kb A.length kc∧∀ i u,(rfC A)[i]? = some u→∃ g,kb=some ⟨g,0,none⟩∧w.cell? ⟨g,i,none⟩=some u
theorem RowAt.of_row {w:World} {v:Value} {A:List Rf} (h:w.ownsRow 0 24 2 v A.length (rfC A)):RowAt w v A:=by
 obtain⟨kb,kc,rfl⟩:=row_slice h
 refine⟨kb,kc,rfl,fun i u hu=>?_⟩
 have hn:0<A.length:=by
  cases hK0:A with
  | nil=>rw [hK0] at hu; simp [rfC] at hu
  | cons a t=>simp
 obtain⟨g,cap,he⟩:=row_form h hn
 cases he
 exact⟨g,rfl,row_cell h hu⟩
theorem RowAt.ext {w w' : World} {v:Value} {A:List Rf} (h:RowAt w v A) (hx:Ext [] w w'):RowAt w' v A:=by
 obtain⟨kb,kc,h1,h2⟩:=h
 refine⟨kb,kc,h1,fun i u hu=>?_⟩
 obtain⟨g,e,hc⟩:=h2 i u hu
 exact⟨g,e,hx.cell hc⟩
theorem idxR_walk (v:Value) (A:List Rf) (f:Rf→Bool) (q:Nat) (w:World) (h:RowAt w v A) (hl:A.length≤100000)
  (hF:∀ W,Ext [] w W→∀ r∈A,Calls Tryz.prog 52 #[mkR r,.pointer (some ⟨q,0,none⟩)] W fun e w'=>e=.returned (.bool (f r))∧Ext [] W w') :
  Calls Tryz.prog 85 #[v,.func (.func 52) #[] #[.pointer (some ⟨q,0,none⟩)]] w fun e w'=>e=.returned (.int .i64 (idxP f A 0))∧Ext [] w w':=by
 obtain⟨kb,kc,rfl,hT⟩:=h
 obtain⟨n,hln⟩:∃ n,A.length=n:=⟨_,rfl⟩
 obtain⟨R,hR⟩:∃ R,idxP f A 0=R:=⟨_,rfl⟩
 have HH:=zz4 ⟨hT,hln,hR,hF⟩
 rw [hR]
 rw [hln] at hl ⊢
 clear hT hln hR hF
 go_enter Tryz.func85,Tryz.ntmps85
 go_wp2_with fail
 go_loopg [4,5,8] n (fun g v4 v5 iv wr=>∃ i:Nat,g+i=n∧iv=.int .i64 i∧idxP f (A.drop i) i=R∧Ext [] w wr)
 case atStart=>exact⟨0,by omega,rfl,HH.out.2.2.1,Ext.refl _ _⟩
 case round=>
  obtain⟨i,hgi,rfl,hR,hx⟩:=hrel
  by_cases hlt:i<n
  ·obtain⟨g,rfl⟩:∃ g,gk=g+1:=⟨gk - 1,by omega⟩
   have hltz:(i:Int)<(n:Int):=by omega
   have hil:i<A.length:=by rw [HH.out.2.1]; exact hlt
   obtain⟨c1,c2⟩:=rfC_at A i hil
   have H:=zz (HH.out.2.2.2 wr hx _ (List.getElem_mem hil))
   rw [List.drop_eq_getElem_cons hil,idxP] at hR
   generalize A[i]'hil=kk at *
   obtain⟨k0,k1⟩:=kk
   obtain⟨kg,rfl,c1⟩:=HH.out.1 _ _ c1
   obtain⟨kg',he,c2⟩:=HH.out.1 _ _ c2
   cases he
   have c1:=hx.cell c1
   have c2:=hx.cell c2
   dsimp only at c1 c2
   have HX:=zz2 ⟨hx,hR⟩
   clear hx hR
   obtain⟨bb,hb⟩:∃ bb,f (k0,k1)=bb:=⟨_,rfl⟩
   rw [hb] at H HX
   clear hb
   cases bb with
   | false=>
    go_wp2_with fail
    refine H.out.mono ?_
    rintro ee w2 ⟨rfl,hx2⟩
    have HX2:=zz (HX.out.1.trans hx2)
    clear hx2 H c1 c2
    go_wp2_with fail
    go_roundg g
    case measure=>omega
    case rel=>exact⟨i+1,by omega,by go_num,by simpa using HX.out.2,HX2.out⟩
   | true=>
    have hRi:R=(i:Int):=by have:=HX.out.2; rw [if_pos rfl] at this; exact this.symm
    subst hRi
    go_wp2_with fail
    refine H.out.mono ?_
    rintro ee w2 ⟨rfl,hx2⟩
    have HX2:=zz (HX.out.1.trans hx2)
    clear hx2 H c1 c2
    go_wp2_with fail
    go_ret
    exact⟨rfl,HX2.out⟩
  ·obtain rfl:gk=0:=by omega
   have hR0:R = -1:=by rw [←hR,List.drop_eq_nil_of_le (by rw [HH.out.2.1]; omega)]; rfl
   subst hR0
   have HX:=zz hx
   clear hx hR
   go_wp2_with fail
   go_ret
   exact⟨rfl,HX.out⟩
theorem contR_walk (v:Value) (A:List Rf) (f:Rf→Bool) (q:Nat) (w:World) (h:RowAt w v A) (hl:A.length≤100000)
  (hF:∀ W,Ext [] w W→∀ r∈A,Calls Tryz.prog 52 #[mkR r,.pointer (some ⟨q,0,none⟩)] W fun e w'=>e=.returned (.bool (f r))∧Ext [] W w') :
  Calls Tryz.prog 50 #[v,.func (.func 52) #[] #[.pointer (some ⟨q,0,none⟩)]] w fun e w'=>e=.returned (.bool (A.any f))∧Ext [] w w':=by
 have HI:=zz (idxR_walk v A f q w h hl hF)
 have hany:=idxP_any f A 0
 obtain⟨R,hR⟩:∃ R,idxP f A 0=R:=⟨_,rfl⟩
 rw [hR] at HI hany
 rw [←hany]
 obtain⟨B,hB⟩:∃ B,decide (0≤R)=B:=⟨_,rfl⟩
 rw [hB]
 obtain⟨kb,kc,rfl,-⟩:=h
 have HB:=zz hB
 clear hF hany hR hB
 go_enter Tryz.func50,Tryz.ntmps50
 go_wp2_with fail
 refine HI.out.mono ?_
 rintro ee w2 ⟨rfl,hx2⟩
 have HX:=zz hx2
 clear hx2 HI
 by_cases h0:0≤R
 ·obtain rfl:B=true:=by rw [←HB.out]; exact decide_eq_true h0
  go_wp2_with fail
  go_ret
  exact⟨rfl,HX.out⟩
 ·obtain rfl:B=false:=by rw [←HB.out]; exact decide_eq_false h0
  have h1:R<0:=by omega
  have h2:(0≤R)=False:=by simp [h0]
  go_wp2_with fail
  go_ret
  exact⟨rfl,HX.out⟩
def treeP (root:Rf) (L:List Om):Option Cnt:=match findO L root with
 | none=>none
 | some x=>if catN x=false then none else if (toN x.tree kPages).2=false then none else some (pagesF L (L.length+1) [] (toN x.tree kPages).1 (0,0) true)
def checkP (root:Rf) (L:List Om):Int:=if strictN L≠0 then 4 else match treeP root L with
 | none=>4
 | some C=>if C.1.2=false then 4 else if (Rc.allN root L).any (missP L C.2)=true then 4 else 0
theorem check28_walk (v:Value) (L:List Om) (root:Rf) (w:World) (h:OmsAt w v L) (hw:∀ x∈L,OmWf x) (hr:RfWf root) (hl:L.length≤100000) :
  Calls Tryz.prog 16 #[.agg #[v,.int .i64 root.1,.int .i64 root.2]] w fun e w'=>e=.returned (.int .i64 (checkP root L))∧Ext [] w w':=by
 have HS:=zz (fun W (hx:Ext [] w W)=>strict_walk v L root.1 root.2 W (h.ext hx) hw hl)
 have HA:=zz (fun W (hx:Ext [] w W)=>asked_walk v L root.1 root.2 W (h.ext hx) hw hl)
 have HL:=zz (fun W (hx:Ext [] w W)=>all_walk v L root W (h.ext hx) hw hr hl)
 have HO:=zz4 ⟨h,hw,hr,hl⟩
 have hmm:=@run_makeMap Tryz.prog
 obtain⟨base,cap,rfl,-,-⟩:=h
 obtain⟨n,hln⟩:∃ n,L.length=n:=⟨_,rfl⟩
 obtain⟨R,hR⟩:∃ R,checkP root L=R:=⟨_,rfl⟩
 rw [hR]
 unfold checkP at hR
 obtain⟨r0,r1⟩:=root
 have HN:=zz hln
 rw [hln] at HS HA HL ⊢
 dsimp only at HS HA HL
 obtain⟨gb,hgb⟩:∃ p,w.heap.size=p:=⟨_,rfl⟩
 have hb0:=heap_alloc_at (w:=w) (.cells #[.slice base n cap,.int .i64 r0,.int .i64 r1] 26)
 rw [hgb] at hb0
 have hx0:Ext [] w (w.alloc (.cells #[.slice base n cap,.int .i64 r0,.int .i64 r1] 26)):=(Ext.refl [] w).alloc _
 have k0:=cellOf hb0 0
 have k1:=cellOf hb0 1
 have k2:=cellOf hb0 2
 have HB:=zz3 ⟨hb0,hx0,hgb⟩
 clear hb0 hx0 hln hw hr hl
 obtain⟨sv,hsv⟩:∃ s,strictN L=s:=⟨_,rfl⟩
 rw [hsv] at HS hR
 go_enter Tryz.func16,Tryz.ntmps16
 go_wp2_with fail
 refine (HS.out _ HB.out.2.1).mono ?_
 rintro e w1 ⟨rfl,hx1⟩
 have hb1:=hx1.keep HB.out.1 (by simp)
 have HX1:=zz2 ⟨HB.out.2.1.trans hx1,hb1⟩
 have k0:=cellOf hb1 0
 have k1:=cellOf hb1 1
 have k2:=cellOf hb1 2
 clear hx1 hb1 hgb HS
 by_cases hs0:sv=0
 case neg=>
  rw [if_pos hs0] at hR
  subst hR
  have hsb:(sv != 0)=true:=bne_iff_ne.2 hs0
  clear hs0 hsv
  go_wp2_with fail
  go_ret
  exact⟨rfl,HX1.out.1⟩
 case pos=>
 subst hs0
 rw [if_neg (by simp)] at hR
 clear hsv
 go_wp2_with fail
 refine (HA.out _ HX1.out.1).mono ?_
 rintro e w2 ⟨mb,rfl,S2⟩
 have hA2:AskAt w2 mb n L:=⟨S2.get 0 rfl,fun x hx=>by
  obtain⟨i,hi,rfl⟩:=List.getElem_of_mem hx
  obtain⟨base',cap',he,-,hT⟩:=HO.out.1.ext (HX1.out.1.trans S2.ext)
  obtain⟨b,o,-,hN⟩:=hT i hi
  exact hN.nodes,HO.out.2.1⟩
 have hb2:=S2.ext.keep HX1.out.2 (by simp)
 have HX2:=zz3 ⟨HX1.out.1.trans S2.ext,hb2,hA2⟩
 clear S2 hA2 hb2 HA k0 k1 k2 HX1 HB
 go_upto_region 4 with fail
 refine gen_world (fun W3 hW3=>?_)
 obtain⟨sb,hsb⟩:∃ sb,w2.heap.size=sb:=⟨_,rfl⟩
 rw [hsb]
 have hx3:Ext [] w2 W3:=by rw [←hW3]; exact (((Ext.refl [] w2).alloc _).alloc _).alloc _
 have hM3:seenAt W3 sb []:=by
  have h1:=(set_made w2).ext (((Ext.refl [] _).alloc (.cells #[.slice base n cap,.int .i64 r0,.int .i64 r1,.map (some mb),.map (some sb)] 93)).alloc (.cells #[.pointer (some ⟨sb+1,0,none⟩)] 90)) (by simp)
  rw [hsb] at h1
  rw [←hW3,hsb]
  exact h1
 have hc3:W3.heap[sb+1]? = some (.cells #[.slice base n cap,.int .i64 r0,.int .i64 r1,.map (some mb),.map (some sb)] 93 (0,0)):=by
  have h1:=heap_alloc_old (.cells #[.pointer (some ⟨sb+1,0,none⟩)] 90) (heap_alloc_at (w:=w2.alloc (.map #[] 0)) (.cells #[.slice base n cap,.int .i64 r0,.int .i64 r1,.map (some mb),.map (some sb)] 93))
  rw [show (w2.alloc (.map #[] 0)).heap.size=sb+1 from by simp [hsb]] at h1
  rw [←hW3,hsb]
  exact h1
 have hp3:W3.heap[sb+2]? = some (.cells #[.pointer (some ⟨sb+1,0,none⟩)] 90 (0,0)):=by
  have h1:=heap_alloc_at (w:=(w2.alloc (.map #[] 0)).alloc (.cells #[.slice base n cap,.int .i64 r0,.int .i64 r1,.map (some mb),.map (some sb)] 93)) (.cells #[.pointer (some ⟨sb+1,0,none⟩)] 90)
  rw [show ((w2.alloc (.map #[] 0)).alloc (.cells #[.slice base n cap,.int .i64 r0,.int .i64 r1,.map (some mb),.map (some sb)] 93)).heap.size=sb+2 from by simp [hsb]] at h1
  rw [←hW3,hsb]
  exact h1
 have hsm:mb<sb:=by rw [←hsb]; exact HX2.out.2.2.map.lt
 have hgs:gb<sb:=by rw [←hsb]; exact lt_of_block HX2.out.2.1
 have hsz:w.heap.size≤sb:=by rw [←hsb]; exact HX2.out.1.size
 have hRo:=root_walk (.slice base n cap) r0 r1 mb n L W3 ⟨_,_,_,rfl⟩ (HX2.out.2.2.ext hx3) HO.out.2.2.1
 have H3:=zz9 ⟨HX2.out.1.trans hx3,hx3.keep HX2.out.2.1 (by simp),HX2.out.2.2.ext hx3,hM3,hc3,hp3,hsm,hsz,hgs⟩
 have HRo:=zz hRo
 have kp:=cellOf hp3 0
 have c0:=cellOf hc3 0
 have c1:=cellOf hc3 1
 have c2:=cellOf hc3 2
 have c3:=cellOf hc3 3
 have c4:=cellOf hc3 4
 clear hx3 hM3 hc3 hp3 hsm hsz hgs hRo HX2 hsb hW3
 cases hf:findO L (r0,r1) with
 | none=>
  rw [hf,show rootB L (r0,r1)=false by unfold rootB; rw [hf]] at HRo
  rw [show treeP (r0,r1) L=none by unfold treeP; rw [hf]] at hR
  simp only at hR
  subst hR
  dsimp only [omVo] at HRo
  clear hf
  go_wp2_with fail
  refine HRo.out.mono ?_
  rintro e w4 ⟨rfl,hx4⟩
  have HX4:=zz (H3.out.1.trans hx4)
  clear hx4 HRo
  go_wp2_with fail
  go_ret
  exact⟨rfl,HX4.out.alloc _⟩
 | some x=>
  rw [hf,show rootB L (r0,r1)=catN x by unfold rootB; rw [hf]] at HRo
  dsimp only [omVo] at HRo
  have hxm:=(findO_mem hf).1
  have hxl:=(HO.out.2.1 x hxm).lt
  have hxN:=H3.out.2.2.1.nodes x hxm
  obtain⟨xb,xc,hxv⟩:=tree_slice hxN
  have htp:treeP (r0,r1) L=if catN x=false then none else if (toN x.tree kPages).2=false then none else some (pagesF L (L.length+1) [] (toN x.tree kPages).1 (0,0) true):=by unfold treeP; rw [hf]
  rw [htp] at hR
  obtain⟨ct,hct⟩:∃ c,catN x=c:=⟨_,rfl⟩
  rw [hct] at hR HRo
  obtain⟨hs,hhs⟩:∃ b,(toN x.tree kPages).2=b:=⟨_,rfl⟩
  obtain⟨⟨t0,t1⟩,htt⟩:∃ b,(toN x.tree kPages).1=b:=⟨_,rfl⟩
  have hTo:=fun W (hx:Ext [] W3 W)=>to_walk x.tv x.tree kPages W (hxN.ext hx) hxl
  have htw:hs=true→RfWf (t0,t1):=fun h=>refs_wf (l:=x.tree) (by rw [←htt]; exact to_ref (by rw [hhs]; exact h))
  rw [hhs,htt] at hR hTo
  have hvt:omV x=.agg (objX x.num x.gen xb x.tree.length xc x.stream x.data):=by unfold omV; rw [hxv]; rfl
  rw [hvt] at HRo
  unfold objX at HRo
  rw [hxv] at hTo
  have HTo:=zz hTo
  obtain⟨xn,hxn⟩:∃ xn,x.tree.length=xn:=⟨_,rfl⟩
  rw [hxn] at HRo HTo
  have HTW:=zz htw
  have HH:=zz hR
  clear hf hxm hxl hxN hxv htp hct hhs htt hTo hvt hxn htw hR
  go_wp2_with fail
  refine HRo.out.mono ?_
  rintro e w4 ⟨rfl,hx4⟩
  have kp:w4.cell? ⟨sb+1+1,0,none⟩=some (.pointer (some ⟨sb+1,0,none⟩)):=hx4.cell kp
  have HX4:=zz hx4
  clear hx4 HRo c0 c1 c2 c3 c4
  cases ct with
  | false=>
   obtain rfl:R=4:=HH.out.symm
   go_wp2_with fail
   go_ret
   exact⟨rfl,(H3.out.1.trans HX4.out).alloc _⟩
  | true=>
   go_wp2_with fail
   refine (HTo.out _ (HX4.out.alloc _)).mono ?_
   rintro e w5 ⟨rfl,hx5⟩
   have kp:=(((Ext.refl [] w4).alloc (.cells #[.int .i64 x.num,.int .i64 x.gen,.slice xb xn xc,.bool x.stream,.string x.data] 35)).trans hx5).cell kp
   have HX5:=zz ((HX4.out.alloc _).trans hx5)
   clear hx5 HTo HX4
   cases hs with
   | false=>
    obtain rfl:R=4:=HH.out.symm
    go_wp2_with fail
    go_ret
    exact⟨rfl,(H3.out.1.trans HX5.out).alloc _⟩
   | true=>
    obtain⟨W6,hW6⟩:∃ W,w5.alloc (.cells #[.int .i64 t0,.int .i64 t1] 24)=W:=⟨_,rfl⟩
    have hx6:Ext [] w5 W6:=by rw [←hW6]; exact (Ext.refl [] w5).alloc _
    have hx36:=HX5.out.trans hx6
    have hPa:=pages_walk L base n cap r0 r1 mb sb (sb+1) n (Nat.ne_of_lt H3.out.2.2.2.2.2.2.1) (by omega) HO.out.2.2.2 (L.length+1) [] (t0,t1) (0,0) true W6 (H3.out.2.2.1.ext hx36) (hx36.keep H3.out.2.2.2.2.1 (by simp)) (H3.out.2.2.2.1.ext hx36 (by simp)) ⟨List.nodup_nil,fun r hr=>by cases hr⟩ (by simp) (HTW.out rfl)
    dsimp only [mkR] at hPa
    obtain⟨CC,hCC⟩:∃ C,pagesF L (L.length+1) [] (t0,t1) (0,0) true=C:=⟨_,rfl⟩
    have hHH:=HH.out
    rw [hCC] at hPa hHH
    obtain⟨⟨cn,ck⟩,C2⟩:=CC
    rw [if_neg (by simp),if_neg (by simp)] at hHH
    dsimp only at hHH hPa
    have HPa:=zz hPa
    have HQ:=zz2 ⟨hHH,hx36⟩
    have kp:(w5.alloc (.cells #[.int .i64 t0,.int .i64 t1] 24)).cell? ⟨sb+1+1,0,none⟩=some (.pointer (some ⟨sb+1,0,none⟩)):=((Ext.refl [] w5).alloc _).cell kp
    have HW6:=zz hW6
    clear hx6 hx36 hPa hCC hHH HH HTW hW6
    go_wp2_with fail
    rw [HW6.out]
    refine HPa.out.mono ?_
    rintro e w7 ⟨rfl,hx7,hs7⟩
    have hA6:AskAt W6 mb n L:=H3.out.2.2.1.ext HQ.out.2
    have hA7:AskAt w7 mb n L:=hA6.turn hx7 (Nat.ne_of_lt H3.out.2.2.2.2.2.2.1) (KeepC.of_map (H3.out.2.2.2.1.ext HQ.out.2 (by simp)) hx7)
    have hx07:Ext [] w w7:=(H3.out.1.trans HQ.out.2).trans' hx7 (fun i hi hm=>by
     have h1:=H3.out.2.2.2.2.2.2.2.1
     obtain rfl:=List.mem_singleton.1 hm
     omega)
    have hc7:=hx7.keep (HQ.out.2.keep H3.out.2.2.2.2.1 (by simp)) (by simp)
    have hp7:=hx7.keep (HQ.out.2.keep H3.out.2.2.2.2.2.1 (by simp)) (by simp)
    have hg7:=hx7.keep (HQ.out.2.keep H3.out.2.1 (by simp)) (by have:=H3.out.2.2.2.2.2.2.2.2; simp; omega)
    have H7:=zz5 ⟨hx07,hA7,hs7,hc7,hp7⟩
    clear hs7 hA6 hA7 hx07 hc7 hp7 hx7 HPa kp HX5
    cases ck with
    | false=>
     obtain rfl:R=4:=HQ.out.1.symm
     clear hg7
     go_wp2_with fail
     go_ret
     exact⟨rfl,H7.out.1⟩
    | true=>
     have g0:=cellOf hg7 0
     have g1:=cellOf hg7 1
     have g2:=cellOf hg7 2
     clear hg7
     go_wp2_with fail
     refine (HL.out w7 H7.out.1).mono ?_
     rintro e w8 ⟨v8,rfl,S8⟩
     have hrow:RowAt w8 v8 (Rc.allN (r0,r1) L):=RowAt.of_row (S8.get 0 rfl)
     have hx8:=S8.ext
     have hwf:=qok_wf28 HO.out.2.1 (allN_ok28 (r0,r1) L)
     have hC:=contR_walk v8 (Rc.allN (r0,r1) L) (missP L C2) (sb+1+1) w8 hrow (Nat.le_trans (qok_len (allN_ok28 (r0,r1) L)) HO.out.2.2.2) (fun W hx r hr=>
      check1_walk L mb sb (sb+1) n (sb+1+1) C2 #[.slice base n cap,.int .i64 r0,.int .i64 r1,.map (some mb),.map (some sb)] r W (H7.out.2.1.ext (hx8.trans hx)) (H7.out.2.2.1.ext (hx8.trans hx) (by simp)) (hwf r hr) ((hx8.trans hx).keep H7.out.2.2.2.1 (by simp)) rfl rfl ((hx8.trans hx).cell (cellOf H7.out.2.2.2.2 0)))
     obtain⟨vb,vc,rfl,-⟩:=hrow
     obtain⟨al,hal⟩:∃ n,(Rc.allN (r0,r1) L).length=n:=⟨_,rfl⟩
     rw [hal] at hC ⊢
     obtain⟨bb,hbb⟩:∃ b,(Rc.allN (r0,r1) L).any (missP L C2)=b:=⟨_,rfl⟩
     have hq:=HQ.out.1
     rw [hbb] at hC hq
     rw [if_neg (by simp)] at hq
     have HC:=zz hC
     have H8:=zz2 ⟨H7.out.1.trans hx8,hq⟩
     clear hC hx8 hwf S8 hal hbb hq g0 g1 g2 HQ
     go_wp2_with fail
     refine HC.out.mono ?_
     rintro e w9 ⟨rfl,hx9⟩
     have H9:=zz (H8.out.1.trans hx9)
     have hq:=H8.out.2
     clear hx9 HC H8
     cases bb with
     | true=>
      obtain rfl:R=4:=hq.symm
      clear hq
      go_wp2_with fail
      go_ret
      exact⟨rfl,H9.out⟩
     | false=>
      obtain rfl:R=0:=hq.symm
      clear hq
      go_wp2_with fail
      go_ret
      exact⟨rfl,H9.out⟩
end Pg
end Go.Proofs.YtljachhmdogkdaaGreatDoor
