/-
 Texts PnA, PnB, PnC, PnH, as far as the statement needs them.
-/
import Derived.Test.YtljachhmdogkdaaGreatDoorQPt
import Derived.Test.YtljachhmdogkdaaGreatDoorQTv
import Derived.Test.YtljachhmdogkdaaGreatDoorQPm
set_option maxRecDepth 100000
set_option maxHeartbeats 64000000
namespace Go.Proofs.YtljachhmdogkdaaGreatDoor
namespace Pg
open Go.RowKit
open Tr
open Rc
theorem refs17_walk (v:Value) (l:List Nd) (w:World) (h:NodesAt w v l) (hl:Lt l) :
  Calls Tryz.prog 89 #[v] w fun e w'=>∃ v2,e=.returned v2∧Sep w w' [oSl 24 2 v2 (refsN l).length (rfC (refsN l))]:=by
 obtain⟨i0,hif,hz0,hz1,hz2⟩:=info_parts infoRef17
 have HC:=zz (check17_walk v l w h hl.len hl.s)
 obtain⟨c,hc⟩:∃ c,checkN l=c:=⟨_,rfl⟩
 rw [hc] at HC
 by_cases c0:c=0
 case neg=>
  have hR:refsN l=[]:=by rw [refsN,hc,if_neg c0]
  rw [hR]
  obtain⟨base,cap,rfl,-,-⟩:=h
  have hcb:(c != 0)=true:=bne_iff_ne.2 c0
  clear hR hc
  go_enter Tryz.func89,Tryz.ntmps89
  go_wp2_with fail
  refine HC.out.mono ?_
  rintro e w1 ⟨rfl,hx⟩
  have HX:=zz hx
  clear hx HC
  go_wp2_with fail
  go_ret
  exact⟨_,rfl,((Sep.start w).quiet HX.out).new (Ext.refl _ _) (oSl 24 2 (.slice none 0 0) 0 []) (World.ownsRow_nil _ _ _ _) (fun q hq=>by simp [oSl,Value.ownBlock] at hq)⟩
 case pos=>
 subst c0
 obtain⟨h0,hn,-⟩:=check_zero hc
 obtain⟨R,hR⟩:∃ R,refsN l=R:=⟨_,rfl⟩
 rw [hR]
 rw [refsN,if_pos hc] at hR
 obtain⟨base,cap,rfl,-,hN⟩:=h
 obtain⟨n,hln⟩:∃ n,l.length=n:=⟨_,rfl⟩
 have HH:=zz3 ⟨hN,hR,hln⟩
 rw [hln] at HC hn ⊢
 clear hN hR hln hc h0
 go_enter Tryz.func89,Tryz.ntmps89
 go_wp2_with fail
 refine HC.out.mono ?_
 rintro e w1 ⟨rfl,hx⟩
 have S:=((Sep.start w).quiet hx).new (Ext.refl _ _) (oSl 24 2 (.slice none 0 0) 0 []) (World.ownsRow_nil _ _ _ _) (fun q hq=>by simp [oSl,Value.ownBlock] at hq)
 have HS:=zz S
 clear hx HC S
 go_wp2_with fail
 go_loopg [3,4] n (fun g ov iv wr=>∃ (i:Nat) (A:List (Int×Int)),g+i=n∧iv=.int .i64 i∧A.length≤i∧A++((l.drop i).filter fun x=>decide (x.kind=9)).map (fun x=>(x.n,x.gen))=R∧Sep w wr [oSl 24 2 ov A.length (rfC A)])
 case atStart=>exact⟨0,[],by omega,rfl,by simp,HH.out.2.1,HS.out⟩
 case round=>
  clear HS
  obtain⟨i,A,hgi,rfl,hA,hR,S⟩:=hrel
  have hr0:wr.ownsRow 0 24 2 u3 A.length (rfC A):=S.get 0 rfl
  obtain⟨ao3,c3,rfl⟩:=row_slice hr0
  obtain⟨m,hm⟩:∃ m,A.length=m:=⟨_,rfl⟩
  by_cases hlt:i<n
  ·obtain⟨g,rfl⟩:∃ g,gk=g+1:=⟨gk - 1,by omega⟩
   have hltz:(i:Int)<(n:Int):=by omega
   have hil:i<l.length:=by rw [HH.out.2.2]; exact hlt
   rw [drop_at l i hil,List.filter_cons] at hR
   obtain⟨b,o,rfl,n1,n2,n3,n4,nw,bk,ck,n5,-⟩:=HH.out.1.ext S.ext i hil
   generalize l[i]'hil=x at *
   rw [hm] at hr0 hA ⊢
   have HX:=zz4 ⟨S,hR,hr0,hm⟩
   clear S hR hr0 hm nw
   by_cases k9:x.kind=9
   ·have hR:=HX.out.2.1
    rw [if_pos (by simpa using k9),List.map_cons] at hR
    have HR:=zz hR
    have k9b:(x.kind==9)=true:=by rw [k9]; rfl
    clear hR k9
    go_upto_region 8 with fail
    refine wp_region_perm (C:=fun w'=>∃ y:Ex wr,w' = y.w) [0,1,2,3,4,5,6,7,8,9,10,11] 13 (by kernel_rfl) (by kernel_rfl) ⟨Ex.mk _ ((Ext.refl [] wr).drew),rfl⟩ ?_
    simp only [pick,List.getElem?_toArray,List.getElem?_cons_zero,List.getElem?_cons_succ,List.drop_succ_cons,List.drop_zero]
    have d2:=fun y:Ex wr=>y.cell n2
    have d3:=fun y:Ex wr=>y.cell n3
    repeat (go_big_quiet_step (fail))
    refine wpQuiet_nil ?_
    clear d2 d3
    have hr0:wr.drew.ownsRow 0 24 2 (.slice ao3 A.length c3) A.length (rfC A):=(HX.out.1.quiet (Ext.refl [] wr).drew).get 0 rfl
    rw [HX.out.2.2.2] at hr0
    have hxy:Ext [] wr wr.drew:=(Ext.refl [] wr).drew
    obtain⟨W,hW⟩:∃ W,wr.drew=W:=⟨_,rfl⟩
    rw [hW] at hr0 hxy ⊢
    clear hW
    have HY:=zz2 ⟨hxy,hr0⟩
    clear hxy hr0 n1 n2 n3 n4 n5
    refine anyC_one (f:=0) (i:=12) (by kernel_rfl) (by decide) rfl rfl (fun K9 hK9=>?_)
    go_wp2_with fail
    refine hK9 _ _ ⟨Ex.mk _ (HY.out.1.alloc _),rfl⟩ ?_
    clear hK9 K9
    refine⟨by kernel_rfl,?_⟩
    go_wp2_with (first | (at_builtin; refine wpList_append_lies _ rfl _ _ 36 rfl 0 24 i0 _ 2 16 Tryz.underlying36 hif hz0 hz1 hz2 rfl (by decide) (.slice ao3 m c3) m _ rfl (World.ownsRow.alloc HY.out.2 _) ⟨W.heap.size,0,none⟩ 1 1 [.int .i64 x.n,.int .i64 x.gen] rfl rfl (cells_two9 W (.int .i64 x.n) (.int .i64 x.gen) 24) (by simp [Value.oneCell']) (by decide) (by unfold maxLen; omega) (by omega) (by omega) (W.heap.size+1) (by simp) ?_; intro g6 cap2 w6 hown1 hgrow hat6 hlt6))
    have Pl:=push_local (w:=W) (cap:=cap2) (n:=m+1) hgrow (by rcases hat6 with q1 | q1; exact .inl q1; exact .inr (by omega))
    have S2:=HX.out.1.quiet HY.out.1
    refine NoPanic.normal ?_
    go_wp2_with fail
    go_roundg g
    case measure=>omega
    case rel=>
     have hl1:(A++[(x.n,x.gen)]).length=m+1:=by rw [List.length_append,HX.out.2.2.2]; rfl
     refine⟨i+1,A++[(x.n,x.gen)],by omega,by go_num,by omega,by rw [List.append_assoc]; exact HR.out,S2.upd 0 (oSl 24 2 (.slice (some ⟨g6,0,none⟩) (m+1) cap2) (A++[(x.n,x.gen)]).length (rfC (A++[(x.n,x.gen)]))) rfl (by rw [HX.out.2.2.2]; exact Pl.1) (by rw [HX.out.2.2.2]; exact Pl.2) ?_⟩
     show World.ownsRow _ 0 24 2 _ _ _
     rw [hl1,rfC_append]
     exact hown1
   ·have hR:=HX.out.2.1
    rw [if_neg (by simpa using k9)] at hR
    have HR:=zz hR
    have k9b:(x.kind==9)=false:=beq_eq_false_iff_ne.2 k9
    clear hR k9
    go_wp2_with fail
    go_roundg g
    case measure=>omega
    case rel=>exact⟨i+1,A,by omega,by go_num,by rw [HX.out.2.2.2]; omega,HR.out,by have:=HX.out.1; rw [HX.out.2.2.2] at this ⊢; exact this⟩
  ·obtain rfl:gk=0:=by omega
   have hRA:A=R:=by rw [←hR,List.drop_eq_nil_of_le (by rw [HH.out.2.2]; omega)]; simp
   subst hRA
   have HX:=zz S
   clear hR S hr0 hA hm
   go_wp2_with fail
   go_ret
   exact⟨_,rfl,HX.out⟩
theorem refsL_take (root:Rf) (L:List Om) (i:Nat):(refsL root (L.take i)).length≤(refsL root L).length:=by
 have h:L.flatMap refsOf=(L.take i).flatMap refsOf++(L.drop i).flatMap refsOf:=by rw [←List.flatMap_append,List.take_append_drop]
 unfold refsL
 rw [h]
 simp only [List.length_cons,List.length_append]
 omega
theorem refs27_walk (v:Value) (L:List Om) (root:Rf) (w:World) (h:OmsAt w v L) (hw:∀ x∈L,OmWf x) (hl:L.length≤100000) (hK:(refsL root L).length≤1048576) :
  Calls Tryz.prog 53 #[.agg #[v,.int .i64 root.1,.int .i64 root.2]] w fun e w'=>∃ v2,e=.returned v2∧Sep w w' [oSl 24 2 v2 (refsL root L).length (rfC (refsL root L))]:=by
 have hpre:∀ i,(refsL root (L.take i)).length≤1048576:=fun i=>Nat.le_trans (refsL_take root L i) hK
 obtain⟨m0,m1⟩:=root
 obtain⟨base,cap,rfl,-,hT⟩:=h
 obtain⟨n,hln⟩:∃ n,L.length=n:=⟨_,rfl⟩
 have HH:=zz4 ⟨hT,hln,hw,hpre⟩
 rw [hln] at hl ⊢
 clear hT hln hw hpre hK
 show Calls _ _ #[.agg #[_,.int .i64 m0,.int .i64 m1]] _ _
 go_enter Tryz.func53,Tryz.ntmps53
 go_upto_region 1 with fail
 refine gen_world (fun W0 hW=>?_)
 obtain⟨p0,hp⟩:∃ p,w.heap.size=p:=⟨_,rfl⟩
 (try rw [hp])
 have hx0:Ext [] w W0:=by rw [←hW]; exact (Ext.refl [] w).alloc _
 have hb0:W0.heap[p0]? = some (.cells #[.slice base n cap,.int .i64 m0,.int .i64 m1] 26 (0,0)):=by rw [←hW,←hp]; exact heap_alloc_at _
 have c1:=cellOf hb0 1
 have c2:=cellOf hb0 2
 have HB:=zz2 ⟨hx0,hb0⟩
 have S:=(Sep.start W0).new ((Ext.refl [] W0).alloc (.cells #[.int .i64 m0,.int .i64 m1] 24)) (oSl 24 2 (.slice (some ⟨W0.heap.size,0,none⟩) 1 1) (refsL (m0,m1) (L.take 0)).length (rfC (refsL (m0,m1) (L.take 0)))) (World.ownsRow_lit W0 #[.int .i64 m0,.int .i64 m1] 1 (Nat.zero_le _) (by decide) rfl) (fun k hk=>by
  obtain rfl:k=W0.heap.size:=by simpa [oSl,Value.ownBlock] using hk
  exact Nat.le_refl _)
 have HS:=zz S
 clear hW hp hx0 hb0 S
 go_wp2_with fail
 go_loopg [3,4] n (fun g ov iv wr=>∃ i:Nat,g+i=n∧iv=.int .i64 i∧Sep W0 wr [oSl 24 2 ov (refsL (m0,m1) (L.take i)).length (rfC (refsL (m0,m1) (L.take i)))])
 case atStart=>exact⟨0,by omega,rfl,HS.out⟩
 case round=>
  clear HS c1 c2
  obtain⟨i,hgi,rfl,S⟩:=hrel
  have hbw:=S.ext.keep HB.out.2 (by simp)
  have q0:=cellOf hbw 0
  clear hbw
  by_cases hlt:i<n
  case neg=>
   obtain rfl:gk=0:=by omega
   rw [List.take_of_length_le (by rw [HH.out.2.1]; omega)] at S
   have HF:=zz (sep_join ((Sep.start w).quiet HB.out.1) S)
   clear S
   go_wp2_with fail
   go_ret
   exact⟨_,rfl,by simpa using HF.out⟩
  case pos=>
  obtain⟨g,rfl⟩:∃ g,gk=g+1:=⟨gk - 1,by omega⟩
  have hltz:(i:Int)<(n:Int):=by omega
  have hil:i<L.length:=by rw [HH.out.2.1]; exact hlt
  obtain⟨b,o,rfl,d1,d2,d3,d4,d5,hN⟩:=HH.out.1.ext (HB.out.1.trans S.ext) i hil
  have hwx:=HH.out.2.2.1 _ (List.getElem_mem hil)
  have htk:L.take (i+1)=L.take i++[L[i]'hil]:=by rw [List.take_succ_eq_append_getElem hil]
  have hpr:=HH.out.2.2.2 (i+1)
  generalize L[i]'hil=x at *
  obtain⟨tb,tc,htv⟩:=tree_slice hN
  have hrl:refsL (m0,m1) (L.take (i+1))=refsL (m0,m1) (L.take i)++refsN x.tree:=by rw [htk,refsL_snoc]
  have HRf:=zz (refs17_walk x.tv x.tree wr hN hwx.lt)
  obtain⟨num,gen,tv,st,dt,tr⟩:=x
  have htv:tv=.slice tb tr.length tc:=htv
  subst htv
  dsimp only at d1 d2 d3 d4 d5 HRf hrl
  obtain⟨A,hA⟩:∃ A,refsL (m0,m1) (L.take i)=A:=⟨_,rfl⟩
  obtain⟨R,hR⟩:∃ R,refsN tr=R:=⟨_,rfl⟩
  obtain⟨tn,htn⟩:∃ tn,tr.length=tn:=⟨_,rfl⟩
  rw [hA] at S hrl
  rw [hR] at HRf hrl
  rw [htn] at d3 HRf
  rw [hrl] at hpr
  have hr0:wr.ownsRow 0 24 2 u3 A.length (rfC A):=S.get 0 rfl
  obtain⟨ao,c3,rfl⟩:=row_slice hr0
  have HX:=zz3 ⟨S,hrl,hpr⟩
  clear S hrl hpr hN hwx htk hA hR hr0 htn d1 d2 d4 d5
  go_wp2_with fail
  refine HRf.out.mono ?_
  rintro e w6 ⟨v2,rfl,S6⟩
  have SJ:=sep_join HX.out.1 S6
  obtain⟨rb,rc,rfl⟩:=row_slice (S6.get 0 rfl:w6.ownsRow 0 24 2 v2 R.length (rfC R))
  have hlen:=HX.out.2.2
  rw [List.length_append] at hlen
  obtain⟨ao2,cap2,w7,hr,ho,hx,hf⟩:=app_refs (SJ.get 1 rfl:w6.ownsRow 0 24 2 (.slice ao A.length c3) A.length (rfC A)) (RowAt.of_row (SJ.get 0 rfl:w6.ownsRow 0 24 2 (.slice rb R.length rc) R.length (rfC R))) hlen
  have S7:Sep W0 w7 [oSl 24 2 (.slice ao2 (A++R).length cap2) (A++R).length (rfC (A++R))]:=Sep.tail (SJ.upd 1 (oSl 24 2 (.slice ao2 (A++R).length cap2) (A++R).length (rfC (A++R))) rfl hx hf ho)
  have HR:=zz hr
  have HS:=zz S7
  clear SJ S6 hr ho hx hf S7 hlen HRf d3 q0
  go_wp2_with (at_builtin; refine wpList_plain rfl (fun K9 hK9=>wp_append_run _ _ _ _ rfl rfl rfl (HR.out _) (hK9 _ _ ?_)))
  go_roundg g
  case measure=>omega
  case rel=>exact⟨i+1,by omega,by go_num,by rw [HX.out.2.1]; have h:=HS.out; rw [List.length_append] at h ⊢; exact h⟩
theorem above27_walk (v:Value) (L:List Om) (root:Rf) (w:World) (h:OmsAt w v L) (hw:∀ x∈L,OmWf x) (hl:L.length≤100000) (hK:(refsL root L).length≤1048576) (hm:mostN root L<9223372036854775807) :
  Calls Tryz.prog 17 #[.agg #[v,.int .i64 root.1,.int .i64 root.2]] w fun e w'=>e=.returned (.int .i64 (mostN root L+1))∧Ext [] w w':=by
 have HR:=zz (fun W (hx:Ext [] w W)=>refs27_walk v L root W (h.ext hx) hw hl hK)
 obtain⟨m0,m1⟩:=root
 obtain⟨base,cap,rfl,-,hT⟩:=h
 obtain⟨n,hln⟩:∃ n,L.length=n:=⟨_,rfl⟩
 obtain⟨Z,hZ⟩:∃ Z,refsL (m0,m1) L=Z:=⟨_,rfl⟩
 obtain⟨zn,hzn⟩:∃ zn,Z.length=zn:=⟨_,rfl⟩
 have HH:=zz5 ⟨hT,hln,hm,hZ,hzn⟩
 rw [hZ] at hK
 rw [hzn] at hK
 rw [hln] at hl HR ⊢
 simp only [hZ,hzn] at HR
 clear hT hln hw hm hZ hzn
 show Calls _ _ #[.agg #[_,.int .i64 m0,.int .i64 m1]] _ _
 go_enter Tryz.func17,Tryz.ntmps17
 go_upto_region 1 with fail
 refine gen_world (fun W0 hW=>?_)
 obtain⟨p0,hp⟩:∃ p,w.heap.size=p:=⟨_,rfl⟩
 (try rw [hp])
 have hx0:Ext [] w W0:=by rw [←hW]; exact (Ext.refl [] w).alloc _
 have hb0:W0.heap[p0]? = some (.cells #[.slice base n cap,.int .i64 m0,.int .i64 m1] 26 (0,0)):=by rw [←hW,←hp]; exact heap_alloc_at _
 have c0:=cellOf hb0 0
 have c1:=cellOf hb0 1
 have c2:=cellOf hb0 2
 have HB:=zz2 ⟨hx0,hb0⟩
 clear hW hp hx0 hb0
 go_wp2_with fail
 refine (HR.out _ HB.out.1).mono ?_
 rintro e w1 ⟨v2,rfl,S⟩
 have hr0:w1.ownsRow 0 24 2 v2 Z.length (rfC Z):=by rw [HH.out.2.2.2.2]; exact S.get 0 rfl
 obtain⟨rb,rc,rfl,hRr⟩:=RowAt.of_row hr0
 rw [HH.out.2.2.2.2]
 have HS:=zz2 ⟨S.ext,hRr⟩
 clear S hr0 hRr HR c0 c1 c2
 go_wp2_with fail
 have H1:=zz (Ext.refl [] w1)
 go_loopg [3,5] zn (fun g mv iv wx=>∃ i:Nat,g+i=zn∧iv=.int .i64 i∧mv=.int .i64 (maxN ((Z.take i).map (·.1)) 0)∧Ext [] w1 wx)
 case atStart=>exact⟨0,by omega,rfl,rfl,H1.out⟩
 case round=>
  clear H1
  obtain⟨i,hgi,rfl,rfl,hx⟩:=hrel
  by_cases hlt:i<zn
  case pos=>
   obtain⟨g,rfl⟩:∃ g,gk=g+1:=⟨gk - 1,by omega⟩
   have hltz:(i:Int)<(zn:Int):=by omega
   have hia:i<Z.length:=by rw [HH.out.2.2.2.2]; exact hlt
   obtain⟨d1,d2⟩:=rfC_at Z i hia
   obtain⟨b1,rfl,x1⟩:=HS.out.2 _ _ d1
   clear d1 d2
   have x1:=hx.cell x1
   have htk:(Z.take (i+1)).map (·.1)=(Z.take i).map (·.1)++[(Z[i]'hia).1]:=by rw [List.take_succ_eq_append_getElem hia,List.map_append]; rfl
   have hmx:=maxN_snoc ((Z.take i).map (·.1)) (Z[i]'hia).1 0
   rw [←htk] at hmx
   generalize (Z[i]'hia).1=q at *
   obtain⟨y,hy⟩:∃ y,maxN ((Z.take i).map (·.1)) 0=y:=⟨_,rfl⟩
   rw [hy] at hmx ⊢
   have HMX:=zz2 ⟨hmx,hx⟩
   clear hmx hx hy htk
   rcases Int.le_total y q with hle | hle
   all_goals (
    have qm:=(show max y q=_ from by first | exact Int.max_eq_right hle | exact Int.max_eq_left hle)
    go_wp2_with fail
    go_roundg g
    case measure=>omega
    case rel=>exact⟨i+1,by omega,by go_num,by rw [HMX.out.1,qm],HMX.out.2⟩)
  case neg=>
  obtain rfl:gk=0:=by omega
  rw [List.take_of_length_le (by rw [HH.out.2.2.2.2]; omega)]
  obtain⟨m,hm⟩:∃ m,maxN (Z.map (·.1)) 0=m:=⟨_,rfl⟩
  have hm0:0≤m:=by rw [←hm]; exact (max_spec (Z.map (·.1)) 0).1
  rw [hm]
  have HXE:=zz3 ⟨HS.out.1.trans hx,hm,hm0⟩
  clear hx hm hm0
  go_wp2_with fail
  have H4:=zz (Ext.refl [] wr)
  go_loopg [3,6] n (fun g mv iv wx=>∃ i:Nat,g+i=n∧iv=.int .i64 i∧mv=.int .i64 (maxN ((L.take i).map (·.num)) m)∧Ext [] wr wx)
  case atStart=>exact⟨0,by omega,rfl,rfl,H4.out⟩
  case round=>
   clear H4
   obtain⟨i,hgi,rfl,rfl,hx⟩:=hrel
   have q0:=cellOf ((HXE.out.1.trans hx).keep HB.out.2 (by simp)) 0
   by_cases hlt:i<n
   case neg=>
    obtain rfl:gk=0:=by omega
    rw [List.take_of_length_le (by rw [HH.out.2.1]; omega)]
    have hmost:maxN (L.map (·.num)) m=mostN (m0,m1) L:=by rw [mostN,HH.out.2.2.2.1,HXE.out.2.1]
    rw [hmost]
    have hlo:0≤mostN (m0,m1) L:=by
     rw [←hmost]
     have:=(max_spec (L.map (·.num)) m).1
     have:=HXE.out.2.2
     omega
    have hhi:=HH.out.2.2.1
    obtain⟨M,hM⟩:∃ M,mostN (m0,m1) L=M:=⟨_,rfl⟩
    rw [hM] at hlo hhi ⊢
    have HF:=zz2 ⟨(HB.out.1.trans HXE.out.1).trans hx,hM⟩
    clear hx hmost hM
    go_wp2_with fail
    go_ret
    exact⟨by rw [HF.out.2]; rfl,HF.out.1⟩
   case pos=>
   obtain⟨g,rfl⟩:∃ g,gk=g+1:=⟨gk - 1,by omega⟩
   have hltz:(i:Int)<(n:Int):=by omega
   have hil:i<L.length:=by rw [HH.out.2.1]; exact hlt
   obtain⟨b,o,rfl,c1,c2,c3,c4,c5,hN⟩:=(HH.out.1.ext (HB.out.1.trans HXE.out.1)).ext hx i hil
   have htk:(L.take (i+1)).map (·.num)=(L.take i).map (·.num)++[(L[i]'hil).num]:=by rw [List.take_succ_eq_append_getElem hil,List.map_append]; rfl
   generalize (L[i]'hil)=x at *
   obtain⟨num,gen,tv,st,dt,tr⟩:=x
   dsimp only at c1 htk
   have hmx:=maxN_snoc ((L.take i).map (·.num)) num m
   rw [←htk] at hmx
   obtain⟨y,hy⟩:∃ y,maxN ((L.take i).map (·.num)) m=y:=⟨_,rfl⟩
   rw [hy] at hmx ⊢
   have HMX:=zz2 ⟨hmx,hx⟩
   clear hmx hx hy htk hN c2 c3 c4 c5
   rcases Int.le_total y num with hle | hle
   all_goals (
    have qm:=(show max y num=_ from by first | exact Int.max_eq_right hle | exact Int.max_eq_left hle)
    go_wp2_with fail
    go_roundg g
    case measure=>omega
    case rel=>exact⟨i+1,by omega,by go_num,by rw [HMX.out.1,qm],HMX.out.2⟩)
theorem all_take {L:List Om} {i:Nat} (hi:i<L.length) (h:∀ x∈L.take i,lightL x.tree 60=true) (h1:lightL (L[i]'hi).tree 60=true):∀ x∈L.take (i+1),lightL x.tree 60=true:=fun x hx=>by
 rw [List.take_succ_eq_append_getElem hi,List.mem_append,List.mem_singleton] at hx
 rcases hx with hx | rfl
 ·exact h x hx
 ·exact h1
def LGPost (L:List Om) (w:World) (e:Ending) (w' : World):Prop:=∃ b,e=.returned (.bool b)∧Ext [] w w'∧(b=true→(∀ x∈L,lightL x.tree 60=true)∧L.length≤20)
theorem lightG_walk (v:Value) (L:List Om) (root:Rf) (w:World) (h:OmsAt w v L) (hw:∀ x∈L,x.tree.length≤9223372036854775807) (hl:L.length≤9223372036854775807) :
  Calls Tryz.prog 15 #[.agg #[v,.int .i64 root.1,.int .i64 root.2]] w (LGPost L w):=by
 obtain⟨m0,m1⟩:=root
 obtain⟨base,cap,rfl,-,hT⟩:=h
 obtain⟨n,hln⟩:∃ n,L.length=n:=⟨_,rfl⟩
 have HH:=zz3 ⟨hT,hln,hw⟩
 rw [hln] at hl
 rw [hln]
 clear hT hln hw
 show Calls _ _ #[.agg #[_,.int .i64 m0,.int .i64 m1]] _ _
 go_enter Tryz.func15,Tryz.ntmps15
 go_upto_region 1 with fail
 refine gen_world (fun W0 hW=>?_)
 obtain⟨p0,hp⟩:∃ p,w.heap.size=p:=⟨_,rfl⟩
 (try rw [hp])
 have hx0:Ext [] w W0:=by rw [←hW]; exact (Ext.refl [] w).alloc _
 have hb0:W0.heap[p0]? = some (.cells #[.slice base n cap,.int .i64 m0,.int .i64 m1] 26 (0,0)):=by rw [←hW,←hp]; exact heap_alloc_at _
 have HB:=zz2 ⟨hx0,hb0⟩
 have c0:=cellOf hb0 0
 clear hW hp hx0 hb0
 go_wp2_with fail
 go_loopg [3,4,5] n (fun g iv kv cv wr=>∃ i:Nat,g+i=n∧iv=.int .i64 i∧(∀ x∈L.take i,lightL x.tree 60=true)∧Ext [] W0 wr)
 case atStart=>exact⟨0,by omega,rfl,fun x hx=>(by cases hx),Ext.refl _ _⟩
 case round=>
  clear c0
  obtain⟨i,hgi,rfl,hA,hx⟩:=hrel
  have hbw:=hx.keep HB.out.2 (by simp)
  have q0:=cellOf hbw 0
  have q1:=cellOf hbw 1
  clear hbw
  by_cases hlt:i<n
  case neg=>
   obtain rfl:gk=0:=by omega
   rw [List.take_of_length_le (by rw [HH.out.2.1]; omega)] at hA
   have HF:=zz2 ⟨HB.out.1.trans hx,hA⟩
   clear hA hx
   by_cases h20:(n:Int)≤20
   case neg=>
    go_wp2_with fail
    go_ret
    exact⟨_,rfl,HF.out.1,fun hb=>by cases hb⟩
   case pos=>
    by_cases hm:m0≤1000
    case pos=>
     go_wp2_with fail
     go_ret
     exact⟨_,rfl,HF.out.1,fun _=>⟨HF.out.2,by have:=HH.out.2.1; omega⟩⟩
    case neg=>
     by_cases hm2:(131072:Int)≤m0
     all_goals (
      go_wp2_with fail
      go_ret
      exact⟨_,rfl,HF.out.1,fun _=>⟨HF.out.2,by have:=HH.out.2.1; omega⟩⟩)
  case pos=>
  clear q1
  obtain⟨g,rfl⟩:∃ g,gk=g+1:=⟨gk - 1,by omega⟩
  have hltz:(i:Int)<(n:Int):=by omega
  have hil:i<L.length:=by rw [HH.out.2.1]; exact hlt
  obtain⟨b,o,rfl,d1,d2,d3,d4,d5,hN⟩:=HH.out.1.ext (HB.out.1.trans hx) i hil
  have hwx:=HH.out.2.2 _ (List.getElem_mem hil)
  have hstep:=all_take hil hA
  generalize L[i]'hil=x at *
  obtain⟨tb,tc,htv⟩:=tree_slice hN
  have HLt:=zz (light_walk x.tv x.tree 60 wr hN hwx)
  obtain⟨num,gen,tv,st,dt,tr⟩:=x
  have htv:tv=.slice tb tr.length tc:=htv
  subst htv
  dsimp only at d1 d2 d3 d4 d5 HLt hstep hN
  obtain⟨tn,htn⟩:∃ tn,tr.length=tn:=⟨_,rfl⟩
  obtain⟨bl,hbl⟩:∃ bl,lightL tr 60=bl:=⟨_,rfl⟩
  rw [htn] at d3 HLt
  rw [hbl] at HLt hstep
  have htn9:tn≤9223372036854775807:=by have:=hwx; dsimp only at this; omega
  obtain⟨tb2,tc2,hsl,hnt,hND⟩:=hN
  obtain⟨rfl,rfl⟩:tb=tb2∧tc=tc2:=by simpa using hsl
  have HX:=zz5 ⟨hx,hA,hstep,hND,htn⟩
  clear hx hA hstep hND htn hbl hsl hnt hwx d2 d4
  cases bl with
  | false=>
   clear d1 d5
   go_wp2_with fail
   refine HLt.out.mono ?_
   rintro e w1 ⟨rfl,rfl⟩
   go_wp2_with fail
   go_ret
   exact⟨_,rfl,HB.out.1.trans HX.out.1,fun hb=>by cases hb⟩
  | true=>
  by_cases q600:(600:Int)<(dt.size:Int)
  case pos=>
   clear d1
   go_wp2_with fail
   refine HLt.out.mono ?_
   rintro e w1 ⟨rfl,rfl⟩
   go_wp2_with fail
   go_ret
   exact⟨_,rfl,HB.out.1.trans HX.out.1,fun hb=>by cases hb⟩
  case neg=>
  have hcase:((1000:Int)<num∧num<131072)∨((1000:Int)<num∧¬ num<131072)∨¬ (1000:Int)<num:=by omega
  rcases hcase with ⟨qa,qb⟩ | hrest
  ·go_wp2_with fail
   refine HLt.out.mono ?_
   rintro e w1 ⟨rfl,rfl⟩
   go_wp2_with fail
   go_ret
   exact⟨_,rfl,HB.out.1.trans HX.out.1,fun hb=>by cases hb⟩
  rcases hrest with ⟨qa,qb⟩ | qa
  all_goals (
   go_wp2_with fail
   refine HLt.out.mono ?_
   rintro e w1 ⟨rfl,rfl⟩
   go_wp2_with fail
   have H1:=zz (Ext.refl [] wr)
   clear d1 d5 q600 qa
   (try clear qb)
   go_loopg [4,5] tn (fun g2 kv cv wx=>∃ k:Nat,g2+k=tn∧kv=.int .i64 k∧Ext [] wr wx)
   case atStart=>exact⟨0,by omega,rfl,H1.out⟩
   case round=>
    clear H1
    obtain⟨k,hgk,rfl,hx2⟩:=hrel
    have d3:=hx2.cell d3
    have q0:=hx2.cell q0
    by_cases hlk:k<tn
    case neg=>
     obtain rfl:gk=0:=by omega
     have HX2:=zz hx2
     clear hx2
     go_wp2_with fail
     go_roundg g
     case measure=>omega
     case rel=>exact⟨i+1,by omega,by go_num,HX.out.2.2.1 trivial,HX.out.1.trans HX2.out⟩
    case pos=>
     obtain⟨g2,rfl⟩:∃ g2,gk=g2+1:=⟨gk - 1,by omega⟩
     have hlkz:(k:Int)<(tn:Int):=by omega
     obtain⟨b3,o3,rfl,n1,n2,n3,n4,nw,bk,ck,n5,n6⟩:=HX.out.2.2.2.1 k (by rw [HX.out.2.2.2.2]; exact hlk)
     generalize tr[k]'(by rw [HX.out.2.2.2.2]; exact hlk)=nd at *
     have n1:=hx2.cell n1
     have n2:=hx2.cell n2
     have n3:=hx2.cell n3
     have n4:=hx2.cell n4
     have n5:=hx2.cell n5
     have HX2:=zz hx2
     clear hx2 nw n6
     have hc:(nd.kind=9∧(1000:Int)<nd.n∧nd.n<131072)∨(nd.kind=9∧(1000:Int)<nd.n∧¬ nd.n<131072)∨(nd.kind=9∧¬ (1000:Int)<nd.n)∨¬ nd.kind=9:=by omega
     rcases hc with ⟨e9,ea,eb⟩ | ⟨e9,ea,eb⟩ | ⟨e9,ea⟩ | e9
     ·go_wp2_with fail
      go_ret
      exact⟨_,rfl,HB.out.1.trans (HX.out.1.trans (HX2.out.trans ((Ext.refl [] _).alloc _))),fun hb=>by cases hb⟩
     all_goals (
      go_wp2_with fail
      go_roundg g2
      case measure=>omega
      case rel=>exact⟨k+1,by omega,by go_num,HX2.out.trans ((Ext.refl [] _).alloc _)⟩))
theorem sizeGraph27:(Tryz.prog.info? 26).map (·.size)=some 3:=by kernel_rfl
theorem put27_walk (v:Value) (L:List Om) (root:Rf) (x:Om) (w:World) (h:OmsAt w v L) (hx:NodesAt w x.tv x.tree) (hlt:∀ y∈L,y.num<x.num) (hl:L.length≤1000) :
  Calls Tryz.prog 20 #[.agg #[v,.int .i64 root.1,.int .i64 root.2],omV x] w fun e w'=>∃ v2,e=.returned (.agg #[v2,.int .i64 root.1,.int .i64 root.2])∧Ext [] w w'∧OmsAt w' v2 (L++[x]):=by
 obtain⟨m0,m1⟩:=root
 obtain⟨j0,hjf,hy0,hy1,hy2⟩:=info_parts infoObj28
 have hON:=oms_nodes h
 obtain⟨base,cap,rfl,-,hT⟩:=h
 obtain⟨n,hln⟩:∃ n,L.length=n:=⟨_,rfl⟩
 obtain⟨ob,oc,hov⟩:=tree_slice hx
 obtain⟨on,og,otv,ost,odt,otr⟩:=x
 have hov:otv=.slice ob otr.length oc:=hov
 subst hov
 obtain⟨ol,hol⟩:∃ k,otr.length=k:=⟨_,rfl⟩
 dsimp only [omV] at hx hlt ⊢
 rw [hol] at hx ⊢
 have HH:=zz5 ⟨hT,hln,hlt,hx,hON⟩
 rw [hln] at hl ⊢
 clear hT hln hlt hx hON hol
 show Calls _ _ #[.agg #[_,.int .i64 m0,.int .i64 m1],.agg #[.int .i64 on,.int .i64 og,.slice ob ol oc,.bool ost,.string odt]] _ _
 obtain⟨p,hp⟩:∃ p,w.heap.size=p:=⟨_,rfl⟩
 go_enter Tryz.func20,Tryz.ntmps20
 go_upto_region 1 with (fail)
 refine gen_world (fun W0 hW=>?_)
 have hx0:Ext [] w W0:=by rw [←hW]; exact (((Ext.refl [] w).alloc _).alloc _).alloc _
 have hsz:W0.heap.size=p+3:=by rw [←hW]; simp [hp]
 have hbA:W0.heap[p]? = some (.cells #[.slice base n cap,.int .i64 m0,.int .i64 m1] 26 (0,0)):=by rw [←hW,←hp]; exact heap_alloc_old _ (heap_alloc_old _ (heap_alloc_at _))
 have hbO:W0.heap[p+1]? = some (.cells #[.int .i64 on,.int .i64 og,.slice ob ol oc,.bool ost,.string odt] 35 (0,0)):=by
  rw [←hW]
  have:=heap_alloc_at (w:=w.alloc (.cells #[.slice base n cap,.int .i64 m0,.int .i64 m1] 26)) (.cells #[.int .i64 on,.int .i64 og,.slice ob ol oc,.bool ost,.string odt] 35)
  rw [show (w.alloc (.cells #[.slice base n cap,.int .i64 m0,.int .i64 m1] 26)).heap.size=p+1 from by simp [hp]] at this
  exact heap_alloc_old _ this
 have hbR:W0.heap[p+2]? = some (.cells #[.slice none 0 0,.int .i64 0,.int .i64 0] 26 (0,0)):=by
  rw [←hW]
  have:=heap_alloc_at (w:=(w.alloc (.cells #[.slice base n cap,.int .i64 m0,.int .i64 m1] 26)).alloc (.cells #[.int .i64 on,.int .i64 og,.slice ob ol oc,.bool ost,.string odt] 35)) (.cells #[.slice none 0 0,.int .i64 0,.int .i64 0] 26)
  rw [show ((w.alloc (.cells #[.slice base n cap,.int .i64 m0,.int .i64 m1] 26)).alloc (.cells #[.int .i64 on,.int .i64 og,.slice ob ol oc,.bool ost,.string odt] 35)).heap.size=p+2 from by simp [hp]] at this
  exact this
 have HB:=zz6 ⟨hx0,hbA,hbO,hbR,hsz,hp⟩
 (try simp only [hp])
 have c0:=cellOf hbA 0
 have c1:=cellOf hbA 1
 have c2:=cellOf hbA 2
 clear hW hx0 hsz hbA hbO hbR
 go_upto_region 2 with (fail)
 refine gen_world (fun W1 hW=>?_)
 obtain⟨p5,hp5⟩:∃ q,W0.heap.size=q:=⟨_,rfl⟩
 (try rw [hp5])
 have hx1:Ext [] W0 W1:=by rw [←hW]; exact (Ext.refl [] W0).alloc _
 have hb5:W1.heap[p5]? = some (.cells #[.slice none 0 0,.int .i64 m0,.int .i64 m1] 26 (0,0)):=by rw [←hW,←hp5]; exact heap_alloc_at _
 have S1:=((Sep.start W0).new hx1 (Ob.one p5 (.cells #[.slice none 0 0,.int .i64 m0,.int .i64 m1] 26 (0,0))) hb5 (fun k hk=>by simp [Ob.one] at hk; omega)).new (Ext.refl _ _) (oSl 35 5 (.slice none 0 0) 0 []) (World.ownsRow_nil _ _ _ _) (fun q hq=>by simp [oSl,Value.ownBlock] at hq)
 have HS1:=zz S1
 clear hW hx1 hb5 S1 hp5 c0 c1 c2
 go_wp2_with fail
 go_loopg [6,7] n (fun g dv iv wx=>∃ (i:Nat) (qv:Value),g+i=n∧iv=.int .i64 i∧dv=.bool false∧Sep W0 wx [oSl 35 5 qv (L.take i).length (omsC (L.take i)),Ob.one p5 (.cells #[qv,.int .i64 m0,.int .i64 m1] 26 (0,0))])
 case atStart=>exact⟨0,.slice none 0 0,by omega,rfl,rfl,HS1.out⟩
 case round=>
  clear HS1
  obtain⟨i,qv,hgi,rfl,rfl,S⟩:=hrel
  have hal:(L.take i).length=i:=by rw [List.length_take,HH.out.2.1]; omega
  rw [hal] at S
  have hr0:wr.ownsRow 0 35 5 qv i (omsC (L.take i)):=S.get 0 rfl
  obtain⟨qa,qc,rfl⟩:=row_slice hr0
  have hbA:=S.ext.keep HB.out.2.1 (by simp)
  have hbO:=S.ext.keep HB.out.2.2.1 (by simp)
  have hb5:wr.heap[p5]? = some (.cells #[.slice qa i qc,.int .i64 m0,.int .i64 m1] 26 (0,0)):=S.get 1 rfl
  have hne5:(Value.slice qa i qc).ownBlock≠some p5:=fun e=>S.apart 0 1 _ _ rfl rfl (by omega) p5 (by simp [oSl,e]) (by simp [Ob.one])
  by_cases hli:i<n
  case neg=>
   obtain rfl:gk=0:=by omega
   obtain rfl:i=n:=by omega
   have htk:L.take i=L:=List.take_of_length_le (by rw [HH.out.2.1]; exact Nat.le_refl _)
   rw [htk] at hr0 S
   have c0:=cellOf hbA 0
   have o0:=cellOf hbO 0
   have o1:=cellOf hbO 1
   have o2:=cellOf hbO 2
   have o3:=cellOf hbO 3
   have o4:=cellOf hbO 4
   have g0:=cellOf hb5 0
   have fg0:=freeOf hb5 0
   have HW:=zz4 ⟨S,hr0,hb5,hne5⟩
   clear S hr0 hb5 hne5 hbA hbO htk hal
   go_upto_region 12 with (first | (at_builtin; refine wpList_append_lies _ rfl _ _ 22 rfl 0 35 j0 _ 5 64 Tryz.underlying22 hjf hy0 hy1 hy2 rfl (by decide) (.slice qa i qc) i _ rfl (World.ownsRow.alloc HW.out.2.1 _) ⟨wr.heap.size,0,none⟩ 1 1 [.int .i64 on,.int .i64 og,.slice ob ol oc,.bool ost,.string odt] rfl rfl (World.news_of_block (heap_alloc_at (w:=wr) _)) (by simp [Value.oneCell']) (by decide) (by unfold maxLen; omega) (by omega) (by omega) (wr.heap.size+1) (by simp) ?_; intro g6 cap2 w9 hown1 hgrow hat6 hlt6; have hb9:=grown_keep hgrow (heap_alloc_old _ HW.out.2.2.1) HW.out.2.2.2; have e9:=cellOf hb9 0; have f9:=freeOf hb9 0; have HG:=zz4 ⟨hown1,hgrow,hat6,hb9⟩; clear hown1 hgrow hat6 hlt6 hb9 c0 o0 o1 o2 o3 o4 g0 fg0))
   have Pl:=push_local (cap:=cap2) (n:=i+1) HG.out.2.1 HG.out.2.2.1
   have hl1:(L++[(⟨on,og,.slice ob ol oc,ost,odt,otr⟩:Om)]).length=i+1:=by rw [List.length_append,HH.out.2.1]; rfl
   have S9:=HW.out.1.upd 0 (oSl 35 5 (.slice (some ⟨g6,0,none⟩) (i+1) cap2) (i+1) (omsC (L++[(⟨on,og,.slice ob ol oc,ost,odt,otr⟩:Om)]))) rfl Pl.1 Pl.2 (by
    show World.ownsRow _ 0 35 5 _ _ _
    rw [omsC_append]
    exact HG.out.1)
   have S10:=S9.upd 1 (Ob.one p5 (.cells #[.slice (some ⟨g6,0,none⟩) (i+1) cap2,.int .i64 m0,.int .i64 m1] 26 (0,0))) rfl ((Ext.refl _ w9).setCell ⟨p5,0,none⟩ _ (.inl (by simp [Ob.one]))) (Fr.refl _ _) (heap_setCell_same (i:=0) HG.out.2.2.2 (.slice (some ⟨g6,0,none⟩) (i+1) cap2))
   refine gen_world (fun V hV=>?_)
   rw [hV] at S10
   have hbV:V.heap[p5]? = some (.cells #[.slice (some ⟨g6,0,none⟩) (i+1) cap2,.int .i64 m0,.int .i64 m1] 26 (0,0)):=S10.get 1 rfl
   have hrV:V.ownsRow 0 35 5 (.slice (some ⟨g6,0,none⟩) (i+1) cap2) (i+1) (omsC (L++[(⟨on,og,.slice ob ol oc,ost,odt,otr⟩:Om)])):=S10.get 0 rfl
   have hbR:=S10.ext.keep HB.out.2.2.2.1 (by simp)
   have hO:(Value.slice (some ⟨g6,0,none⟩) (i+1) cap2).ownBlock≠some (p+2):=fun e=>by
    have h1:=S10.base (oSl 35 5 (.slice (some ⟨g6,0,none⟩) (i+1) cap2) (i+1) (omsC (L++[(⟨on,og,.slice ob ol oc,ost,odt,otr⟩:Om)]))) (by simp) (p+2) (by simp [oSl,e])
    have h2:=HB.out.2.2.2.2.1
    omega
   have k0:=cellOf hbV 0
   have k1:=cellOf hbV 1
   have k2:=cellOf hbV 2
   have l0:=cellOf hbR 0
   have l1:=cellOf hbR 1
   have l2:=cellOf hbR 2
   have f0:=freeOf hbR 0
   have f1:=freeOf hbR 1
   have f2:=freeOf hbR 2
   have HF:=zz5 ⟨HB.out.1.trans S10.ext,hO,hbR,hrV,hl1⟩
   clear Pl S9 S10 hV hbV hrV hbR hO hl1 HG HW e9 f9
   go_wp2_with fail
   (try simp only [Exit.inBlock,Exit.then])
   refine bodyPost_ret (results_cell_row rfl _ _ (p+2) 26 #[.slice (some ⟨g6,0,none⟩) (i+1) cap2,.int .i64 m0,.int .i64 m1] (0,0) _ rfl (heap_setCell_same (heap_setCell_same (heap_setCell_same HF.out.2.2.1 _) _) _) Tryz.underlying26 rfl sizeGraph27) rfl ?_
   have hpW:w.heap.size≤p+2:=by have:=HB.out.2.2.2.2.2; omega
   have hxF:=((HF.out.1.setCell ⟨p+2,0,none⟩ (.slice (some ⟨g6,0,none⟩) (i+1) cap2) (.inr hpW)).setCell ⟨p+2,1,none⟩ (.int .i64 m0) (.inr hpW)).setCell ⟨p+2,2,none⟩ (.int .i64 m1) (.inr hpW)
   refine⟨_,rfl,hxF,oms_of_row (by rw [HF.out.2.2.2.2]; exact ownsRow_setCell_other (ownsRow_setCell_other (ownsRow_setCell_other HF.out.2.2.2.1 HF.out.2.1 _) HF.out.2.1 _) HF.out.2.1 _) (fun y hy=>?_)⟩
   rcases List.mem_append.1 hy with hy | hy
   ·exact (HH.out.2.2.2.2 y hy).ext hxF
   ·obtain rfl:=List.mem_singleton.1 hy
    exact HH.out.2.2.2.1.ext hxF
  case pos=>
  obtain⟨g,rfl⟩:∃ g,gk=g+1:=⟨gk - 1,by omega⟩
  have hltz:(i:Int)<(n:Int):=by omega
  have hil:i<L.length:=by rw [HH.out.2.1]; exact hli
  obtain⟨b,o,rfl,d1,d2,d3,d4,d5,hN⟩:=(HH.out.1.ext HB.out.1).ext S.ext i hil
  have hnum:=HH.out.2.2.1 _ (List.getElem_mem hil)
  have htk:L.take (i+1)=L.take i++[L[i]'hil]:=by rw [List.take_succ_eq_append_getElem hil]
  generalize L[i]'hil=x at *
  obtain⟨tb,tc,htv⟩:=tree_slice hN
  obtain⟨num,gen,tv,st,dt,tr⟩:=x
  have htv:tv=.slice tb tr.length tc:=htv
  subst htv
  obtain⟨tl,htl⟩:∃ k,tr.length=k:=⟨_,rfl⟩
  rw [htl] at d3 htk
  dsimp only at d1 d2 d3 d4 d5 hnum htk
  have hd:decide (on≤num)=false:=decide_eq_false (by omega)
  have hne:(num != on)=true:=bne_iff_ne.2 (by omega)
  have c0:=cellOf hbA 0
  have o0:=cellOf hbO 0
  have HX:=zz6 ⟨S,htk,hr0,hb5,hne5,hbA⟩
  have HDD:=zz4 ⟨d2,d3,d4,d5⟩
  clear S htk hr0 hb5 hne5 hbA hbO hN hnum htl hal d2 d3 d4 d5
  go_upto_region 6 with (fail)
  go_quiet (fail)
  go_upto_region 8 with (fail)
  go_quiet (fail)
  go_upto_region 9 with (fail)
  refine gen_world (fun V hV=>?_)
  have hxV:Ext [] wr V:=by rw [←hV]; exact ((Ext.refl [] wr).drewN _).drewN _
  have S1:=HX.out.1.quiet hxV
  have hbA:=hxV.keep HX.out.2.2.2.2.2 (by simp)
  have hb5:V.heap[p5]? = some (.cells #[.slice qa i qc,.int .i64 m0,.int .i64 m1] 26 (0,0)):=S1.get 1 rfl
  have hr0:V.ownsRow 0 35 5 (.slice qa i qc) i (omsC (L.take i)):=S1.get 0 rfl
  have k0:∀ y:Ex V,y.w.cell? ⟨p,0,none⟩=some (.slice (some ⟨b,o,none⟩) n cap):=fun y=>y.cell (cellOf hbA 0)
  have k5:∀ y:Ex V,y.w.cell? ⟨p5,0,none⟩=some (.slice qa i qc):=fun y=>y.cell (cellOf hb5 0)
  have j0' : ∀ y:Ex V,y.w.cell? ⟨b,o+i*5,none⟩=some (.int .i64 num):=fun y=>y.cell (hxV.cell d1)
  have j1' : ∀ y:Ex V,y.w.cell? ⟨b,o+i*5+1,none⟩=some (.int .i64 gen):=fun y=>y.cell (hxV.cell HDD.out.1)
  have j2' : ∀ y:Ex V,y.w.cell? ⟨b,o+i*5+2,none⟩=some (.slice tb tl tc):=fun y=>y.cell (hxV.cell HDD.out.2.1)
  have j3' : ∀ y:Ex V,y.w.cell? ⟨b,o+i*5+3,none⟩=some (.bool st):=fun y=>y.cell (hxV.cell HDD.out.2.2.1)
  have j4' : ∀ y:Ex V,y.w.cell? ⟨b,o+i*5+4,none⟩=some (.string dt):=fun y=>y.cell (hxV.cell HDD.out.2.2.2)
  have HW:=zz5 ⟨S1.quiet ((Ext.refl [] V).drew),hr0.drew,heap_drew.trans hb5,HX.out.2.2.2.2.1,HX.out.2.1⟩
  clear S1 hbA hb5 hr0 hV d1 c0 o0 HX HDD hd hne
  refine wp_region_perm (C:=fun w'=>∃ y:Ex V,w' = y.w) [0,1,2,3,4,5,6] 8 (by kernel_rfl) (by kernel_rfl) ⟨Ex.mk _ ((Ext.refl [] V).drew),rfl⟩ ?_
  simp only [pick,List.getElem?_toArray,List.getElem?_cons_zero,List.getElem?_cons_succ,List.drop_succ_cons,List.drop_zero]
  repeat (go_big_quiet_step (fail))
  refine wpQuiet_nil ?_
  clear k0 k5 j0' j1' j2' j3' j4'
  refine anyC_one (f:=0) (i:=7) (by kernel_rfl) (by decide) rfl rfl (fun K9 hK9=>?_)
  go_wp2_with fail
  refine hK9 _ _ ⟨Ex.mk _ (((Ext.refl [] V).drew).alloc _),rfl⟩ ?_
  clear hK9 K9
  refine anyC_end (by kernel_rfl) ?_
  have g0:=cellOf (heap_alloc_old (.cells #[.int .i64 num,.int .i64 gen,.slice tb tl tc,.bool st,.string dt] 35) HW.out.2.2.1) 0
  have fg0:=freeOf (heap_alloc_old (.cells #[.int .i64 num,.int .i64 gen,.slice tb tl tc,.bool st,.string dt] 35) HW.out.2.2.1) 0
  go_wp2_with (first | (at_builtin; refine wpList_append_lies _ rfl _ _ 22 rfl 0 35 j0 _ 5 64 Tryz.underlying22 hjf hy0 hy1 hy2 rfl (by decide) (.slice qa i qc) i _ rfl (World.ownsRow.alloc HW.out.2.1 _) ⟨V.drew.heap.size,0,none⟩ 1 1 [.int .i64 num,.int .i64 gen,.slice tb tl tc,.bool st,.string dt] rfl rfl (World.news_of_block (heap_alloc_at (w:=V.drew) _)) (by simp [Value.oneCell']) (by decide) (by unfold maxLen; omega) (by omega) (by omega) (V.drew.heap.size+1) (by simp) ?_; intro g6 cap2 w9 hown1 hgrow hat6 hlt6; have hb9:=grown_keep hgrow (heap_alloc_old _ HW.out.2.2.1) HW.out.2.2.2.1; have e9:=cellOf hb9 0; have f9:=freeOf hb9 0; have HG:=zz4 ⟨hown1,hgrow,hat6,hb9⟩; clear hown1 hgrow hat6 hlt6 hb9 g0 fg0))
  refine NoPanic.normal ?_
  have hgr:(V.drew.alloc (.cells #[.int .i64 num,.int .i64 gen,.slice tb tl tc,.bool st,.string dt] 35)).grownBy w9 (Value.slice qa i qc).ownBlock:=HG.out.2.1
  have Pl:=push_local (cap:=cap2) (n:=i+1) hgr HG.out.2.2.1
  have S9:=HW.out.1.upd 0 (oSl 35 5 (.slice (some ⟨g6,0,none⟩) (i+1) cap2) (i+1) (omsC (L.take (i+1)))) rfl Pl.1 Pl.2 (by
   show World.ownsRow _ 0 35 5 _ _ _
   rw [HW.out.2.2.2.2,omsC_append]
   exact HG.out.1)
  have S10:=S9.upd 1 (Ob.one p5 (.cells #[.slice (some ⟨g6,0,none⟩) (i+1) cap2,.int .i64 m0,.int .i64 m1] 26 (0,0))) rfl ((Ext.refl _ w9).setCell ⟨p5,0,none⟩ _ (.inl (by simp [Ob.one]))) (Fr.refl _ _) (heap_setCell_same (i:=0) HG.out.2.2.2 (.slice (some ⟨g6,0,none⟩) (i+1) cap2))
  have HS10:=zz S10
  clear Pl S9 S10 HW HG hgr e9 f9
  go_wp2_with fail
  go_roundg g
  case measure=>omega
  case rel=>exact⟨i+1,_,by omega,by go_num,rfl,by rw [List.length_take,show min (i+1) L.length=i+1 from by rw [HH.out.2.1]; omega]; exact HS10.out⟩
end Pg
end Go.Proofs.YtljachhmdogkdaaGreatDoor
