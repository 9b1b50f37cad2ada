/-
 Texts PgT, PgTb, PgU, PgV, as far as the statement needs them.
-/
import Derived.Test.YtljachhmdogkdaaGreatDoorQPn
import Derived.Lib.AppendZerosOnto
import Derived.Deep.Upon
set_option maxRecDepth 100000
set_option maxHeartbeats 64000000
namespace Go.Proofs.YtljachhmdogkdaaGreatDoor
namespace Pg
open Go.RowKit
open Tr
open Rc
theorem rfC_one (l:List Rf):∀ u∈rfC l,u.oneCell' = true:=fun u hu=>by
 obtain⟨p,-,hp⟩:=List.mem_flatMap.1 hu
 simp at hp
 rcases hp with rfl | rfl <;> rfl
theorem rfC_len2 (l:List Rf):(rfC l).length=l.length*2:=by
 induction l with
 | nil=>rfl
 | cons x l ih=>simp only [rfC,List.flatMap_cons,List.length_append,List.length_cons,List.length_nil] at ih ⊢; omega
theorem src_refs {w:World} {y:Value} {ys:List Rf} (h:RowAt w y ys):(ys=[]∧Src Tryz.prog 2 36 y 0 [] w)∨(0<ys.length∧Src Tryz.prog 2 36 y ys.length (rfC ys) w):=by
 obtain⟨kb,kc,rfl,hc⟩:=h
 by_cases h0:ys=[]
 ·subst h0
  refine .inl ⟨rfl,?_⟩
  cases kb with
  | none=>exact Src.ofNil w Tryz.underlying36 kc
  | some a=>exact Src.ofSlice w Tryz.underlying36 a 0 kc [] rfl (fun j u h=>by simp at h) (fun u h=>by cases h)
 ·refine .inr ⟨List.length_pos_iff.2 h0,?_⟩
  have hl:=rfC_len2 ys
  have hp:=List.length_pos_iff.2 h0
  obtain⟨u0,hu0⟩:∃ u,(rfC ys)[0]? = some u:=⟨_,List.getElem?_eq_getElem (by omega)⟩
  obtain⟨g,rfl,-⟩:=hc 0 u0 hu0
  refine Src.ofSlice w Tryz.underlying36 _ _ kc (rfC ys) hl (fun j u h=>?_) (rfC_one ys)
  obtain⟨g2,he,hc2⟩:=hc j u h
  cases he
  rw [Addr.add_mid,Nat.zero_add]
  exact hc2
theorem app_refs {w:World} {v y:Value} {xs ys:List Rf} (h:w.ownsRow 0 24 2 v xs.length (rfC xs)) (hy:RowAt w y ys) (hl:xs.length+ys.length≤1048576) :
  ∃ ao2 cap2 w2,(∀ ty,(Builtin.append_ #[36,36] ty #[v,y]).run Tryz.prog w=.ok (.slice ao2 (xs++ys).length cap2) w2)∧w2.ownsRow 0 24 2 (.slice ao2 (xs++ys).length cap2) (xs++ys).length (rfC (xs++ys))∧Ext v.ownBlock.toList w w2∧Fr w v.ownBlock.toList (Value.slice ao2 (xs++ys).length cap2).ownBlock.toList:=by
 obtain⟨i0,hif,hz0,hz1,hz2⟩:=info_parts infoRef17
 obtain⟨ao,c0,rfl⟩:=row_slice h
 rcases src_refs hy with ⟨rfl,hs⟩ | ⟨h0,hs⟩
 ·have hle:xs.length≤c0:=row_le h
  rw [List.append_nil]
  exact⟨ao,c0,w,fun ty=>run_append_nothing w 36 36 ty 24 i0 Tryz.underlying36 hif ao xs.length c0 hle _ (by rw [hz1]; exact hs),h,Ext.refl _ _,Fr.refl _ _⟩
 ·obtain⟨-,-,e,-⟩:=id hy
  obtain⟨g,c2,w',hr,h2,h3,h4,h5⟩:∃ g cap w',(∀ ty,(Builtin.append_ #[36,36] ty #[.slice ao xs.length c0,y]).run Tryz.prog w=.ok (.slice (some ⟨g,0,none⟩) (xs.length+ys.length) cap) w')∧w'.ownsRow 0 24 2 (.slice (some ⟨g,0,none⟩) (xs.length+ys.length) cap) (xs.length+ys.length) (rfC xs++rfC ys)∧w.grownBy w' (Value.slice ao xs.length c0).ownBlock∧
   ((Value.slice ao xs.length c0).ownBlock=some g∨g=w.heap.size)∧g<w'.heap.size:=by
   obtain⟨g,c2,w',hr,h2⟩:=run_append_src (P:=Tryz.prog) w 0 36 36 0 24 i0 _ 2 16 Tryz.underlying36 hif hz0 hz1 hz2 rfl (by decide) _ _ _ h _ _ _ hs h0 (by unfold maxLen; omega) (by omega) (by omega)
   exact⟨g,c2,w',fun ty=>hr,h2⟩
  rw [List.length_append,rfC_append]
  refine⟨_,c2,w',hr,h2,⟨h3.os,h3.tape,h3.output,h3.size,fun k hk hS=>h3.block k hk (fun e=>hS (by simp [e]))⟩,fun q hq=>?_⟩
  obtain rfl:q=g:=by simpa [Value.ownBlock] using hq
  rcases h4 with h | h
  ·exact .inl (by simp [h])
  ·exact .inr (by omega)
theorem GrowR_walk (n:Nat) (w:World) (hn:n≤1048576) :
  Calls Tryz.prog 97 #[.slice none 0 0,.int .i64 n] w fun e w'=>∃ ao cap,e=.returned (.slice ao 0 cap)∧Ext [] w w'∧(oSl 24 2 (.slice ao 0 cap) 0 (rfC [])).P w'∧∀ k∈(Value.slice ao 0 cap).ownBlock.toList,w.heap.size≤k:=by
 obtain⟨i0,hif,hz0,hz1,hz2⟩:=info_parts infoRef17
 have j1:¬ ((n:Int)<0):=by omega
 by_cases h0:n=0
 ·subst h0
  go_enter Tryz.func97,Tryz.ntmps97
  go_wp2_with fail
  go_ret
  exact⟨none,0,rfl,Ext.refl _ _,World.ownsRow_nil _ _ _ _,by simp [Value.ownBlock]⟩
 ·have j2:(0:Int)<(n:Int):=by omega
  have hG1:=grownCap_ge w n 0 24
  have hG2:=grownCap_le_maxLen w n 0 24 (by unfold maxLen; omega)
  have hr:∀ ty,(Builtin.append_ #[36,3] ty #[.slice none 0 0,.int .i64 (n:Int)]).run Tryz.prog w=.ok (.slice (some ⟨w.heap.size,0,none⟩) n (grownCap w n 0 24))
    (w.drew.alloc (.cells (#[]++Builtin.zeroCells (Value.agg #[.int .i64 0,.int .i64 0]).cells n++Builtin.zeroCells (Value.agg #[.int .i64 0,.int .i64 0]).cells (grownCap w n 0 24 - n)) 24)):=fun ty=>by
   have h:=Lib.run_append_grow_zeros (P:=Tryz.prog) w 36 3 ty 24 i0 _ .i64 .i64 Tryz.underlying36 Tryz.underlying3 hif hz0 none 0 0 [] (run_firstCells_none w.drew i0.size 0 0 0) n (by omega) (by omega) (by omega) (by omega)
    (by rw [hz2]; omega) (by rw [Nat.zero_add]; exact growslice_fits (by omega) (by rw [hz2]; omega))
   simpa using h
  obtain⟨G,hG⟩:∃ G,grownCap w n 0 24=G:=⟨_,rfl⟩
  rw [hG] at hG1 hG2
  simp only [hG] at hr
  unfold maxLen at hG2
  have g1:(n:Int)≤(G:Int):=by omega
  have g2:(0:Int)≤(G:Int):=by omega
  clear hG
  go_enter Tryz.func97,Tryz.ntmps97
  go_wp2_with (at_builtin; refine Lib.wpList_append_run _ rfl _ _ _ _ rfl _ _ rfl rfl _ _ (hr _) ?_)
  go_ret
  refine⟨_,_,rfl,((Ext.refl _ w).drew).alloc _,⟨rfl,.inr ⟨w.heap.size,G,_,rfl,Nat.zero_le _,heap_alloc_at (w:=w.drew) _,Nat.zero_le _,by unfold maxLen; omega,?_,by simp [rfC]⟩⟩,by simp [Value.ownBlock]⟩
  simp only [Array.size_append,size_zeroCells]
  simp
  omega
abbrev Zf:=Value×List Rf
def RowsAtR (w:World) (b:Nat) (Z:List Zf):Prop:=∀ (i:Nat) (z:Zf),Z[i]? = some z→w.cell? ⟨b,i,none⟩=some z.1∧RowAt w z.1 z.2
def flatR (Z:List Zf):List Rf:=Z.flatMap fun z=>z.2
theorem flatR_snoc (Z:List Zf) (z:Zf):flatR (Z++[z])=flatR Z++z.2:=by simp [flatR]
theorem take_snocR {α:Type} (l:List α) (i:Nat) (x:α) (h:l[i]? = some x):l.take (i+1)=l.take i++[x]:=by
 rw [List.take_add_one,h]
 rfl
theorem concatR_walk (b cap:Nat) (Z:List Zf) (w:World) (h:RowsAtR w b Z) (h4:Z.length≤100) (hl:(flatR Z).length≤300000) :
  Calls Tryz.prog 63 #[.slice (some ⟨b,0,none⟩) Z.length cap] w fun e w'=>∃ v2,e=.returned v2∧Sep w w' [oSl 24 2 v2 (flatR Z).length (rfC (flatR Z))]:=by
 have H:=zz h
 have hpre:∀ k,(flatR (Z.take k)).length≤(flatR Z).length:=fun k=>by
  have e:flatR Z=flatR (Z.take k)++flatR (Z.drop k):=by unfold flatR; rw [←List.flatMap_append,List.take_append_drop]
  rw [e,List.length_append]; omega
 have HP:=zz hpre
 clear h hpre
 go_enter Tryz.func63,Tryz.ntmps63
 go_wp2_with fail
 go_loopg [3,11] Z.length (fun g sv iv wr=>∃ k:Nat,g+k=Z.length∧iv=.int .i64 k∧sv=.int .i64 ((flatR (Z.take k)).length:Nat)∧w=wr)
 case atStart=>exact⟨0,by omega,rfl,rfl,rfl⟩
 case round=>
  obtain⟨k,hk,rfl,rfl,rfl⟩:=hrel
  by_cases hlt:k<Z.length
  ·obtain⟨z,hz⟩:∃ z,Z[k]? = some z:=⟨_,List.getElem?_eq_getElem hlt⟩
   obtain⟨c0,c1⟩:=H.out k z hz
   have hs:(flatR (Z.take (k+1))).length=(flatR (Z.take k)).length+z.2.length:=by
    rw [take_snocR Z k z hz,flatR_snoc,List.length_append]
   have hp:=HP.out (k+1)
   rw [hs] at hp
   have HS:=zz hs
   obtain⟨zb,zc,hzv,-⟩:=c1
   rw [hzv] at c0
   clear hz hs hzv
   generalize (flatR (Z.take k)).length=n at *
   generalize z.2.length=m at *
   have k1:(k:Int)<(Z.length:Int):=by omega
   go_wp2_with fail
   go_roundg (Z.length - (k+1))
   case measure=>omega
   case rel=>exact⟨k+1,by omega,by go_num,by rw [HS.out]; go_num,rfl⟩
  ·obtain rfl:k=Z.length:=by omega
   rw [List.take_length]
   obtain⟨n,hn⟩:∃ n,(flatR Z).length=n:=⟨_,rfl⟩
   rw [hn] at hl ⊢
   have HN:=zz hn
   clear hn
   go_wp2_with fail
   refine (GrowR_walk n w (by omega)).mono ?_
   rintro e w1 ⟨ao,cap1,rfl,hx,hp,hf⟩
   have HS:=zz ((Sep.start w).new hx (oSl 24 2 (.slice ao 0 cap1) (flatR (Z.take 0)).length (rfC (flatR (Z.take 0)))) (by exact hp) hf)
   clear hx hp hf
   go_wp2_with fail
   go_loopg [6,27] Z.length (fun g sv iv wr=>∃ (k:Nat) (ao:Option Addr) (cap1:Nat),g+k=Z.length∧iv=.int .i64 k∧sv=.slice ao (flatR (Z.take k)).length cap1∧Sep w wr [oSl 24 2 (.slice ao (flatR (Z.take k)).length cap1) (flatR (Z.take k)).length (rfC (flatR (Z.take k)))])
   case atStart=>exact⟨0,ao,cap1,by omega,rfl,rfl,HS.out⟩
   case round=>
    clear HS
    obtain⟨k,ao,cap1,hk,rfl,rfl,S⟩:=hrel
    by_cases hlt:k<Z.length
    ·obtain⟨z,hz⟩:∃ z,Z[k]? = some z:=⟨_,List.getElem?_eq_getElem hlt⟩
     obtain⟨c0,c1⟩:=H.out k z hz
     have d0:=Ext.cell S.ext c0
     have hs:flatR (Z.take (k+1))=flatR (Z.take k)++z.2:=by rw [take_snocR Z k z hz,flatR_snoc]
     have hp:=HP.out (k+1)
     rw [hs,List.length_append] at hp
     have hrow:wr.ownsRow 0 24 2 (.slice ao (flatR (Z.take k)).length cap1) (flatR (Z.take k)).length (rfC (flatR (Z.take k))):=S.get 0 rfl
     obtain⟨ao2,cap2,w2,hr,ho,hx,hf⟩:=app_refs hrow (c1.ext S.ext) (by have:=HN.out; omega)
     obtain⟨zb,zc,hzv,-⟩:=c1
     rw [←hs] at ho hf hr
     have S2:=S.upd 0 (oSl 24 2 (.slice ao2 (flatR (Z.take (k+1))).length cap2) (flatR (Z.take (k+1))).length (rfC (flatR (Z.take (k+1))))) rfl hx hf ho
     rw [hzv] at d0 hr
     have HR:=zz hr
     have HS:=zz S2
     clear hz c0 hs hp hrow hr ho hx hf S S2 hzv
     have k1:(k:Int)<(Z.length:Int):=by omega
     obtain⟨Y1,hY1⟩:∃ Y1,flatR (Z.take (k+1))=Y1:=⟨_,rfl⟩
     rw [hY1] at HR HS
     have HY:=zz hY1
     clear hY1
     generalize (flatR (Z.take k)).length=n0 at *
     generalize z.2.length=m at *
     go_wp2_with (at_builtin; refine wpList_plain rfl (fun K9 hK9=>wp_append_run _ _ _ _ rfl rfl rfl (HR.out _) (hK9 _ _ ?_)))
     go_roundg (Z.length - (k+1))
     case measure=>omega
     case rel=>exact⟨k+1,ao2,cap2,by omega,by go_num,by rw [HY.out],by rw [HY.out]; exact HS.out⟩
    ·obtain rfl:k=Z.length:=by omega
     rw [List.take_length,HN.out] at S ⊢
     have HS:=zz S
     clear S
     go_wp2_with fail
     go_ret
     exact⟨_,rfl,by rw [HN.out]; exact HS.out⟩
def isPg (L:List Om) (r:Rf):Bool:=match findO L r with
 | some o=>pageN o
 | none=>false
def loneF (L:List Om):List Rf→List Rf→List Rf→List Rf
 | [],_,out=>out
 | r::rs,hv,out=>if isPg L r=true∧r∉hv then loneF L rs (hv++[r]) (out++[r]) else loneF L rs hv out
def loneN (L:List Om) (walked:List Rf) (order:List Rf):List Rf:=loneF L (order++keysO L) walked []
theorem orphans_walk (L:List Om) (vb:Option Addr) (vn vc:Nat) (m0 m1:Int) (mb n:Nat) (wv ov:Value) (wk:List Om) (A:List Rf) (w:World) (hA:AskAt w mb n L) (hv:OmsAt w (.slice vb vn vc) L) (hwf:∀ x∈L,OmWf x)
  (hk:OmsAt w wv wk) (hkr:∀ x∈wk,RfWf (x.num,x.gen)) (ho:RowAt w ov A) (har:∀ r∈A,RfWf r) (hl:L.length≤1000) (hkl:wk.length≤1000) (hal:A.length≤1000) :
  Calls Tryz.prog 24 #[.agg #[.slice vb vn vc,.int .i64 m0,.int .i64 m1,.map (some mb)],wv,ov] w fun e w'=>∃ v2,e=.returned v2∧Sep w w' [oSl 24 2 v2 (loneN L (keysO wk) A).length (rfC (loneN L (keysO wk) A))]:=by
 obtain⟨j0,hjf,hy0,hy1,hy2⟩:=info_parts infoRef17
 have hmm:=@run_makeMap Tryz.prog
 obtain⟨R,hR⟩:∃ R,loneN L (keysO wk) A=R:=⟨_,rfl⟩
 rw [hR]
 unfold loneN at hR
 obtain⟨wb,wc,rfl,-,hkT⟩:=hk
 obtain⟨ob,oc,rfl,hoT⟩:=ho
 obtain⟨kn,hkn⟩:∃ n,wk.length=n:=⟨_,rfl⟩
 obtain⟨an,han⟩:∃ n,A.length=n:=⟨_,rfl⟩
 obtain⟨gb,hgb⟩:∃ p,w.heap.size=p:=⟨_,rfl⟩
 obtain⟨w0,hw0⟩:∃ W,w.alloc (.cells #[.slice vb vn vc,.int .i64 m0,.int .i64 m1,.map (some mb)] 62)=W:=⟨_,rfl⟩
 have hb0:w0.heap[gb]? = some (.cells #[.slice vb vn vc,.int .i64 m0,.int .i64 m1,.map (some mb)] 62 (0,0)):=by rw [←hw0,←hgb]; exact heap_alloc_at _
 have hx0:Ext [] w w0:=by rw [←hw0]; exact (Ext.refl [] w).alloc _
 have S0:Sep w w0 [Ob.one gb (.cells #[.slice vb vn vc,.int .i64 m0,.int .i64 m1,.map (some mb)] 62 (0,0))]:=(Sep.start w).new hx0 _ hb0 (fun k hk=>by
  obtain rfl:k=gb:=by simpa [Ob.one] using hk
  omega)
 obtain⟨W1,hW1⟩:∃ W,w0.alloc (.map #[] 0)=W:=⟨_,rfl⟩
 obtain⟨sb,hsb⟩:∃ p,w0.heap.size=p:=⟨_,rfl⟩
 have hx1:Ext [] w0 W1:=by rw [←hW1]; exact (Ext.refl [] w0).alloc _
 have m1' : seenAt W1 sb []:=by have:=set_made w0; rw [hW1,hsb] at this; exact this
 have S1:=S0.new hx1 (Mp.oMp Tryz.prog 24 mkR sb 0 (setF [])) m1' (fun k hk=>by simp [Mp.oMp] at hk; omega)
 have HH:=zz8 ⟨hkT,hkn,hoT,han,hR,hA,hv,hwf⟩
 have HK:=zz3 ⟨hkr,har,hl⟩
 have HS1:=zz S1
 rw [hkn] at hkl ⊢
 rw [han] at hal ⊢
 clear S0 S1 hx0 hx1 m1' hb0 hkT hkn hoT han hR hA hv hwf hkr har hl
 go_enter Tryz.func24,Tryz.ntmps24
 go_upto_region 2 with fail
 refine gen_world (fun V hV=>?_)
 obtain rfl:W1=V:=by first | exact hV | (rw [←hW1,←hw0]; exact hV)
 have e0:(w.alloc (.cells #[.slice vb vn vc,.int .i64 m0,.int .i64 m1,.map (some mb)] 62)).heap.size=sb:=by rw [hw0,hsb]
 (try simp only [hgb,e0,hw0,hsb])
 have hgs:gb+1=sb:=by rw [←hsb,←hw0,←hgb]; simp
 (try rw [hgs])
 clear hV hW1 hw0 hsb e0 hgb
 go_wp2_with fail
 go_loopg [18] kn (fun g iv wr=>∃ i:Nat,g+i=kn∧iv=.int .i64 i∧Sep w wr [Mp.oMp Tryz.prog 24 mkR sb i (setF (keysO (wk.take i))),Ob.one gb (.cells #[.slice vb vn vc,.int .i64 m0,.int .i64 m1,.map (some mb)] 62 (0,0))])
 case atStart=>exact⟨0,by omega,rfl,HS1.out⟩
 case round=>
  clear HS1
  obtain⟨i,hgi,rfl,S⟩:=hrel
  by_cases hlt:i<kn
  case pos=>
   obtain⟨g,rfl⟩:∃ g,gk=g+1:=⟨gk - 1,by omega⟩
   have hltz:(i:Int)<(kn:Int):=by omega
   have hil:i<wk.length:=by rw [HH.out.2.1]; exact hlt
   obtain⟨b,o,rfl,n1,n2,n3,n4,n5,hN⟩:=HH.out.1.ext S.ext i hil
   have htk:keysO (wk.take (i+1))=keysO (wk.take i)++[((wk[i]'hil).num,(wk[i]'hil).gen)]:=by rw [List.take_succ_eq_append_getElem hil,keysO,List.map_append]; rfl
   have hwr:=HK.out.1 _ (List.getElem_mem hil)
   generalize wk[i]'hil=x at *
   obtain⟨tb,tc,htv⟩:=tree_slice hN
   obtain⟨num,gen,tv,st,dt,tr⟩:=x
   have htv:tv=.slice tb tr.length tc:=htv
   subst htv
   obtain⟨tn,htn⟩:∃ tn,tr.length=tn:=⟨_,rfl⟩
   rw [htn] at n3
   dsimp only at n1 n2 n3 n4 n5 htk hwr
   obtain⟨kl,hkl2⟩:=keyR (r:=(num,gen)) hwr
   have HOf:=zz (fun W=>of_walk ⟨num,gen,.slice tb tn tc,st,dt,tr⟩ W ⟨_,_,_,rfl⟩)
   have HX:=zz3 ⟨S,htk,hkl2⟩
   clear S htk hN htn hwr hkl2
   go_wp2_with fail
   refine (HOf.out _).mono ?_
   rintro e w2 ⟨rfl,hx2⟩
   have hx3:=((Ext.refl [] wr).alloc (.cells #[.int .i64 num,.int .i64 gen,.slice tb tn tc,.bool st,.string dt] 35)).trans hx2
   have HS3:=zz (HX.out.1.quiet hx3)
   have HM:=zz (HS3.out.get 0 rfl:Mp.MapAt Tryz.prog 24 mkR w2 sb i (setF (keysO (wk.take i))))
   clear hx2 hx3 HOf n1 n2 n3 n4 n5
   go_wp2_with (first | (at_mapUpdate; refine Mp.wpList_store_mp rfl _ _ _ 91 rfl 4 lawR mkR_inj Tryz.underlying91 rfl HM.out (by unfold maxLen; omega) (num,gen) (.bool true) kl rfl rfl HX.out.2.2 ?_; intro w10 hm10 hx10; rw [setF_more] at hm10; have HX10:=zz2 ⟨hm10,hx10⟩; clear hm10 hx10; rw [show ∀ a:Act,a.put none undef=a from fun _=>rfl]))
   have S9:=HS3.out.upd 0 (Mp.oMp Tryz.prog 24 mkR sb (i+1) (setF (keysO (wk.take (i+1))))) rfl HX10.out.2 (Fr.refl _ _) (by rw [HX.out.2.1]; exact HX10.out.1)
   go_roundg g
   case measure=>omega
   case rel=>exact⟨i+1,by omega,by go_num,S9⟩
  case neg=>
  obtain rfl:gk=0:=by omega
  obtain rfl:i=kn:=by omega
  rw [List.take_of_length_le (by rw [HH.out.2.1]; omega)] at S
  have hkk:(keysO wk).length=i:=by rw [keysO,List.length_map]; exact HH.out.2.1
  have hg:wr.heap[gb]? = some (.cells #[.slice vb vn vc,.int .i64 m0,.int .i64 m1,.map (some mb)] 62 (0,0)):=S.get 1 rfl
  have k0:wr.cell? ⟨gb,0,none⟩=some (.slice vb vn vc):=cellOf hg 0
  have HPr:=zz (prefs_walk (.slice vb vn vc) L wr (HH.out.2.2.2.2.2.2.1.ext S.ext) (by have:=HK.out.2.2; omega))
  have HS:=zz2 ⟨S,hkk⟩
  clear S hkk hg
  go_wp2_with fail
  refine HPr.out.mono ?_
  rintro e w2 ⟨v2,rfl,S2⟩
  have hr2:=RowAt.of_row (S2.get 0 rfl:w2.ownsRow 0 24 2 v2 (keysO L).length (rfC (keysO L)))
  have hkl3:(keysO L).length=L.length:=by rw [keysO,List.length_map]
  obtain⟨v2b,v2c,hv2,-⟩:=id hr2
  have S3:Sep w w2 ([Mp.oMp Tryz.prog 24 mkR sb i (setF (keysO wk)),Ob.one gb (.cells #[.slice vb vn vc,.int .i64 m0,.int .i64 m1,.map (some mb)] 62 (0,0))]):=Tr.Sep.tail (sep_cat HS.out.1 S2)
  obtain⟨rn,hrn⟩:∃ n,(keysO L).length=n:=⟨_,rfl⟩
  rw [hrn] at hv2
  subst hv2
  have hoA:RowAt w2 (.slice ob an oc) A:=by
   refine RowAt.ext ⟨ob,oc,by rw [HH.out.2.2.2.1],HH.out.2.2.1⟩ S3.ext
  have HS3:=zz4 ⟨S3,hr2,hrn,hoA⟩
  clear S3 S2 hr2 HPr k0 hkl3 hrn hoA
  go_wp2_with fail
  obtain⟨W4,hW4⟩:∃ W,w2.alloc (.cells #[.slice ob an oc,.slice v2b rn v2c] 36)=W:=⟨_,rfl⟩
  rw [hW4]
  obtain⟨p4,hp4⟩:∃ p,w2.heap.size=p:=⟨_,rfl⟩
  rw [hp4]
  have hx4:Ext [] w2 W4:=by rw [←hW4]; exact (Ext.refl [] w2).alloc _
  have hb4:W4.heap[p4]? = some (.cells #[.slice ob an oc,.slice v2b rn v2c] 36 (0,0)):=by rw [←hW4,←hp4]; exact heap_alloc_at _
  have hZ:RowsAtR W4 p4 [(.slice ob an oc,A),(.slice v2b rn v2c,keysO L)]:=fun i z hz=>by
   match i,hz with
   | 0,hz=>obtain rfl:=Option.some.inj hz; exact⟨cellOf hb4 0,HS3.out.2.2.2.ext hx4⟩
   | 1,hz=>obtain rfl:=Option.some.inj hz; exact⟨cellOf hb4 1,HS3.out.2.1.ext hx4⟩
   | i+2,hz=>cases hz
  have hfl:flatR [(.slice ob an oc,A),(.slice v2b rn v2c,keysO L)]=A++keysO L:=by simp [flatR]
  have hfn:(A++keysO L).length=an+rn:=by rw [List.length_append,HH.out.2.2.2.1,HS3.out.2.2.1]
  have hrl:rn≤1000:=by rw [←HS3.out.2.2.1,keysO,List.length_map]; exact HK.out.2.2
  have hCo:=concatR_walk p4 2 _ W4 hZ (by show 2≤100; omega) (by rw [hfl,hfn]; omega)
  rw [hfl,hfn] at hCo
  have HCo:=zz hCo
  have HS4:=zz2 ⟨HS3.out.1.quiet hx4,hfn⟩
  clear hx4 hb4 hZ hfl hfn hCo hW4 hp4
  refine HCo.out.mono ?_
  rintro e w5 ⟨v5,rfl,S5⟩
  obtain⟨cn,hcn⟩:∃ n,an+rn=n:=⟨_,rfl⟩
  rw [hcn] at S5
  obtain⟨c5b,c5c,rfl⟩:=row_slice (S5.get 0 rfl:w5.ownsRow 0 24 2 v5 cn (rfC (A++keysO L)))
  have S6:Sep w w5 [oSl 24 2 (.slice c5b cn c5c) cn (rfC (A++keysO L)),Mp.oMp Tryz.prog 24 mkR sb (keysO wk).length (setF (keysO wk)),Ob.one gb (.cells #[.slice vb vn vc,.int .i64 m0,.int .i64 m1,.map (some mb)] 62 (0,0))]:=by rw [HS.out.2]; exact sep_cat HS4.out.1 S5
  have hcl:(A++keysO L).length=cn:=by rw [HS4.out.2]; exact hcn
  have hcb:cn≤2000:=by omega
  obtain⟨C,hC⟩:∃ C,A++keysO L=C:=⟨_,rfl⟩
  rw [hC] at S6 hcl
  have hRC:=HH.out.2.2.2.2.1
  rw [hC] at hRC
  have hCw:∀ r∈C,RfWf r:=fun r hr=>by
   rw [←hC] at hr
   rcases List.mem_append.1 hr with hr | hr
   ·exact HK.out.2.1 r hr
   ·obtain⟨x,hx,rfl⟩:=List.mem_map.1 hr
    have:=HH.out.2.2.2.2.2.2.2 x hx
    exact lt_wf this
  have S7:=S6.new (Ext.refl _ _) (oSl 24 2 (.slice none 0 0) ([]:List Rf).length (rfC [])) (World.ownsRow_nil _ _ _ _) (fun q hq=>by simp [oSl,Value.ownBlock] at hq)
  have HS6:=zz4 ⟨S7,hcl,hRC,hCw⟩
  have hkkl:(keysO wk).length≤1000:=by rw [HS.out.2]; exact hkl
  obtain⟨KW,hKW⟩:∃ KW,keysO wk=KW:=⟨_,rfl⟩
  rw [hKW] at HS6 hkkl
  clear S7 S6 S5 hcl hRC hCw HCo HS4 HS3 HS hcn hC hrl hKW
  go_wp2_with fail
  go_loopg [10,34] cn (fun g v10 iv wr=>∃ (i:Nat) (hv out:List Rf),g+i=cn∧iv=.int .i64 i∧loneF L (C.drop i) hv out=R∧hv.length≤1000+i∧out.length≤i∧
   Sep w wr [oSl 24 2 v10 out.length (rfC out),oSl 24 2 (.slice c5b cn c5c) cn (rfC C),Mp.oMp Tryz.prog 24 mkR sb hv.length (setF hv),Ob.one gb (.cells #[.slice vb vn vc,.int .i64 m0,.int .i64 m1,.map (some mb)] 62 (0,0))])
  case atStart=>exact⟨0,KW,[],by omega,rfl,HS6.out.2.2.1,by omega,Nat.le_refl _,HS6.out.1⟩
  case round=>
   have HC:=zz2 ⟨HS6.out.2.1,HS6.out.2.2.2⟩
   clear HS6
   obtain⟨i,hv,out,hgi,rfl,hRl,hvl,hol,S⟩:=hrel
   have hr10:wr.ownsRow 0 24 2 u10 out.length (rfC out):=S.get 0 rfl
   obtain⟨ab,ac,rfl⟩:=row_slice hr10
   by_cases hlt:i<cn
   case neg=>
    obtain rfl:gk=0:=by omega
    obtain rfl:i=cn:=by omega
    rw [List.drop_eq_nil_of_le (by rw [HC.out.1]; exact Nat.le_refl _),loneF] at hRl
    subst hRl
    obtain⟨on,hon⟩:∃ n,out.length=n:=⟨_,rfl⟩
    rw [hon] at S hr10 ⊢
    have HF:=zz2 ⟨S,hon⟩
    clear S hr10 hvl hol hon
    go_wp2_with fail
    go_ret
    exact⟨_,rfl,by rw [HF.out.2]; exact sep_pick [0] HF.out.1 (by decide) rfl⟩
   case pos=>
   obtain⟨g,rfl⟩:∃ g,gk=g+1:=⟨gk - 1,by omega⟩
   have hltz:(i:Int)<(cn:Int):=by omega
   have hil:i<C.length:=by rw [HC.out.1]; exact hlt
   obtain⟨c1,c2⟩:=rfC_at C i hil
   have hrow:wr.ownsRow 0 24 2 (.slice c5b cn c5c) cn (rfC C):=S.get 1 rfl
   obtain⟨kg,kc9,hcv⟩:=row_form hrow (by omega)
   have hcv:c5b=some ⟨kg,0,none⟩:=by injection hcv
   subst hcv
   have c1:=row_cell hrow c1
   have c2:=row_cell hrow c2
   rw [List.drop_eq_getElem_cons hil,loneF] at hRl
   have hkw:=HC.out.2 _ (List.getElem_mem hil)
   generalize C[i]'hil=kk at *
   obtain⟨k0,k1⟩:=kk
   dsimp only at c1 c2
   obtain⟨kl,hkl⟩:=keyR (r:=(k0,k1)) hkw
   obtain⟨on,hon⟩:∃ n,out.length=n:=⟨_,rfl⟩
   rw [hon] at S hr10 hol ⊢
   have HX:=zz4 ⟨S,hRl,hkl,hon⟩
   clear S hRl hkl hrow hkw hr10 hon
   go_upto_region 11 with fail
   refine gen_world (fun W1' hW1=>?_)
   obtain⟨q1,hq1⟩:∃ p,wr.heap.size=p:=⟨_,rfl⟩
   rw [hq1]
   have hx1:Ext [] wr W1':=by rw [←hW1]; exact (Ext.refl [] wr).alloc _
   have hb1:W1'.heap[q1]? = some (.cells #[.int .i64 k0,.int .i64 k1] 24 (0,0)):=by rw [←hW1,←hq1]; exact heap_alloc_at _
   have S1:=HX.out.1.quiet hx1
   have hg1:W1'.heap[gb]? = some (.cells #[.slice vb vn vc,.int .i64 m0,.int .i64 m1,.map (some mb)] 62 (0,0)):=S1.get 3 rfl
   have hA1:=HH.out.2.2.2.2.2.1.ext S1.ext
   have hlook:=hA1.map.look_ok lawR Tryz.underlying60 (zeroObj W1') (x:=(k0,k1)) HX.out.2.2.1
   have e0:W1'.cell? ⟨q1,0,none⟩=some (.int .i64 k0):=cellOf hb1 0
   have e1:W1'.cell? ⟨q1,1,none⟩=some (.int .i64 k1):=cellOf hb1 1
   have k3:W1'.cell? ⟨gb,3,none⟩=some (.map (some mb)):=cellOf hg1 3
   have hsq:sb<q1:=by
    have:=(Mp.oMp Tryz.prog 24 mkR sb hv.length (setF hv)).lt (HX.out.1.get 2 rfl) sb (by simp [Mp.oMp])
    omega
   have HS1:=zz3 ⟨S1,hb1,hsq⟩
   have hRl:=HX.out.2.1
   clear S1 hb1 hg1 hA1 hx1 hW1 c1 c2 hq1 hsq
   cases hf:findO L (k0,k1) with
   | none=>
    rw [show idxF L (k0,k1)=none by unfold idxF; rw [hf]; rfl] at hlook
    simp only [Option.getD_none,Option.isSome_none] at hlook
    rw [if_neg (fun h=>by have:=h.1; unfold isPg at this; rw [hf] at this; cases this)] at hRl
    have HRl:=zz hRl
    clear hRl hf
    go_wp2_with fail
    go_roundg g
    case measure=>omega
    case rel=>exact⟨i+1,hv,out,by omega,by go_num,HRl.out,by omega,by rw [HX.out.2.2.2]; omega,by rw [HX.out.2.2.2]; exact HS1.out.1.quiet ((Ext.refl [] W1').alloc _)⟩
   | some o=>
    have hom:=(findO_mem hf).1
    have hoN:=HH.out.2.2.2.2.2.1.nodes o hom
    have hoL:=(HH.out.2.2.2.2.2.1.wf o hom).lt
    obtain⟨ob2,oc2,hov⟩:=tree_slice hoN
    rw [show idxF L (k0,k1)=some (omV o) by unfold idxF; rw [hf]; rfl,Option.getD_some,Option.isSome_some] at hlook
    have hvt:omV o=.agg (objX o.num o.gen ob2 o.tree.length oc2 o.stream o.data):=by unfold omV; rw [hov]; rfl
    have hPg:=fun W (hx:Ext [] w W)=>page_walk o W (hoN.ext hx) hoL
    rw [hvt] at hlook hPg
    obtain⟨tn,htn⟩:∃ on,o.tree.length=on:=⟨_,rfl⟩
    obtain⟨onum,honum⟩:∃ y,o.num=y:=⟨_,rfl⟩
    obtain⟨ogen,hogen⟩:∃ y,o.gen=y:=⟨_,rfl⟩
    obtain⟨ost,host⟩:∃ y,o.stream=y:=⟨_,rfl⟩
    obtain⟨odt,hodt⟩:∃ y,o.data=y:=⟨_,rfl⟩
    obtain⟨pg,hpg⟩:∃ b,pageN o=b:=⟨_,rfl⟩
    rw [htn,honum,hogen,host,hodt] at hlook hPg
    rw [hpg] at hPg
    unfold objX at hlook hPg
    rw [show isPg L (k0,k1)=pg by unfold isPg; rw [hf]; exact hpg] at hRl
    have HPg:=zz hPg
    have HRl:=zz hRl
    clear hom hoN hoL hov hvt hPg hf htn honum hogen host hodt hpg hRl
    go_wp2_with fail
    refine (HPg.out _ (HS1.out.1.ext.trans ((Ext.refl [] W1').alloc _))).mono ?_
    rintro e w3 ⟨rfl,hx3⟩
    have hx3:=((Ext.refl [] W1').alloc (.cells #[.int .i64 onum,.int .i64 ogen,.slice ob2 tn oc2,.bool ost,.string odt] 35)).trans hx3
    have S3:=HS1.out.1.quiet hx3
    have hb3:=hx3.keep HS1.out.2.1 (by simp)
    have hM3:Mp.MapAt Tryz.prog 24 mkR w3 sb hv.length (setF hv):=S3.get 2 rfl
    have hls:(Instr.lookup 91 (.map (some sb)) (.agg #[.int .i64 k0,.int .i64 k1]) false).run Tryz.prog w3=.ok (.bool (decide ((k0,k1)∈hv))) w3:=by
     rw [←setF_look]; exact hM3.look lawR Tryz.underlying91 (zeroBoolW _) (x:=(k0,k1)) HX.out.2.2.1
    have e0:w3.cell? ⟨q1,0,none⟩=some (.int .i64 k0):=cellOf hb3 0
    have e1:w3.cell? ⟨q1,1,none⟩=some (.int .i64 k1):=cellOf hb3 1
    have HS3:=zz3 ⟨S3,hb3,hM3⟩
    clear S3 hb3 hM3 hx3 HPg hlook k3
    cases pg with
    | false=>
     have hRl:=HRl.out
     rw [if_neg (by simp)] at hRl
     have HRl:=zz hRl
     clear hRl
     go_wp2_with fail
     go_roundg g
     case measure=>omega
     case rel=>exact⟨i+1,hv,out,by omega,by go_num,HRl.out,by omega,by rw [HX.out.2.2.2]; omega,by rw [HX.out.2.2.2]; exact HS3.out.1⟩
    | true=>
    by_cases hs:(k0,k1)∈hv
    case pos=>
     rw [decide_eq_true hs] at hls
     have HRm:=zz (by have h:=HRl.out; rw [if_neg (fun h=>h.2 hs)] at h; exact h:loneF L (C.drop (i+1)) hv out=R)
     clear HRl hs
     go_wp2_with fail
     go_roundg g
     case measure=>omega
     case rel=>exact⟨i+1,hv,out,by omega,by go_num,HRm.out,by omega,by rw [HX.out.2.2.2]; omega,by rw [HX.out.2.2.2]; exact HS3.out.1⟩
    case neg=>
    rw [decide_eq_false hs] at hls
    have HRm:=zz (by have h:=HRl.out; rw [if_pos ⟨rfl,hs⟩] at h; exact h:loneF L (C.drop (i+1)) (hv++[(k0,k1)]) (out++[(k0,k1)])=R)
    clear HRl hs
    go_upto_region 14 with (first | (at_mapUpdate; refine Mp.wpList_store_mp rfl _ _ _ 91 rfl 4 lawR mkR_inj Tryz.underlying91 rfl HS3.out.2.2 (by unfold maxLen; omega) (k0,k1) (.bool true) kl rfl rfl HX.out.2.2.1 ?_; intro w10 hm10 hx10; rw [setF_more] at hm10; have HX10:=zz2 ⟨hm10,hx10⟩; clear hm10 hx10; rw [show ∀ a:Act,a.put none undef=a from fun _=>rfl]))
    have S4:=HS3.out.1.upd 2 (Mp.oMp Tryz.prog 24 mkR sb (hv++[(k0,k1)]).length (setF (hv++[(k0,k1)]))) rfl HX10.out.2 (Fr.refl _ _) (by rw [List.length_append]; exact HX10.out.1)
    have hb4:w10.heap[q1]? = some (.cells #[.int .i64 k0,.int .i64 k1] 24 (0,0)):=HX10.out.2.keep HS3.out.2.1 (by
     have:=HS1.out.2.2
     simp; omega)
    have e0:w10.cell? ⟨q1,0,none⟩=some (.int .i64 k0):=cellOf hb4 0
    have e1:w10.cell? ⟨q1,1,none⟩=some (.int .i64 k1):=cellOf hb4 1
    have hr4:w10.ownsRow 0 24 2 (.slice ab on ac) on (rfC out):=S4.get 0 rfl
    have H4:=zz2 ⟨S4,hr4⟩
    clear S4 hb4 hr4 hls
    go_wp2_with (first | (at_builtin; refine wpList_append_lies _ rfl _ _ 36 rfl 0 24 j0 _ 2 16 Tryz.underlying36 hjf hy0 hy1 hy2 rfl (by decide) (.slice ab on ac) on _ rfl (World.ownsRow.alloc H4.out.2 _) ⟨w10.heap.size,0,none⟩ 1 1 [.int .i64 k0,.int .i64 k1] rfl rfl (World.news_of_block (heap_alloc_at (w:=w10) _)) (by simp [Value.oneCell']) (by decide) (by unfold maxLen; omega) (by omega) (by omega) (w10.heap.size+1) (by simp) ?_; intro g6 cap2 w9 hown1 hgrow hat6 hlt6; have HGr:=zz3 ⟨hown1,hgrow,hat6⟩; clear hown1 hgrow hat6 hlt6))
    have Pl:=push_local (cap:=cap2) (n:=on+1) HGr.out.2.1 HGr.out.2.2
    have S9:=H4.out.1.upd 0 (oSl 24 2 (.slice (some ⟨g6,0,none⟩) (on+1) cap2) (out++[(k0,k1)]).length (rfC (out++[(k0,k1)]))) rfl Pl.1 Pl.2 (by
     show World.ownsRow _ 0 24 2 _ _ _
     rw [rfC_append,List.length_append,HX.out.2.2.2]
     exact HGr.out.1)
    go_roundg g
    case measure=>omega
    case rel=>exact⟨i+1,hv++[(k0,k1)],out++[(k0,k1)],by omega,by go_num,HRm.out,by simp; omega,by simp [HX.out.2.2.2]; omega,S9⟩
attribute [local go_sem] Oper.semAt_some
theorem infoObj28:(Tryz.prog.info? 35).map (fun i=>(i.zero,i.size,i.bytes))=some (some (.agg #[.int .i64 0,.int .i64 0,.slice none 0 0,.bool false,.string ⟨#[]⟩]),5,64):=by kernel_rfl
def osC (l:List So.Os):List Value:=l.flatMap So.encO
theorem osC_append (a b:List So.Os):osC (a++b)=osC a++osC b:=by unfold osC; rw [List.flatMap_append]
theorem osV_inj {x y:So.Os} (h:So.osV x=So.osV y):x=y:=by
 obtain⟨a1,a2,a3,a4,a5,a6,a7⟩:=x
 obtain⟨b1,b2,b3,b4,b5,b6,b7⟩:=y
 simp [So.osV] at h
 obtain⟨rfl,rfl,⟨rfl,rfl,rfl⟩,rfl,rfl⟩:=h
 rfl
theorem lawI:Maps.Keyed Tryz.prog 3:=Maps.int_keyed Tryz.underlying3
theorem keyI {x:Int} (h : -9223372036854775808≤x∧x≤9223372036854775807):keyOf Tryz.prog 3 (Mp.mkI x)=some (.int .i64 x):=
 Maps.keyOf_int_mk Tryz.underlying3 (by simp [Lit.wf,IntKind.min,IntKind.max,IntKind.signed,IntKind.bits]; omega)
theorem invI (key:Value) (kl:Lit) (h:keyOf Tryz.prog 3 key=some kl):∃ r:Int,key=Mp.mkI r:=by
 have h2:keyOf Tryz.prog 3 key=mapKey Tryz.prog 3 key:=by simp [keyOf,Tryz.underlying3]
 rw [h2] at h
 unfold mapKey at h
 rw [Tryz.underlying3] at h
 split at h
 ·rename_i heq; cases heq
 ·rename_i q q' n heq
  cases heq
  split at h
  ·rename_i hc
   obtain⟨rfl,-⟩:=hc
   exact⟨_,rfl⟩
  ·cases h
 ·rename_i heq; cases heq
 ·cases h
def NxV (f:Int→Option Value) (pre:List So.Os) (x:So.Os):Prop:=f x.num=some (So.osV x)∧x∉pre
def DnV (f:Int→Option Value) (xs:List So.Os):Prop:=∀ n kl,keyOf Tryz.prog 3 (Mp.mkI n)=some kl→∀ v,f n=some v→∃ x∈xs,x.num=n∧v=So.osV x
def ObF (f:Int→Option Value):Prop:=∀ n v,f n=some v→∃ x:So.Os,v=So.osV x∧x.num=n
theorem nxv_nodup {f:Int→Option Value} {l:List So.Os} (h:Chn (NxV f) l):l.Nodup∧∀ x∈l,f x.num=some (So.osV x):=by
 refine⟨List.pairwise_iff_getElem.2 fun i j hi hj hij e=>?_,fun x hx=>?_⟩
 ·have h1:=h (l.take j) (l[j]'hj) (l.drop (j+1)) (by rw [←List.drop_eq_getElem_cons hj,List.take_append_drop])
  refine h1.2 ?_
  rw [←e]
  exact List.mem_take_iff_getElem.2 ⟨i,by omega,rfl⟩
 ·obtain⟨a,b,rfl⟩:=List.append_of_mem hx
  exact (h a x b rfl).1
theorem nxv_perm {f:Int→Option Value} {E ys:List So.Os} (h:Chn (NxV f) ys) (hd:DnV f ys) (hE:E.Nodup) (hm:∀ x,f x.num=some (So.osV x)↔x∈E) (hk:∀ x∈E,-9223372036854775808≤x.num∧x.num≤9223372036854775807):E.Perm ys:=by
 obtain⟨h1,h2⟩:=nxv_nodup h
 refine (List.perm_ext_iff_of_nodup hE h1).2 fun x=>⟨fun hx=>?_,fun hx=>(hm x).1 (h2 x hx)⟩
 obtain⟨y,hy,hn,hv⟩:=hd x.num _ (keyI (hk x hx)) _ ((hm x).2 hx)
 rw [osV_inj hv]
 exact hy
theorem valsO_walk (mb:Nat) (w:World) :
  Calls Tryz.prog 33 #[.map (some mb)] w fun e w'=>e=.returned (.func (.func 72) #[] #[.pointer (some ⟨w.heap.size,0,none⟩)])∧w' = w.alloc (.cells #[.map (some mb)] 68):=by
 go_enter Tryz.func33,Tryz.ntmps33
 go_wp2_with fail
 go_ret
 exact⟨rfl,rfl⟩
theorem valsO_iter (mb mn cb:Nat) (f:Int→Option Value) (hf:ObF f) :
  SeqM Tryz.prog 72 #[.pointer (some ⟨cb,0,none⟩)] (fun x:So.Os=>#[So.osV x]) (NxV f) (DnV f) (fun n=>[n]) [mb]
   (fun W=>W.heap[cb]? = some (.cells #[.map (some mb)] 68 (0,0))∧Mp.MapAt Tryz.prog 3 Mp.mkI W mb mn f):=by
 intro l J Jx W hb hJ hJx hY h0
 obtain⟨hb1,hb2⟩:=hb
 obtain⟨p,hp⟩:∃ p,W.heap.size=p:=⟨_,rfl⟩
 rw [hp] at hJ hJx hY
 have hmp:mb<p:=by rw [←hp]; exact hb2.lt
 have H0:=zz h0
 have HY:=zz hY
 have HJ:=zz hJ
 have HM:=zz hb2
 have HF:=zz hf
 have c0:=cellOf hb1 0
 have HP:=zz2 ⟨hp,hmp⟩
 clear h0 hY hJ hJx hb1 hb2 hp hmp hf
 refine callsIn_of_wp Tryz.func72 rfl trivial ?_
 simp only [Tryz.ntmps72,List.size_toArray,List.length_cons,List.length_nil,Nat.reduceAdd,Nat.reduceSub,Array.replicate_succ,Array.replicate_zero,List.push_toArray,List.append_toArray,List.nil_append,List.cons_append]
 refine wpIn_seq ?_
 refine (wpIn_wide (n:=0)).2 ?_
 go_wp2_with (first | (at_range; refine Mp.wpList_range_mp rfl _ 68 rfl 35 lawI Tryz.underlying68 rfl HM.out ?_; intro w3 cnt hrg hx3 hsz3))
 rw [HP.out.1] at hrg ⊢
 have HR0:=zz2 ⟨hrg,HJ.out [] W w3 H0.out hx3.weak⟩
 clear hrg hx3 hsz3 c0
 refine wpIn_block ?_
 gi_loopg [4] cnt (fun k v3 wr=>∃ (pre:List So.Os) (left:Int→Bool) (c:Nat),c≤k∧Mp.RangeAt Tryz.prog 3 Mp.mkI wr mb p mn f left c∧J pre wr∧(∀ x,left x=true→∀ y∈pre,y.num≠x)∧(∀ n v,f n=some v→(∃ y∈pre,y.num=n∧v=So.osV y)∨left n=true))
 case atStart=>exact⟨[],fun x=>(f x).isSome,cnt,Nat.le_refl _,HR0.out.1,HR0.out.2,fun x _ y h=>(by cases h),fun x v h=>.inr (by simp [h])⟩
 case round=>
  clear HR0
  obtain⟨pre,left,c,hck,hrg,hj,hl1,hl2⟩:=hrel
  have HRG:=zz4 ⟨hrg,hj,hl1,hl2⟩
  clear hrg hj hl1 hl2
  refine wpIn_seq ?_
  refine (wpIn_wide (n:=0)).2 ?_
  go_wp2_with (first | (at_next; refine Mp.wpList_next_mp rfl _ rfl lawI Mp.mkI_inj invI rfl HRG.out.1 ?_ ?_))
  ·intro hc0 hl0
   have HE:=zz hl0
   clear hl0
   go_wp2_with fail
   gi_wp2_with fail
   go_end0
   refine⟨⟨_,rfl⟩,.inl ⟨pre,fun n kl hk v hv=>?_,HRG.out.2.1⟩⟩
   rcases HRG.out.2.2.2 n v hv with h | h
   ·exact h
   ·rw [HE.out n kl hk] at h; cases h
  ·intro r1 kl v w5 c' hk hlr hfr hrg hlt hx5 hen
   obtain⟨g,rfl⟩:∃ g,gk=g+1:=⟨gk - 1,by omega⟩
   obtain⟨⟨x1,x2,x3,x4,x5,x6,x7⟩,rfl,hxn⟩:=HF.out r1 v hfr
   obtain rfl:x1=r1:=hxn
   have HE:=zz4 ⟨hlr,hfr,hrg,HJ.out _ _ _ HRG.out.2.1 hx5⟩
   clear hlr hfr hrg hx5 hk
   dsimp only [So.osV,Mp.mkI] at hen ⊢
   go_wp2_with fail
   have hnx:NxV f pre (⟨x1,x2,x3,x4,x5,x6,x7⟩:So.Os):=⟨HE.out.2.1,fun h=>HRG.out.2.2.1 _ HE.out.1 _ h rfl⟩
   have hp5:p<w5.heap.size:=HE.out.2.2.1.lt
   have hx6:Ext [] w5 (w5.alloc (.cells #[.int .i64 x1,.int .i64 x2,.slice x3 x4 x5,.bool x6,.string x7] 35)):=(Ext.refl [] w5).alloc _
   have hm5:mb<w5.heap.size:=HE.out.2.2.1.map.lt
   have e1:=hx6.block p hp5 (by simp)
   have e2:=hx6.block mb hm5 (by simp)
   obtain⟨fn,tmps,assign,body,hy,hR⟩:=HY.out pre (⟨x1,x2,x3,x4,x5,x6,x7⟩:So.Os) (w5.alloc (.cells #[.int .i64 x1,.int .i64 x2,.slice x3 x4 x5,.bool x6,.string x7] 35)) hnx (fun k hk=>by obtain rfl:=List.mem_singleton.1 hk; exact Nat.lt_of_lt_of_le hp5 hx6.size) (HJ.out _ _ _ HE.out.2.2.2 hx6.weak)
   have HR:=zz4 ⟨hR,hnx,e1,e2⟩
   clear hR hnx hx6 e1 e2 hp5 hm5
   gi_wp2_with fail
   refine HR.out.1.mono ?_
   clear hy hen
   rintro e w7 (⟨rfl,hj3,hk3⟩ | ⟨rfl,hj3⟩)
   ·have HJ3:=zz2 ⟨hj3,HE.out.2.2.1.same ((hk3.same mb (by simp)).trans HR.out.2.2.2) ((hk3.same p (by simp)).trans HR.out.2.2.1)⟩
    clear hj3 hk3
    gi_wp2_with fail
    gi_roundg g
    case measure=>omega
    case rel=>
     refine⟨pre++[(⟨x1,x2,x3,x4,x5,x6,x7⟩:So.Os)],_,c',by omega,HJ3.out.2,HJ3.out.1,fun x hx y hm=>?_,fun n v hv=>?_⟩
     ·simp at hx
      rcases List.mem_append.1 hm with hm | hm
      ·exact HRG.out.2.2.1 x hx.1 y hm
      ·obtain rfl:=List.mem_singleton.1 hm
       exact fun e=>hx.2 e.symm
     ·by_cases he:n=x1
      ·subst he
       have:=HE.out.2.1
       rw [hv] at this
       exact .inl ⟨_,by simp,rfl,Option.some.inj this⟩
      ·rcases HRG.out.2.2.2 n v hv with ⟨y,h1,h2⟩ | h
       ·exact .inl ⟨y,List.mem_append_left _ h1,h2⟩
       ·exact .inr (by simp [h,he])
   ·have HJ3:=zz hj3
    clear hj3
    gi_wp2_with fail
    refine bodyPost_ret (results_none rfl _ _ _) rfl ?_
    exact⟨⟨_,rfl⟩,.inr ⟨pre,_,HR.out.2.1,HJ3.out⟩⟩
theorem appO_walk {gf:Nat} {lb:Array Value} {Nx:List (So.Os)→(So.Os)→Prop} {Dn:List (So.Os)→Prop} {Kb:List Nat} {St:World→Prop} (w0 w:World) (sv:Value) (n:Nat) (xs:List Value) (M:List Ob)
  (S:Sep w0 w (oSl 35 5 sv n xs::M)) (hseq:SeqM Tryz.prog gf lb (fun x:So.Os=>#[So.osV x]) Nx Dn (fun n=>[n]) Kb St) (eg:∀ args w,(callFunc gf args).run Tryz.prog w=.ok (.enter gf args) w) (hKb:∀ k∈Kb,∃ o∈M,k∈o.F)
  (hSt:∀ W,Ext [] w W→St W) (hn:∀ pre,Chn Nx pre→n+pre.length≤1000000) :
  Calls Tryz.prog 32 #[sv,.func (.func gf) #[] lb] w fun e w'=>∃ v2 ys,e=.returned v2∧Chn Nx ys∧Dn ys∧Sep w0 w' (oSl 35 5 v2 (n+ys.length) (xs++osC ys)::M):=by
 obtain⟨j0,hjf,hy0,hy1,hy2⟩:=info_parts infoObj28
 have hr0:w.ownsRow 0 35 5 sv n xs:=S.get 0 rfl
 obtain⟨sb,sc,rfl⟩:=row_slice hr0
 have HS:=zz6 ⟨S,hn,hSt,hseq,eg,hKb⟩
 have S1:=S.var (T:=22) ((Ext.refl [] w).alloc (.cells #[.slice sb n sc] 22)) (heap_alloc_at _) (Nat.le_refl _)
 have HV:=zz2 ⟨S1,hr0⟩
 clear S S1 hr0 hn hSt hseq eg hKb
 refine (callsIn_wide (n:=0)).1 (callsIn_of_wp_marks Tryz.func32 rfl trivial ((wpIn_wide (n:=0)).2 ?_))
 simp only [Tryz.ntmps32,List.size_toArray,List.length_cons,List.length_nil,Nat.reduceAdd,Nat.reduceSub,Array.replicate_succ,Array.replicate_zero,List.push_toArray,List.append_toArray,List.nil_append,List.cons_append]
 go_wp2_with fail
 refine wp_rangeM (gf:=gf) (lb:=lb) rfl HS.out.2.2.2.2.1 HS.out.2.2.2.1 (fun _=>rfl)
  (w.heap.size+1) (w.heap.size+2) (by simp) (by simp) [w.heap.size+3] (by simp) (by simp) (fun k hk=>by
   obtain⟨o,ho,hko⟩:=HS.out.2.2.2.2.2 k hk
   have:=o.lt (HS.out.1.each o (List.mem_cons_of_mem _ ho)) k hko
   simp; omega) (fun W hx=>HS.out.2.2.1 W (((Ext.refl [] w).alloc _).trans hx))
  (fun pre W=>Chn Nx pre∧∃ F,Sep w0 W (oVar 35 22 5 w.heap.size F (n+pre.length) (xs++osC pre)::M)∧∀ o∈oVar 35 22 5 w.heap.size F (n+pre.length) (xs++osC pre)::M,∀ q∈o.F,q≠w.heap.size+1∧q≠w.heap.size+2∧q≠w.heap.size+3) (fun _ _ _=>False)
  (fun pre A B h hx=>by
   obtain⟨hc,F,S,hf⟩:=h
   refine⟨hc,F,S.extra hx (fun q hq=>⟨?_,fun o ho hqo=>?_⟩),hf⟩
   ·have:=HS.out.1.ext.size
    simp at hq; omega
   ·have:=hf o ho q hqo
    simp at hq; omega)
  (fun _ _ _ _ h _=>h)
  (fun W hx hw=>by
   refine⟨Chn.nil _,_,(by
    show Sep w0 W (oVar 35 22 5 w.heap.size _ n (xs++[])::M)
    rw [List.append_nil]
    exact HV.out.1.quiet hx),fun o ho q hq=>?_⟩
   have hlt:q<w.heap.size+1:=by
    rcases List.mem_cons.1 ho with rfl | ho
    ·rcases List.mem_cons.1 hq with rfl | hq
     ·omega
     ·have:=(HV.out.2.lt q (by simpa using hq)).2; omega
    ·have:=o.lt (HS.out.1.each o (List.mem_cons_of_mem _ ho)) q hq; omega
   omega) ?round ?done ?stop
 case stop=>exact fun _ _ _ _ _ h _=>h.elim
 case round=>
  rintro pre x W hnx hts ⟨hc,F,S,hf⟩ hlt
  have hts3:w.heap.size+3<W.heap.size:=hts _ (by simp)
  have hnb:=HS.out.2.1 _ (hc.snoc hnx)
  rw [List.length_append,List.length_singleton] at hnb
  have HR:=zz4 ⟨hc,S,hf,hnx⟩
  clear hc S hf hnx hts
  obtain⟨x1,x2,x3,x4,x5,x6,x7⟩:=x
  gi_wp2_with fail
  refine⟨(Ext.refl _ _).alloc _,fun o=>?_⟩
  obtain⟨XW,hXW⟩:∃ XW,W.alloc (.cells #[.int .i64 x1,.int .i64 x2,.slice x3 x4 x5,.bool x6,.string x7] 35)=XW:=⟨_,rfl⟩
  obtain⟨xb,hxb⟩:∃ xb,W.heap.size=xb:=⟨_,rfl⟩
  have hxa:Ext [] W XW:=by rw [←hXW]; exact (Ext.refl [] W).alloc _
  have hbx:XW.heap[xb]? = some (.cells #[.int .i64 x1,.int .i64 x2,.slice x3 x4 x5,.bool x6,.string x7] 35 (0,0)):=by rw [←hXW,←hxb]; exact heap_alloc_at _
  simp only [hXW,hxb]
  obtain⟨L,hL⟩:∃ L,w.heap.size+2=L:=⟨_,rfl⟩
  rw [hL] at hlt
  simp only [hL]
  obtain⟨V,hV⟩:∃ V,XW.putObj L o=V:=⟨_,rfl⟩
  have hxv:Ext [L] XW V:=by rw [←hV]; exact Ext.putObj _ _ _
  rw [hV]
  have SV:=(HR.out.2.1.quiet hxa).extra hxv (fun q hq=>by
   obtain rfl:=List.mem_singleton.1 hq
   exact⟨by have:=HS.out.1.ext.size; omega,fun o ho hqo=>by have:=HR.out.2.2.1 o ho _ hqo; omega⟩)
  have hbV:=hxv.keep hbx (by simp; omega)
  obtain⟨v,hvb,hvr,hvF,hvn⟩:=(SV.get 0 rfl:(oVar 35 22 5 w.heap.size F (n+pre.length) (xs++osC pre)).P V)
  obtain⟨vb,vc,rfl⟩:=row_slice hvr
  have hVs:W.heap.size≤V.heap.size:=Nat.le_trans hxa.size hxv.size
  have b0:=cellOf hbV 0
  have b1:=cellOf hbV 1
  have b2:=cellOf hbV 2
  have b3:=cellOf hbV 3
  have b4:=cellOf hbV 4
  have a0:=cellOf hvb 0
  have f0:=freeOf hvb 0
  obtain⟨pl,hpl⟩:∃ pl,n+pre.length=pl:=⟨_,rfl⟩
  obtain⟨PR,hPR⟩:∃ PR,xs++osC pre=PR:=⟨_,rfl⟩
  rw [hpl] at SV hvb hvr hvF hvn a0
  rw [hPR] at SV hvr
  have hplb:pl+1≤1000000:=by omega
  have HK:=zz11 ⟨SV,hvb,hvr,hvF,hvn,hpl,hL,hts3,hVs,hlt,hPR⟩
  clear SV hvb hvr hvF hvn hpl hL hts3 hVs hlt hxa hbx hxv hbV hV hXW hxb hnb hPR
  gi_wp2_with (refine wpListIn_hid (fun⟨_,_,h⟩=>h) rfl ?_)
  refine zz ?_
  go_wp2_with (first | (at_builtin; refine wpList_append_lies _ rfl _ _ 22 rfl 0 35 j0 _ 5 64 Tryz.underlying22 hjf hy0 hy1 hy2 rfl (by decide) (.slice vb pl vc) pl _ rfl (World.ownsRow.alloc HK.out.2.2.1 _) ⟨V.heap.size,0,none⟩ 1 1 [.int .i64 x1,.int .i64 x2,.slice x3 x4 x5,.bool x6,.string x7] rfl rfl (World.news_of_block (heap_alloc_at (w:=V) _)) (by simp [Value.oneCell']) (by decide) (by unfold maxLen; omega) (by omega) (by omega) (V.heap.size+1) (by simp) ?_; intro g6 cap2 w9 hown1 hgrow hat6 hlt6; have hb9:=grown_keep hgrow (heap_alloc_old _ HK.out.2.1) HK.out.2.2.2.2.1; have e9:=cellOf hb9 0; have f9:=freeOf hb9 0; have HG:=zz3 ⟨hown1,hgrow,hat6⟩; clear hown1 hgrow hat6 hlt6 hb9 a0 f0))
  gi_wp2_with fail
  obtain⟨hP1,hP2,hP3⟩:=Sep.push HK.out.1 HK.out.2.1 HK.out.2.2.2.1 HK.out.2.2.2.2.1 HG.out.1 HG.out.2.1 HG.out.2.2
  obtain⟨-,-,-,-,-,hpl,hL,hts3,hVs,hlt,hPR⟩:=HK.out
  have hF0:∀ q∈F,q≠w.heap.size+1∧q≠w.heap.size+2∧q≠w.heap.size+3:=fun q hq=>HR.out.2.2.1 _ (List.mem_cons_self ..) q hq
  have hlen:n+(pre++[(⟨x1,x2,x3,x4,x5,x6,x7⟩:So.Os)]).length=pl+1:=by rw [List.length_append,List.length_singleton]; omega
  have hrow:xs++osC (pre++[(⟨x1,x2,x3,x4,x5,x6,x7⟩:So.Os)])=PR++[.int .i64 x1,.int .i64 x2,.slice x3 x4 x5,.bool x6,.string x7]:=by rw [osC_append,←List.append_assoc,hPR]; rfl
  refine⟨KeepsT.of_ext hP2 (fun q hq=>?_),HR.out.1.snoc HR.out.2.2.2,[w.heap.size,g6],by rw [hlen,hrow]; exact hP1,?_⟩
  ·simp only [List.mem_cons,List.cons_append,List.nil_append] at hq
   have hq2:q=w.heap.size+1∨q=L∨q=w.heap.size+3∨q∈Kb:=by rcases hq with h | h | h | h <;> simp [h]
   rcases hq2 with rfl | rfl | rfl | hq
   ·exact⟨by omega,fun h=>(hF0 _ h).1 rfl⟩
   ·exact⟨by omega,fun h=>(hF0 _ h).2.1 hL.symm⟩
   ·exact⟨by omega,fun h=>(hF0 _ h).2.2 rfl⟩
   ·obtain⟨ob,hob,hqo⟩:=HS.out.2.2.2.2.2 q hq
    obtain⟨j,hj⟩:=List.getElem?_of_mem hob
    exact⟨ob.lt (HK.out.1.each ob (List.mem_cons_of_mem _ hob)) q hqo,fun h=>HK.out.1.apart 0 (j+1) _ _ rfl hj (by omega) q h hqo⟩
  ·intro ob hob q hq
   rcases List.mem_cons.1 hob with rfl | hob
   ·rcases List.mem_cons.1 hq with rfl | hq
    ·omega
    ·obtain rfl:=List.mem_singleton.1 hq
     rcases hP3 q (by simp) with h | h
     ·have:=hF0 q h; omega
     ·omega
   ·have:=HR.out.2.2.1 ob (List.mem_cons_of_mem _ hob) q hq; omega
 case done=>
  rintro ys W hdn ⟨hc,F,S,hf⟩ hD
  obtain⟨v,hvb,hvr,hvF,hvn⟩:=(S.get 0 rfl:(oVar 35 22 5 w.heap.size F (n+ys.length) (xs++osC ys)).P W)
  have hfin:=S.unvar hvb
  obtain⟨vb,vc,rfl⟩:=row_slice hvr
  have a0:=cellOf hvb 0
  have HF:=zz6 ⟨hfin,hdn,hc,hf,hD,hvF⟩
  clear hfin hdn hc S hf hD hvb hvr hvF hvn
  go_wp2_with fail
  refine⟨by simp,.inl ⟨_,_,rfl,run_takeDeferred HF.out.2.2.2.2.1,?_⟩⟩
  refine⟨_,results_tmp rfl _ _ _,?_⟩
  refine⟨_,ys,rfl,HF.out.2.2.1,HF.out.2.1,HF.out.1.extra (Ext.putObj _ _ _) (fun q hq=>?_)⟩
  obtain rfl:=List.mem_singleton.1 hq
  refine⟨by have:=HS.out.1.ext.size; omega,fun o ho hqo=>?_⟩
  rcases List.mem_cons.1 ho with rfl | ho
  ·exact (HF.out.2.2.2.1 _ (List.mem_cons_self ..) _ (by rw [show (oVar 35 22 5 w.heap.size F (n+ys.length) (xs++osC ys)).F=F from rfl,HF.out.2.2.2.2.2]; exact List.mem_cons_of_mem _ hqo)).1 rfl
  ·exact (HF.out.2.2.2.1 o (List.mem_cons_of_mem _ ho) _ hqo).1 rfl
end Pg
end Go.Proofs.YtljachhmdogkdaaGreatDoor
