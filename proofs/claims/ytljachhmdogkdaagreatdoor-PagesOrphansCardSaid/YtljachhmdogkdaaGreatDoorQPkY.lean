/-
 Texts PkY, as far as the statement needs them.
-/
import Derived.Test.YtljachhmdogkdaaGreatDoorQPkV
import Derived.Test.YtljachhmdogkdaaGreatDoorQPkW
import Derived.Test.YtljachhmdogkdaaGreatDoorQPkX
set_option maxRecDepth 100000
set_option maxHeartbeats 64000000
namespace Go.Proofs.YtljachhmdogkdaaGreatDoor
namespace Tr
open Go.RowKit
theorem sub_own (v:Value) (l:List Nd) (w:World) (h:NodesAt w v l) (i:Nat) (hi:i<l.length) (hl:l.length≤65536) (hs:shapeN l≠none) :
  Calls Tryz.prog 104 #[v,.int .i64 i] w fun e w'=>∃ v2 q Z2,e=.returned v2∧Sep w w' [oBd q v2 Z2]∧Z2.map (·.1)=subN l i:=by
 cases hsh:shapeN l with
 | none=>exact absurd hsh hs
 | some p=>
 obtain⟨E,D⟩:=p
 have HW:=zz (shape_walk v l w h hl)
 rw [hsh] at HW
 obtain⟨R,hR⟩:∃ R,subN l i=R:=⟨_,rfl⟩
 have hR2:=hR
 rw [subN,hsh] at hR2
 simp only at hR2
 rw [hR]
 obtain⟨h0,hE,hD,hK,hEnd⟩:=shape_some hsh
 obtain⟨e1,e2⟩:=(hEnd i hi).1
 obtain⟨e,he⟩:∃ e:Nat,E.getD i 0=(e:Int):=⟨(E.getD i 0).toNat,by omega⟩
 rw [he] at e1 e2 hR2
 rw [Int.toNat_natCast] at hR2
 have hkk:=shape_kids hsh hl
 obtain⟨base,cap,rfl,hcap,hN⟩:=h
 obtain⟨b,o,rfl,-⟩:=hN 0 h0
 have hEg:E[i]? = some (e:Int):=by
  have hie:i<E.length:=by omega
  rw [←he,List.getD_eq_getElem?_getD,List.getElem?_eq_getElem hie]; rfl
 obtain⟨n,hn⟩:∃ n,l.length=n:=⟨_,rfl⟩
 have HH:=zz5 ⟨hN,hkk,hR2,hn,hEg⟩
 rw [hn] at hE hi hl e2 hcap ⊢
 rw [hn] at HW
 clear hR hR2 hsh hN hkk hn h0 hD hK hEnd he hs hEg
 go_enter Tryz.func104,Tryz.ntmps104
 go_wp2_with fail
 refine HW.out.mono ?_
 rintro ee w1 ⟨ev,dv,rfl,hx,⟨⟨eb,ec,rfl,hI⟩,-⟩⟩
 obtain⟨b3,o3,rfl,hc3⟩:=hI i (by omega)
 rw [(List.getElem?_eq_some_iff.1 HH.out.2.2.2.2).2] at hc3
 have HX:=zz hx
 rw [hE]
 have hiz:(i:Int)<(n:Int):=by omega
 clear hx HW hI hE
 go_upto_region 3 with (fail)
 obtain⟨W,hW⟩:∃ W,w1.alloc (Obj.cells #[.slice none 0 0] 156)=W:=⟨_,rfl⟩
 have hx2:Ext [] w1 W:=by rw [←hW]; exact (Ext.refl [] w1).alloc _
 have hb2:W.heap[w1.heap.size]? = some (.cells #[.slice none 0 0] 156 (0,0)):=by rw [←hW]; exact heap_alloc_at _
 obtain⟨q,hq⟩:∃ q,w1.heap.size=q:=⟨_,rfl⟩
 have S:=((Sep.start w).quiet HX.out).new hx2 (oBd q (.slice none 0 0) []) ⟨by rw [←hq]; exact hb2,World.ownsRow_nil _ _ _ _,by simp,by simp [bdF,Value.ownBlock],by simp⟩ (fun k hk=>by simp [oBd,bdF,Value.ownBlock] at hk; omega)
 rw [hq,hW]
 have hc4:=hx2.cell hc3
 have HS:=zz S
 clear S hb2 hq hW hx2 hc3 HX
 have hez:(i:Int)≤(e:Int):=by omega
 have hecap:(e:Int)≤(cap:Int):=by omega
 have hlen:((l.take e).drop i).length=e - i:=by rw [List.length_drop,List.length_take,HH.out.2.2.2.1]; omega
 have hNs:NodesAt w (.slice (some ⟨b,o+i*5,none⟩) (e - i) (cap - i)) ((l.take e).drop i):=⟨_,_,by rw [hlen],by rw [hlen]; omega,HH.out.1.cut i e⟩
 have HA:=zz (add_walk w W _ 0 q (.slice none 0 0) [] _ _ i HS.out rfl hNs (by rw [hlen]; simp; omega) (by omega) (fun x hx=>HH.out.2.1 x (List.mem_of_mem_take (List.mem_of_mem_drop hx))))
 clear hNs hlen
 go_wp2_with fail
 refine HA.out.mono ?_
 rintro ee w3 ⟨rfl,v3,Z2,hZ,S⟩
 have hP:BdP w3 q v3 Z2:=S.get 0 rfl
 have c0:w3.cell? ⟨q,0,none⟩=some v3:=cellOf hP.here 0
 have HP:=zz3 ⟨hP,S,hZ⟩
 clear hP S hZ HA hc4
 go_wp2_with fail
 go_ret
 refine⟨v3,q,Z2,rfl,HP.out.2.1,?_⟩
 have hR:=HP.out.2.2
 rw [show ((([]:List Zd).length:Nat):Int) - (i:Int) = -(i:Int) from by simp,HH.out.2.2.1] at hR
 exact hR
theorem row_same {w w' : World} {e:TypeId} {k n:Nat} {v:Value} {xs:List Value} (h:w.ownsRow 0 e k v n xs) (hs:∀ g,v.ownBlock=some g→w'.heap[g]? = w.heap[g]?):w'.ownsRow 0 e k v n xs:=by
 refine⟨h.1,?_⟩
 rcases h.2 with hn | ⟨g,cap,cur,rfl,hb,hgg,rest⟩
 ·exact .inl hn
 ·exact .inr ⟨g,cap,cur,rfl,hb,(hs g rfl).trans hgg,rest⟩
theorem BdP.same {w w' : World} {b:Nat} {v:Value} {Z:List Zd} (h:BdP w b v Z) (hs:∀ k∈bdF b v Z,w'.heap[k]? = w.heap[k]?):BdP w' b v Z:=
 ⟨(hs b (by simp [bdF])).trans h.here,row_same h.row (fun g hg=>hs g (by simp [bdF,hg])),fun p hp=>row_same (h.kids p hp) (fun g hg=>hs g (by unfold bdF; exact List.mem_cons_of_mem _ (List.mem_append_right _ (mem_kidF hp hg)))),h.dup,h.wf⟩
def oNs (F:List Nat) (L:List (Et×List Nd)):Ob where
 F:=F
 P:=fun w=>(∀ k∈F,k<w.heap.size)∧∀ w' : World,(∀ k∈F,w'.heap[k]? = w.heap[k]?)→∀ p∈L,NodesAt w' (slC p.1.2) p.2
 ok:=fun h hx hS=>⟨fun k hk=>Nat.lt_of_lt_of_le (h.1 k hk) hx.size,fun w2 h2=>h.2 w2 (fun k hk=>(h2 k hk).trans (hx.block k (h.1 k hk) (hS k hk)))⟩
 lt:=fun h=>h.1
def pairsN (l:List Nd):List Int→List Ent
 | k::m::r=>((ndAt l k).s,subN l m.toNat)::pairsN l r
 | _=>[]
def entsN (l:List Nd) (but:ByteArray):List Ent:=(pairsN l (ndAt l 0).kids).filter fun p=>!(p.1.toList==but.toList)
theorem pairs_step (l:List Nd) (L:List Int) (j:Nat) (hj:j+1<L.length):pairsN l (L.drop j)=((ndAt l (L[j]'(by omega))).s,subN l (L[j+1]'hj).toNat)::pairsN l (L.drop (j+2)):=by
 rw [drop_at L j (by omega),drop_at L (j+1) hj,pairsN]
theorem ents_walk (v:Value) (l:List Nd) (but:ByteArray) (w:World) (h:NodesAt w v l) (his:isN l 8=true) :
  Calls Tryz.prog 70 #[v,.string but] w fun e w'=>∃ ov P F,e=.returned ov∧Sep w w' [oEt ov (P.map (·.1)),oNs F P]∧P.map (fun p=>(p.1.1,p.2))=entsN l but:=by
 obtain⟨i0,hif,hz0,hz1,hz2⟩:=info_parts infoEntry
 obtain⟨hc,hk8⟩:=is_facts his
 obtain⟨h0,hn,E,D,hsh,-⟩:=check_zero hc
 have hrk:=root_kids hc
 have hev:=root_even his
 have hrl:=root_len hc
 have HSub:=zz (fun (k:Nat) (hk:k<l.length) W (hx:Ext [] w W)=>sub_own v l W (h.ext hx) k hk hn (by rw [hsh]; simp))
 obtain⟨R,hR⟩:∃ R,entsN l but=R:=⟨_,rfl⟩
 rw [hR]
 rw [entsN] at hR
 obtain⟨base,cap,rfl,-,hN⟩:=h
 obtain⟨b,o,rfl,hnd⟩:=node_in hN 0 h0
 rw [Nat.zero_mul,Nat.add_zero,show ((0:Nat):Int)=0 from rfl] at hnd
 obtain⟨-,-,-,-,-,rb,rc,r5,r6⟩:=hnd
 obtain⟨x,hx0⟩:∃ x,ndAt l 0=x:=⟨_,rfl⟩
 rw [hx0] at hrk hev hrl hR r5 r6
 obtain⟨K,hK⟩:∃ K,x.kids.length=K:=⟨_,rfl⟩
 rw [hK] at r5 hrl hev
 obtain⟨n,hln⟩:∃ n,l.length=n:=⟨_,rfl⟩
 have HH:=zz7 ⟨hN,hrk,hR,r5,r6,hK,hln⟩
 rw [hln] at HSub h0 ⊢
 have h0z:(0:Int)<(n:Int):=by omega
 clear hN hrk hR r5 r6 hK hln hx0 his hc hk8 h0 hsh hn
 go_enter Tryz.func70,Tryz.ntmps70
 go_wp2_with fail
 have S:=(Sep.start w).new (Ext.refl _ _) (oNs [] []) ⟨by simp,fun _ _ p hp=>by cases hp⟩ (fun k hk=>by cases hk)
 have S:=S.new (Ext.refl _ _) (oEt (.slice none 0 0) []) (World.ownsRow_nil _ _ _ _) (fun q hq=>by simp [oEt,oSl,Value.ownBlock] at hq)
 have HS:=zz S
 clear S
 go_loopg [5,6,7] K (fun g ov iv v7 wr=>∃ (j:Nat) (P:List (Et×List Nd)) (F:List Nat),g+j=K∧j % 2=0∧iv=.int .i64 j∧P.length≤j∧P.map (fun p=>(p.1.1,p.2))++(pairsN l (x.kids.drop j)).filter (fun p=>!(p.1.toList==but.toList))=R∧Sep w wr [oEt ov (P.map (·.1)),oNs F P])
 case atStart=>exact⟨0,[],[],by omega,rfl,rfl,by simp,HH.out.2.2.1,HS.out⟩
 case round=>
  clear HS
  obtain⟨j,P,F,hgj,hj2,rfl,hP,hR,S⟩:=hrel
  have hr0:wr.ownsRow 0 125 2 u5 (P.map (·.1)).length (etC (P.map (·.1))):=S.get 0 rfl
  rw [List.length_map] at hr0
  obtain⟨ao3,c3,rfl⟩:=row_slice hr0
  obtain⟨m,hm⟩:∃ m,P.length=m:=⟨_,rfl⟩
  rw [hm] at hP ⊢
  have r5:=S.ext.cell HH.out.2.2.2.1
  by_cases hjK:j<K
  case neg=>
   obtain rfl:gk=0:=by omega
   have hRA:P.map (fun p=>(p.1.1,p.2))=R:=by rw [←hR,List.drop_eq_nil_of_le (by rw [HH.out.2.2.2.2.2.1]; omega)]; simp [pairsN]
   rw [hm] at S
   have HX:=zz2 ⟨S,hRA⟩
   clear hR S hr0 hP hm hRA
   go_wp2_with fail
   go_ret
   exact⟨_,P,F,rfl,HX.out.1,HX.out.2⟩
  case pos=>
  obtain⟨g,rfl⟩:∃ g,gk=g+2:=⟨gk - 2,by omega⟩
  have hjz:(j:Int)<(K:Int):=by omega
  have hj1:j+1<x.kids.length:=by rw [HH.out.2.2.2.2.2.1]; omega
  have hjz1:(j:Int)+1<(K:Int):=by have:=HH.out.2.2.2.2.2.1; omega
  rw [pairs_step l _ j hj1,List.filter_cons] at hR
  obtain⟨b5,o5,rfl,c5⟩:=HH.out.2.2.2.2.1 j (by omega)
  obtain⟨b55,o55,e55,c6⟩:=HH.out.2.2.2.2.1 (j+1) hj1
  cases e55
  have hb:=HH.out.2.1 j _ (List.getElem?_eq_getElem (by omega))
  have hb1:=HH.out.2.1 (j+1) _ (List.getElem?_eq_getElem hj1)
  have c5:=S.ext.cell c5
  have c6:=S.ext.cell c6
  generalize x.kids[j]'(by omega)=c at hR c5 hb
  generalize x.kids[j+1]'hj1=d at hR c6 hb1
  obtain⟨k,rfl⟩:∃ k:Nat,c=(k:Int):=⟨c.toNat,by omega⟩
  obtain⟨k2,rfl⟩:∃ k2:Nat,d=(k2:Int):=⟨d.toNat,by omega⟩
  have hk:k<l.length:=by omega
  have hk2:k2<n:=by have:=HH.out.2.2.2.2.2.2; omega
  obtain⟨b6,o6,e6,d1,d2,d3,d4,-⟩:=node_in (HH.out.1.ext S.ext) k hk
  cases e6
  have hkz:(k:Int)<(n:Int):=by have:=HH.out.2.2.2.2.2.2; omega
  obtain⟨s,hs⟩:∃ s,(ndAt l (k:Int)).s=s:=⟨_,rfl⟩
  rw [hs] at d4
  simp only [hs,Int.toNat_natCast] at hR
  clear hs d1 d2 d3 hb hb1
  cases hbut:(s.toList==but.toList) with
  | true=>
   rw [hbut] at hR
   have HX:=zz3 ⟨S,hR,hm⟩
   clear S hR hr0 hm
   go_wp2_with fail
   go_roundg g
   case measure=>omega
   case rel=>exact⟨j+2,P,F,by omega,by omega,by go_num,by rw [HX.out.2.2]; omega,by simpa using HX.out.2.1,by have:=HX.out.1; rw [HX.out.2.2] at this; exact this⟩
  | false=>
   rw [hbut] at hR
   have HX:=zz4 ⟨S,hR,hm,hr0⟩
   have c6' : wr.cell? ⟨b5,o5+(j+1),none⟩=some (.int .i64 (k2:Nat)):=c6
   clear S hR hr0 hm c6
   go_wp2_with fail
   refine (HSub.out k2 (by have:=HH.out.2.2.2.2.2.2; omega) wr HX.out.1.ext).mono ?_
   rintro e W ⟨v9,q9,Z9,rfl,S9,hZ9⟩
   have hB:BdP W q9 v9 Z9:=S9.get 0 rfl
   obtain⟨a9,c9,rfl⟩:=row_slice hB.row
   have hN9:=hB.nodes
   rw [hZ9] at hN9
   have hl9:Z9.length=(subN l k2).length:=by rw [←hZ9,List.length_map]
   obtain⟨X9,hX9⟩:∃ X9,Z9.length=X9:=⟨_,rfl⟩
   rw [hX9] at hB hl9 ⊢
   have hS9:Sep wr W [oBd q9 (.slice a9 X9 c9) Z9]:=by rw [←hX9]; exact S9
   have SW:=(HX.out.1).upd 1 (oNs (F++bdF q9 (.slice a9 X9 c9) Z9) (P++[((s,a9,X9,c9),subN l k2)])) rfl (S9.ext.weak) (fun q hq=>by
    have hq:q∈F++bdF q9 (.slice a9 X9 c9) Z9:=hq
    rcases List.mem_append.1 hq with hq | hq
    ·exact .inl hq
    ·exact .inr (hS9.base _ (List.mem_cons_self ..) q hq)) ⟨fun q hq=>by
    rcases List.mem_append.1 hq with hq | hq
    ·exact Nat.lt_of_lt_of_le (((HX.out.1).get 1 rfl).1 q hq) S9.ext.size
    ·exact (oBd q9 (.slice a9 X9 c9) Z9).lt hB q hq,fun w2 h2 p hp=>by
    rcases List.mem_append.1 hp with hp | hp
    ·refine ((HX.out.1).get 1 rfl).2 w2 (fun q hq=>?_) p hp
     rw [h2 q (List.mem_append_left _ hq)]
     exact S9.ext.block q (((HX.out.1).get 1 rfl).1 q hq) (by simp)
    ·obtain rfl:p=((s,a9,X9,c9),subN l k2):=by simpa using hp
     have h3:=(hB.same (w':=w2) (fun q hq=>h2 q (List.mem_append_right _ hq))).nodes
     rw [hZ9] at h3
     exact h3⟩
   have hrw:=ownsRow_ext HX.out.2.2.2 S9.ext (by simp)
   have HR:=zz2 ⟨SW,hrw⟩
   have hm':=HX.out.2.2.1
   rw [hm'] at HR
   clear SW hrw hm' hN9 hl9 hX9 hS9 S9 hB
   go_wp2_with (first | (at_builtin; refine wpList_append_lies _ rfl _ _ 122 rfl 0 125 i0 _ 2 40 Tryz.underlying122 hif hz0 hz1 hz2 rfl (by decide) (.slice ao3 m c3) m _ rfl (World.ownsRow.alloc HR.out.2 _) ⟨W.heap.size,0,none⟩ 1 1 [.string s,.slice a9 X9 c9] rfl rfl (cells_two _ _ _ _) (by simp [Value.oneCell']) (by decide) (by unfold maxLen; omega) (by omega) (by omega) (W.heap.size+1) (by simp) ?_; intro g6 cap2 w6 hown1 hgrow hat6 hlt6))
   have Pl:=push_local (cap:=cap2) (n:=m+1) hgrow hat6
   have S2:=HR.out.1.upd 0 (oEt (.slice (some ⟨g6,0,none⟩) (m+1) cap2) ((P++[((s,a9,X9,c9),subN l k2)]).map (·.1))) rfl Pl.1 Pl.2 (by
    show World.ownsRow _ 0 125 2 _ _ _
    rw [List.length_map,List.length_append,HX.out.2.2.1,List.map_append,etC_append]
    exact hown1)
   go_roundg g
   case measure=>omega
   case rel=>
    refine⟨j+2,P++[((s,a9,X9,c9),subN l k2)],_,by omega,by omega,by go_num,by rw [List.length_append,HX.out.2.2.1]; simp; omega,?_,S2⟩
    have:=HX.out.2.1
    rw [if_pos (by rfl)] at this
    rw [List.map_append,List.append_assoc]
    exact this
theorem pairs_ok {l:List Nd} (hb:∀ x∈l,bareN x=true):∀ (pr:Option ByteArray) (L:List Int),risesN l pr L=true→(∀ k∈L,0≤k∧k<(l.length:Int))→∀ p∈pairsN l L,nameN p.1=0∧(∃ x∈l,p.1=x.s)∧∃ m:Nat,m<l.length∧p.2=subN l m
 | _,[],_,_,p,hp=>by cases hp
 | _,[_],_,_,p,hp=>by cases hp
 | pr,k::m::r,h,hk,p,hp=>by
  rw [risesN,Bool.and_eq_true,Bool.and_eq_true,decide_eq_true_eq] at h
  obtain⟨⟨h6,-⟩,h3⟩:=h
  rw [pairsN] at hp
  rcases List.mem_cons.1 hp with rfl | hp
  ·obtain⟨k1,k2⟩:=hk k (by simp)
   obtain⟨m1,m2⟩:=hk m (by simp)
   obtain⟨kk,rfl⟩:∃ kk:Nat,k=(kk:Int):=⟨k.toNat,by omega⟩
   have hkl:kk<l.length:=by omega
   have hnd:=ndAt_nat l kk hkl
   have hmem:ndAt l (kk:Int)∈l:=by rw [hnd]; exact List.getElem_mem hkl
   refine⟨?_,⟨_,hmem,rfl⟩,m.toNat,by omega,rfl⟩
   have:=hb _ hmem
   unfold bareN at this
   rw [h6] at this
   split at this
   ·cases this
   ·simpa using this
  ·exact pairs_ok hb _ r h3 (fun q hq=>hk q (by simp [hq])) p hp
theorem ents_ok {l:List Nd} {but:ByteArray} (his:isN l 8=true) (hl:Lt l):∀ p∈entsN l but,p.1.size≤1000000∧nameN p.1=0∧checkN p.2=0∧∀ x∈p.2,x.s.size≤1000000:=fun p hp=>by
 obtain⟨hc,hk8⟩:=is_facts his
 obtain⟨h0,hn,E,D,hsh,-,hall⟩:=check_zero hc
 have hb:∀ x∈l,bareN x=true:=fun x hx=>by
  have:=List.all_eq_true.1 hall x hx
  rw [nodeOk,Bool.and_eq_true] at this
  exact this.1
 have e:=ndAt_nat l 0 h0
 rw [show ((0:Nat):Int)=0 from rfl] at e
 have hr:risesN l none (ndAt l 0).kids=true:=by
  have:=List.all_eq_true.1 hall _ (List.getElem_mem h0)
  rw [←e,nodeOk,hk8] at this
  simp at this
  exact this.2.2
 have hp2:=(List.mem_filter.1 hp).1
 obtain⟨h1,⟨x,hx,h2⟩,m,hm,h3⟩:=pairs_ok hb none _ hr (fun k hk=>by
  obtain⟨j,hj⟩:=List.getElem?_of_mem hk
  have:=root_kids hc j k hj
  omega) p hp2
 refine⟨by rw [h2]; exact hl.s x hx,h1,by rw [h3]; exact (cuts_ok hc hm).sub,fun y hy=>?_⟩
 rw [h3] at hy
 unfold subN at hy
 split at hy
 ·obtain⟨z,hz,rfl⟩:=List.mem_map.1 hy
  exact hl.s z (List.mem_of_mem_take (List.mem_of_mem_drop hz))
 ·cases hy
theorem ents_P {l:List Nd} {but:ByteArray} {P:List (Et×List Nd)} (hP:P.map (fun p=>(p.1.1,p.2))=entsN l but) (his:isN l 8=true) (hl:Lt l):∀ p∈P,p.1.1.size≤1000000∧nameN p.1.1=0∧checkN p.2=0∧∀ x∈p.2,x.s.size≤1000000:=fun p hp=>
 ents_ok (but:=but) his hl (p.1.1,p.2) (by rw [←hP]; exact List.mem_map_of_mem (f:=fun p:Et×List Nd=>(p.1.1,p.2)) hp)
def setN (l:List Nd) (key:ByteArray) (v:List Nd):List Nd×Int:=
 if firstN [l,v]≠0 then ([],firstN [l,v]) else if (ndAt l 0).kind≠8∨nameN key≠0 then ([],2) else dictN (entsN l key++[(key,v)])
theorem trees2g {w:World} {g:Nat} {u v:Value} {a b:List Nd} {t:TypeId} {f:Nat×Nat} (h:w.heap[g]? = some (.cells #[u,v] t f)) (hu:NodesAt w u a) (hv:NodesAt w v b):TreesAt w (.slice (some ⟨g,0,none⟩) 2 2) [a,b]:=
 ⟨_,2,rfl,Nat.le_refl _,fun i hi=>by
  match i,hi with
  | 0,_=>exact⟨g,0,u,rfl,cellOf h 0,hu⟩
  | 1,_=>exact⟨g,0,v,rfl,cellOf h 1,hv⟩⟩
end Tr
end Go.Proofs.YtljachhmdogkdaaGreatDoor
