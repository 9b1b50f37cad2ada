/-
 Texts PkW, as far as the statement needs them.
-/
import Derived.Test.YtljachhmdogkdaaGreatDoorQPkV
set_option maxRecDepth 100000
set_option maxHeartbeats 64000000
namespace Go.Proofs.YtljachhmdogkdaaGreatDoor
namespace Tr
open Go.RowKit
def evensN:List Int→List Int
 | k::_::r=>k::evensN r
 | [k]=>[k]
 | []=>[]
theorem evens_step (L:List Int) (j:Nat) (hj:j+1<L.length):evensN (L.drop j)=L[j]'(by omega)::evensN (L.drop (j+2)):=by
 rw [drop_at L j (by omega),drop_at L (j+1) hj,evensN]
theorem ndAt_nat (l:List Nd) (k:Nat) (hk:k<l.length):ndAt l (k:Int)=l[k]'hk:=by
 rw [ndAt,Int.toNat_natCast,List.getD_eq_getElem?_getD,List.getElem?_eq_getElem hk]; rfl
def namesN (l:List Nd):List ByteArray:=if isN l 8 then (evensN (ndAt l 0).kids).map (fun k=>(ndAt l k).s) else []
theorem is_facts {l:List Nd} {kind:Int} (h:isN l kind=true):checkN l=0∧(ndAt l 0).kind=kind:=by simpa [isN] using h
theorem root_kids {l:List Nd} (hc:checkN l=0):∀ (j:Nat) (c:Int),(ndAt l 0).kids[j]? = some c→0<c∧c<l.length:=by
 obtain⟨h0,hn,E,D,hsh,-⟩:=check_zero hc
 obtain⟨-,-,-,hK,-⟩:=shape_some hsh
 intro j c hj
 have e:kidsAt l 0=(ndAt l 0).kids:=by
  have:=ndAt_nat l 0 h0
  rw [show ((0:Nat):Int)=0 from rfl] at this
  rw [this,kidsAt,List.getElem?_eq_getElem h0]
 have:=hK 0 h0 j c (by rw [e]; exact hj)
 omega
theorem root_even {l:List Nd} (h:isN l 8=true):(ndAt l 0).kids.length % 2=0:=by
 obtain⟨hc,hk⟩:=is_facts h
 obtain⟨h0,hn,E,D,hsh,hm,hall⟩:=check_zero hc
 have e:=ndAt_nat l 0 h0
 rw [show ((0:Nat):Int)=0 from rfl] at e
 have:=List.all_eq_true.1 hall _ (List.getElem_mem h0)
 rw [←e,nodeOk,hk] at this
 simp at this
 exact this.2.1
theorem infoString17:(Tryz.prog.info? 9).map (fun i=>(i.zero,i.size,i.bytes))=some (some (.string ⟨#[]⟩),1,16):=by kernel_rfl
def stC (l:List ByteArray):List Value:=l.map Value.string
theorem strs_own {w:World} {v:Value} {l:List ByteArray} (h:w.ownsRow 0 9 1 v l.length (stC l)):StrsAt w v l:=by
 obtain⟨ao,cap,rfl⟩:=row_slice h
 refine⟨ao,cap,rfl,row_le h,fun i hi=>?_⟩
 obtain⟨g,c2,he⟩:=row_form h (by omega)
 cases he
 exact⟨g,0,rfl,by rw [Nat.zero_add]; exact row_cell h (by rw [stC,List.getElem?_map,List.getElem?_eq_getElem hi]; rfl)⟩
theorem names_walk (v:Value) (l:List Nd) (w:World) (h:NodesAt w v l) (hl:Lt l) :
  Calls Tryz.prog 150 #[v] w fun e w'=>∃ v2,e=.returned v2∧Ext [] w w'∧StrsAt w' v2 (namesN l):=by
 obtain⟨i0,hif,hz0,hz1,hz2⟩:=info_parts infoString17
 have HI:=zz (is_walk v l 8 w h hl)
 cases his:isN l 8 with
 | false=>
  have hR:namesN l=[]:=by rw [namesN,his]; rfl
  rw [hR]
  rw [his] at HI
  obtain⟨base,cap,rfl,-,-⟩:=h
  clear hR his
  go_enter Tryz.func150,Tryz.ntmps150
  go_wp2_with fail
  refine HI.out.mono ?_
  rintro e w1 ⟨rfl,hx⟩
  have HX:=zz hx
  clear hx HI
  go_wp2_with fail
  go_ret
  exact⟨_,rfl,HX.out,none,0,rfl,by simp,fun k hk=>by cases hk⟩
 | true=>
 rw [his] at HI
 obtain⟨hc,hk8⟩:=is_facts his
 obtain⟨h0,hn,-⟩:=check_zero hc
 have hrk:=root_kids hc
 have hev:=root_even his
 obtain⟨R,hR⟩:∃ R,namesN l=R:=⟨_,rfl⟩
 rw [hR]
 rw [namesN,his,if_pos rfl] at hR
 obtain⟨base,cap,rfl,-,hN⟩:=h
 obtain⟨b,o,rfl,hnd⟩:=node_in hN 0 h0
 rw [Nat.zero_mul,Nat.add_zero] at hnd
 rw [show ((0:Nat):Int)=0 from rfl] at hnd
 obtain⟨r1,r2,r3,r4,rw_,rb,rc,r5,r6⟩:=hnd
 obtain⟨x,hx0⟩:∃ x,ndAt l 0=x:=⟨_,rfl⟩
 rw [hx0] at hrk hev hR r5 r6 rw_
 obtain⟨K,hK⟩:∃ K,x.kids.length=K:=⟨_,rfl⟩
 have hkl:=rw_.len
 rw [hK] at r5 hkl hev
 obtain⟨n,hln⟩:∃ n,l.length=n:=⟨_,rfl⟩
 have HH:=zz7 ⟨hN,hrk,hR,r5,r6,hK,hln⟩
 have hK9:K≤65536:=by
  obtain⟨-,-,E,D,hsh,-⟩:=check_zero hc
  obtain⟨-,-,-,-,hE⟩:=shape_some hsh
  have h9:=(hE 0 h0).2
  have e:kidsAt l 0=x.kids:=by
   have:=ndAt_nat l 0 h0
   rw [show ((0:Nat):Int)=0 from rfl,hx0] at this
   rw [this,kidsAt,List.getElem?_eq_getElem h0]
  rw [e,hK] at h9
  omega
 rw [hln] at HI h0 hn ⊢
 have h0z:(0:Int)<(n:Int):=by omega
 clear hN hrk hR r1 r2 r3 r4 r5 r6 rw_ hK hln hx0 his hc hk8 h0
 go_enter Tryz.func150,Tryz.ntmps150
 go_wp2_with fail
 refine HI.out.mono ?_
 rintro e w1 ⟨rfl,hx⟩
 have S:=((Sep.start w).quiet hx).new (Ext.refl _ _) (oSl 9 1 (.slice none 0 0) 0 []) (World.ownsRow_nil _ _ _ _) (fun q hq=>by simp [oSl,Value.ownBlock] at hq)
 have HS:=zz S
 clear hx HI S
 go_wp2_with fail
 go_loopg [3,4] K (fun g ov iv wr=>∃ (j:Nat) (A:List ByteArray),g+j=K∧j % 2=0∧iv=.int .i64 j∧A.length≤j∧A++(evensN (x.kids.drop j)).map (fun k=>(ndAt l k).s)=R∧Sep w wr [oSl 9 1 ov A.length (stC A)])
 case atStart=>exact⟨0,[],by omega,rfl,rfl,by simp,HH.out.2.2.1,HS.out⟩
 case round=>
  clear HS
  obtain⟨j,A,hgj,hj2,rfl,hA,hR,S⟩:=hrel
  have hr0:wr.ownsRow 0 9 1 u3 A.length (stC A):=S.get 0 rfl
  obtain⟨ao3,c3,rfl⟩:=row_slice hr0
  obtain⟨m,hm⟩:∃ m,A.length=m:=⟨_,rfl⟩
  have r5:=S.ext.cell HH.out.2.2.2.1
  by_cases hjK:j<K
  ·obtain⟨g,rfl⟩:∃ g,gk=g+2:=⟨gk - 2,by omega⟩
   have hjz:(j:Int)<(K:Int):=by omega
   have hj1:j+1<x.kids.length:=by rw [HH.out.2.2.2.2.2.1]; omega
   rw [evens_step _ j hj1] at hR
   obtain⟨b5,o5,rfl,c5⟩:=HH.out.2.2.2.2.1 j (by omega)
   have hb:=HH.out.2.1 j _ (List.getElem?_eq_getElem (by omega))
   have c5:=S.ext.cell c5
   generalize x.kids[j]'(by omega)=c at hR c5 hb
   obtain⟨k,rfl⟩:∃ k:Nat,c=(k:Int):=⟨c.toNat,by omega⟩
   have hk:k<l.length:=by omega
   obtain⟨b6,o6,e6,d1,d2,d3,d4,-⟩:=node_in (HH.out.1.ext S.ext) k hk
   cases e6
   have hkz:(k:Int)<(n:Int):=by have:=HH.out.2.2.2.2.2.2; omega
   rw [List.map_cons] at hR
   obtain⟨s,hs⟩:∃ s,(ndAt l (k:Int)).s=s:=⟨_,rfl⟩
   rw [hs] at d4 hR
   rw [hm] at hr0 hA ⊢
   have HX:=zz4 ⟨S,hR,hr0,hm⟩
   clear S hR hr0 hm hb hs d1 d2 d3
   go_wp2_with (first | (at_builtin; refine wpList_append_lies _ rfl _ _ 55 rfl 0 9 i0 _ 1 16 Tryz.underlying55 hif hz0 hz1 hz2 rfl (by decide) (.slice ao3 m c3) m _ rfl (World.ownsRow.alloc HX.out.2.2.1 _) ⟨wr.heap.size,0,none⟩ 1 1 [.string s] rfl rfl (cell_one_new _ _ _) (by simp [Value.oneCell']) (by decide) (by unfold maxLen; omega) (by omega) (by omega) (wr.heap.size+1) (by simp) ?_; intro g6 cap2 w6 hown1 hgrow hat6 hlt6))
   have Pl:=push_local (cap:=cap2) (n:=m+1) hgrow hat6
   go_roundg g
   case measure=>omega
   case rel=>
    have hl1:(A++[s]).length=m+1:=by rw [List.length_append,HX.out.2.2.2]; rfl
    refine⟨j+2,A++[s],by omega,by omega,by go_num,by omega,by rw [List.append_assoc]; exact HX.out.2.1,HX.out.1.upd 0 (oSl 9 1 (.slice (some ⟨g6,0,none⟩) (m+1) cap2) (A++[s]).length (stC (A++[s]))) rfl (by rw [HX.out.2.2.2]; exact Pl.1) (by rw [HX.out.2.2.2]; exact Pl.2) ?_⟩
    show World.ownsRow _ 0 9 1 _ _ _
    rw [hl1,stC,List.map_append]
    exact hown1
  ·obtain rfl:gk=0:=by omega
   have hRA:A=R:=by rw [←hR,List.drop_eq_nil_of_le (by rw [HH.out.2.2.2.2.2.1]; omega),evensN,List.map_nil,List.append_nil]
   subst hRA
   have HX:=zz2 ⟨S.ext,strs_own hr0⟩
   clear hR S hr0 hA hm
   go_wp2_with fail
   go_ret
   exact⟨_,rfl,HX.out.1,HX.out.2⟩
def binF (L:List ByteArray) (s:ByteArray):Nat→Nat→Nat→Nat
 | 0,i,_=>i
 | g+1,i,j=>if i<j then if cmpN (L.getD ((i+j) / 2) ⟨#[]⟩) s<0 then binF L s g ((i+j) / 2+1) j else binF L s g i ((i+j) / 2) else i
def findN (L:List ByteArray) (s:ByteArray):Nat:=binF L s (L.length+1) 0 L.length
def foundN (L:List ByteArray) (s:ByteArray):Bool:=decide (findN L s<L.length)&&decide (cmpN (L.getD (findN L s) ⟨#[]⟩) s=0)
theorem binF_le (L:List ByteArray) (s:ByteArray):∀ (g i j:Nat),i≤j→i≤binF L s g i j∧binF L s g i j≤j
 | 0,i,j,h=>⟨Nat.le_refl _,h⟩
 | g+1,i,j,h=>by
  rw [binF]
  split
  ·split
   ·have:=binF_le L s g ((i+j) / 2+1) j (by omega); omega
   ·have:=binF_le L s g i ((i+j) / 2) (by omega); omega
  ·omega
theorem fcmp_walk (a b:ByteArray) (w:World):Calls Tryz.prog 151 #[.string a,.string b] w fun e w'=>e=.returned (.int .i64 (cmpN a b))∧Ext [] w w':=by
 have H:=zz (fun w=>Tryz.strings_Compare a b w)
 go_enter Tryz.func151,Tryz.ntmps151
 go_wp2_with fail
 refine (H.out _).mono ?_
 rintro e w' ⟨rfl,rfl⟩
 go_wp2_with fail
 go_ret
 exact⟨rfl,Ext.refl _ _⟩
theorem bin_walk (v:Value) (L:List ByteArray) (s:ByteArray) (w:World) (h:StrsAt w v L) (hl:L.length≤1048576) :
  Calls Tryz.prog 149 #[v,.string s,.func (.func 151) #[] #[]] w fun e w'=>e=.returned (.tuple #[.int .i64 (findN L s:Nat),.bool (foundN L s)])∧Ext [] w w':=by
 obtain⟨base,cap,rfl,-,hT⟩:=h
 obtain⟨n,hn⟩:∃ n,L.length=n:=⟨_,rfl⟩
 obtain⟨F,hF⟩:∃ F,findN L s=F:=⟨_,rfl⟩
 have hFn:F≤n:=by rw [←hF,←hn]; exact (binF_le L s _ 0 L.length (by omega)).2
 have hfo:foundN L s=(decide (F<n)&&decide (cmpN (L.getD F ⟨#[]⟩) s=0)):=by rw [foundN,hF,hn]
 obtain⟨Bo,hBo⟩:∃ Bo,foundN L s=Bo:=⟨_,rfl⟩
 rw [hF,hBo]
 rw [hBo] at hfo
 have HBO:=zz hfo
 have hF2:binF L s (n+1) 0 n=F:=by rw [←hF,findN,hn]
 have HH:=zz3 ⟨hT,hn,hF2⟩
 rw [hn] at hl ⊢
 have hcell:∀ (k:Nat),k<n→∀ W,Ext [] w W→∃ b o,base=some ⟨b,o,none⟩∧W.cell? ⟨b,o+k,none⟩=some (.string (L.getD k ⟨#[]⟩)):=fun k hk W hx=>by
  obtain⟨b,o,e,hc⟩:=hT k (by rw [hn]; exact hk)
  refine⟨b,o,e,?_⟩
  rw [hx.cell hc,List.getD_eq_getElem?_getD,List.getElem?_eq_getElem (by rw [hn]; exact hk)]
  rfl
 have HC:=zz hcell
 clear hT hn hF hfo hF2 hcell hBo
 go_enter Tryz.func149,Tryz.ntmps149
 go_wp2_with fail
 go_loopg [9,10,11] n (fun g iv jv hv wr=>∃ i j g2:Nat,j - i≤g∧g≤g2∧i≤j∧j≤n∧iv=.int .i64 i∧jv=.int .i64 j∧binF L s (g2+1) i j=F∧Ext [] w wr)
 case atStart=>exact⟨0,n,n,by omega,by omega,by omega,by omega,rfl,rfl,HH.out.2.2,Ext.refl _ _⟩
 case round=>
  obtain⟨i,j,g2,hg,hg2,hij,hjn,rfl,rfl,hB,hx⟩:=hrel
  by_cases hlt:i<j
  ·obtain⟨g,rfl⟩:∃ g,gk=g+1:=⟨gk - 1,by omega⟩
   obtain⟨g3,rfl⟩:∃ g3,g2=g3+1:=⟨g2 - 1,by omega⟩
   rw [binF,if_pos hlt] at hB
   obtain⟨m,hm⟩:∃ m,(i+j) / 2=m:=⟨_,rfl⟩
   rw [hm] at hB
   have hm1:i≤m:=by omega
   have hm2:m<j:=by omega
   have hltz:(i:Int)<(j:Int):=by omega
   have hmn:(m:Int)<(n:Int):=by omega
   obtain⟨b,o,rfl,hc⟩:=HC.out m (by omega) wr hx
   have H:=zz (fun W=>fcmp_walk (L.getD m ⟨#[]⟩) s W)
   generalize L.getD m ⟨#[]⟩=t at *
   obtain⟨z,hz⟩:∃ z,cmpN t s=z:=⟨_,rfl⟩
   simp only [hz] at H hB
   have HX:=zz3 ⟨hx,hB,hm⟩
   clear hx hB hm hz
   have hmz:((i:Int)+(j:Int)) / 2=(m:Int):=by have:=HX.out.2.2; omega
   go_upto_region 5 with (fail)
   clear hmz
   go_wp2_with fail
   refine (H.out _).mono ?_
   rintro e w2 ⟨rfl,hx2⟩
   have HX2:=zz (HX.out.1.trans hx2)
   clear hx2 H hc
   by_cases hz0:z<0
   ·go_wp2_with fail
    go_roundg g
    case measure=>omega
    case rel=>exact⟨m+1,j,g3,by omega,by omega,by omega,by omega,by go_num,rfl,by have:=HX.out.2.1; rwa [if_pos hz0] at this,HX2.out⟩
   ·go_wp2_with fail
    go_roundg g
    case measure=>omega
    case rel=>exact⟨i,m,g3,by omega,by omega,by omega,by omega,rfl,rfl,by have:=HX.out.2.1; rwa [if_neg (by omega)] at this,HX2.out⟩
  ·have hFi:F=i:=by rw [←hB,binF,if_neg hlt]
   subst hFi
   have hltz:¬ (F:Int)<(j:Int):=by omega
   have HX:=zz hx
   clear hB hx
   by_cases hFN:F<n
   ·obtain⟨b,o,rfl,hc⟩:=HC.out F hFN wr HX.out
    have H:=zz (fun W=>fcmp_walk (L.getD F ⟨#[]⟩) s W)
    have hFz:(F:Int)<(n:Int):=by omega
    have hQ:=HBO.out
    rw [decide_eq_true hFN,Bool.true_and] at hQ
    generalize L.getD F ⟨#[]⟩=t at *
    obtain⟨z,hz⟩:∃ z,cmpN t s=z:=⟨_,rfl⟩
    simp only [hz] at H hQ
    clear hz
    subst hQ
    go_wp2_with fail
    refine (H.out _).mono ?_
    rintro e w2 ⟨rfl,hx2⟩
    have HX2:=zz (HX.out.trans hx2)
    clear hx2 H hc
    go_wp2_with fail
    go_ret2
    refine⟨?_,HX2.out⟩
    by_cases q:z=0 <;> simp [q]
   ·have hQ:=HBO.out
    rw [decide_eq_false hFN,Bool.false_and] at hQ
    subst hQ
    have hFz:¬ (F:Int)<(n:Int):=by omega
    go_wp2_with fail
    go_ret2
    exact⟨rfl,HX.out⟩
theorem evens_len:∀ (L:List Int),2*(evensN L).length=L.length+L.length % 2
 | []=>rfl
 | [k]=>rfl
 | k::m::r=>by
  have:=evens_len r
  rw [evensN,List.length_cons,List.length_cons,List.length_cons]
  omega
theorem names_len {l:List Nd} (h:isN l 8=true):2*(namesN l).length=(ndAt l 0).kids.length:=by
 have:=evens_len (ndAt l 0).kids
 rw [root_even h] at this
 rw [namesN,h,if_pos rfl,List.length_map]
 omega
theorem root_len {l:List Nd} (hc:checkN l=0):(ndAt l 0).kids.length≤65536:=by
 obtain⟨h0,hn,E,D,hsh,-⟩:=check_zero hc
 obtain⟨-,-,-,-,hE⟩:=shape_some hsh
 have h9:=(hE 0 h0).2
 have e:kidsAt l 0=(ndAt l 0).kids:=by
  have:=ndAt_nat l 0 h0
  rw [show ((0:Nat):Int)=0 from rfl] at this
  rw [this,kidsAt,List.getElem?_eq_getElem h0]
 rw [e] at h9
 omega
theorem names_small (l:List Nd):(namesN l).length≤65536:=by
 cases h:isN l 8 with
 | false=>rw [namesN,h]; simp
 | true=>
  have h1:=names_len h
  have h2:=root_len (is_facts h).1
  omega
theorem find_walk (v:Value) (l:List Nd) (s:ByteArray) (w:World) (h:NodesAt w v l) (hl:Lt l) :
  Calls Tryz.prog 125 #[v,.string s] w fun e w'=>e=.returned (.tuple #[.int .i64 (findN (namesN l) s:Nat),.bool (foundN (namesN l) s)])∧Ext [] w w':=by
 have HN:=zz (names_walk v l w h hl)
 have hsm:=names_small l
 generalize namesN l=L at *
 have HB:=zz (fun (u:Value) (W:World) (hu:StrsAt W u L)=>bin_walk u L s W hu (by omega))
 obtain⟨base,cap,rfl,-,-⟩:=h
 obtain⟨F,hF⟩:∃ F,findN L s=F:=⟨_,rfl⟩
 obtain⟨Bo,hBo⟩:∃ Bo,foundN L s=Bo:=⟨_,rfl⟩
 simp only [hF,hBo] at HB ⊢
 clear hF hBo hsm
 go_enter Tryz.func125,Tryz.ntmps125
 go_wp2_with fail
 refine HN.out.mono ?_
 rintro e w1 ⟨v2,rfl,hx,hS⟩
 have HB2:=zz (HB.out v2 w1 hS)
 have HX:=zz hx
 clear hx hS HB HN
 go_wp2_with fail
 refine HB2.out.mono ?_
 rintro e w2 ⟨rfl,hx2⟩
 have HX2:=zz (HX.out.trans hx2)
 clear hx2 HB2 HX
 go_wp2_with fail
 go_ret2
 exact⟨rfl,HX2.out⟩
def getN (l:List Nd) (s:ByteArray):Option (List Nd):=if foundN (namesN l) s then some (subN l ((ndAt l 0).kids.getD (2*findN (namesN l) s+1) 0).toNat) else none
theorem get_walk (v:Value) (l:List Nd) (s:ByteArray) (w:World) (h:NodesAt w v l) (hl:Lt l) :
  Calls Tryz.prog 82 #[v,.string s] w fun e w'=>∃ v2,e=.returned (.tuple #[v2,.bool (getN l s).isSome])∧Ext [] w w'∧NodesAt w' v2 ((getN l s).getD []):=by
 have HF:=zz (find_walk v l s w h hl)
 cases hfo:foundN (namesN l) s with
 | false=>
  rw [hfo] at HF
  have hR:getN l s=none:=by rw [getN,hfo]; rfl
  rw [hR]
  obtain⟨base,cap,rfl,-,-⟩:=h
  obtain⟨F,hF⟩:∃ F,findN (namesN l) s=F:=⟨_,rfl⟩
  rw [hF] at HF
  clear hR hfo hF
  go_enter Tryz.func82,Tryz.ntmps82
  go_wp2_with fail
  refine HF.out.mono ?_
  rintro e w1 ⟨rfl,hx⟩
  have HX:=zz hx
  clear hx HF
  go_wp2_with fail
  go_ret2
  exact⟨_,rfl,HX.out,none,0,rfl,by simp,fun k hk=>by cases hk⟩
 | true=>
 rw [hfo] at HF
 obtain⟨F,hF⟩:∃ F,findN (namesN l) s=F:=⟨_,rfl⟩
 have hlt:F<(namesN l).length:=by
  have:=hfo
  rw [foundN,hF,Bool.and_eq_true] at this
  simpa using this.1
 have his:isN l 8=true:=by
  cases h8:isN l 8 with
  | true=>rfl
  | false=>rw [namesN,h8] at hlt; simp at hlt
 obtain⟨hc,-⟩:=is_facts his
 have hnl:=names_len his
 have hrl:=root_len hc
 have hrk:=root_kids hc
 obtain⟨h0,hn,E,D,hsh,-⟩:=check_zero hc
 have hkl:2*F+1<(ndAt l 0).kids.length:=by omega
 have hcb:=hrk (2*F+1) _ (List.getElem?_eq_getElem hkl)
 have hgd:(ndAt l 0).kids.getD (2*F+1) 0=(ndAt l 0).kids[2*F+1]'hkl:=by rw [List.getD_eq_getElem?_getD,List.getElem?_eq_getElem hkl]; rfl
 obtain⟨k,hk⟩:∃ k:Nat,(ndAt l 0).kids[2*F+1]'hkl=(k:Int):=⟨((ndAt l 0).kids[2*F+1]'hkl).toNat,by omega⟩
 have hR:getN l s=some (subN l k):=by rw [getN,hfo,if_pos rfl,hF,hgd,hk,Int.toNat_natCast]
 rw [hR]
 rw [hk] at hcb
 rw [hF] at HF
 have HSub:=zz (fun W (hx:Ext [] w W)=>sub_walk v l W (h.ext hx) k (by omega) hn (by rw [hsh]; simp))
 obtain⟨base,cap,rfl,-,hN⟩:=h
 obtain⟨b,o,rfl,hnd⟩:=node_in hN 0 h0
 rw [Nat.zero_mul,Nat.add_zero,show ((0:Nat):Int)=0 from rfl] at hnd
 obtain⟨-,-,-,-,-,rb,rc,r5,r6⟩:=hnd
 obtain⟨b5,o5,rfl,c5⟩:=r6 (2*F+1) hkl
 rw [hk] at c5
 obtain⟨K,hK⟩:∃ K,(ndAt l 0).kids.length=K:=⟨_,rfl⟩
 rw [hK] at r5 hkl hrl
 obtain⟨n,hln⟩:∃ n,l.length=n:=⟨_,rfl⟩
 rw [hln] at HF HSub h0 ⊢
 have h0z:(0:Int)<(n:Int):=by omega
 have hkz:2*(F:Int)+1<(K:Int):=by omega
 have HC:=zz2 ⟨r5,c5⟩
 clear hR hfo hF hlt his hc hnl hrk hn hsh hcb hgd hk hN r5 c5 r6 hK hln hl h0
 go_enter Tryz.func82,Tryz.ntmps82
 go_wp2_with fail
 refine HF.out.mono ?_
 rintro e w1 ⟨rfl,hx⟩
 have HX:=zz hx
 have HS2:=zz (HSub.out w1 hx)
 have r5:=hx.cell HC.out.1
 have c5:=hx.cell HC.out.2
 clear hx HF HSub HC
 go_wp2_with fail
 refine HS2.out.mono ?_
 rintro e w2 ⟨v2,rfl,hx2,hN2⟩
 have HX2:=zz2 ⟨HX.out.trans hx2,hN2⟩
 clear hx2 hN2 HS2 HX r5 c5
 go_wp2_with fail
 go_ret2
 exact⟨_,rfl,HX2.out.1,HX2.out.2⟩
def refsN (l:List Nd):List (Int×Int):=if checkN l=0 then (l.filter fun x=>decide (x.kind=9)).map fun x=>(x.n,x.gen) else []
def rfC (l:List (Int×Int)):List Value:=l.flatMap fun p=>[.int .i64 p.1,.int .i64 p.2]
theorem rfC_append (a b:List (Int×Int)):rfC (a++b)=rfC a++rfC b:=by unfold rfC; rw [List.flatMap_append]
theorem infoRef17:(Tryz.prog.info? 24).map (fun i=>(i.zero,i.size,i.bytes))=some (some (.agg #[.int .i64 0,.int .i64 0]),2,16):=by kernel_rfl
theorem rfC_at:∀ (l:List (Int×Int)) (i:Nat) (h:i<l.length),(rfC l)[i*2]? = some (.int .i64 (l[i]'h).1)∧(rfC l)[i*2+1]? = some (.int .i64 (l[i]'h).2)
 | [],i,h=>by simp at h
 | p::l,i,h=>by
  have e:rfC (p::l)=.int .i64 p.1::.int .i64 p.2::rfC l:=by simp [rfC]
  rw [e]
  cases i with
  | zero=>exact⟨rfl,rfl⟩
  | succ i=>
   rw [show (i+1)*2=i*2+2 by omega]
   exact rfC_at l i (by simpa using h)
theorem cells_two9 (w:World) (x y:Value) (t:TypeId) (f:Nat×Nat:=(0,0)):∀ j u,[x,y][j]? = some u→(w.alloc (.cells #[x,y] t f)).cell? ((⟨w.heap.size,0,none⟩:Addr).add j)=some u:=by
 intro j u h
 have e:(⟨w.heap.size,0,none⟩:Addr).add j=⟨w.heap.size,j,none⟩:=by unfold Addr.add; split <;> simp_all
 rw [e,cellOf (heap_alloc_at _),←h]
 simp
theorem one_ok {x:Nd} (hk:x.kids=[]) (h8:x.kind≠8) (hb:bareN x=true):checkN [x]=0:=by
 have hs:shapeN [x]=some ([1],[1]):=by
  obtain⟨a,b,c,d,e⟩:=x
  simp only at hk
  subst hk
  rfl
 unfold checkN
 rw [hs]
 have:[x].all (nodeOk [x])=true:=by simp [nodeOk,hb,h8]
 rw [this]
 rfl
theorem one_nodes {w:World} {g:Nat} {x:Nd} (h:w.heap[g]? = some (.cells #[.int .i64 x.kind,.int .i64 x.n,.int .i64 x.gen,.string x.s,.slice none 0 0] 41)) (hk:x.kids=[]) (hn : -9223372036854775808≤x.n∧x.n≤9223372036854775807) (hs:x.s.size≤9223372036854775807) :
  NodesAt w (.slice (some ⟨g,0,none⟩) 1 1) [x]:=
 ⟨_,1,rfl,Nat.le_refl _,fun i hi=>by
  obtain rfl:i=0:=by simpa using hi
  exact⟨g,0,rfl,cellOf h 0,cellOf h 1,cellOf h 2,cellOf h 3,⟨hn,hs,by show x.kids.length≤_; rw [hk]; exact Nat.zero_le _,fun k hk2=>by rw [show ([x][0]'hi).kids=[] from hk] at hk2; cases hk2⟩,none,0,by rw [show ([x][0]'hi).kids=[] from hk]; exact cellOf h 4,fun i hi2=>by rw [show ([x][0]'hi).kids=[] from hk] at hi2; cases hi2⟩⟩
end Tr
end Go.Proofs.YtljachhmdogkdaaGreatDoor
