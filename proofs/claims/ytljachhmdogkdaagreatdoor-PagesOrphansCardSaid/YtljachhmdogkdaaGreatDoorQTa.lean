/-
 Texts TtA, TtG, TtH, TtI, TtJ, TtK, TtL, TtM, TtN, TtB, TtD, as far as the statement needs them.
-/
import Derived.Test.YtljachhmdogkdaaGreatDoorQPkA
import Derived.Test.YtljachhmdogkdaaGreatDoorQPkV
import Derived.Test.YtljachhmdogkdaaGreatDoorQPkY
import Derived.Test.YtljachhmdogkdaaGreatDoorQPkZ
import Derived.Deep.Upon
import Derived.Deep.Strs
import Derived.Lib.AppendZeros
set_option maxRecDepth 100000
set_option maxHeartbeats 64000000
namespace Go.Proofs.YtljachhmdogkdaaGreatDoor
namespace Tr
open Go.RowKit
theorem ins2_walk (w0 w:World) (L:List Ob) (jj:Nat) (v:Value) (Pre M Post:List Et) (S:Sep w0 w L) (hj:L[jj]? = some (oEt v (Pre++(M++Post)))) (hl:(Pre++(M++Post)).length≤1000) (a b:Nat) (ha:Pre.length=a) (hb:a+M.length=b) :
  Calls Tryz.prog 156 #[v,.int .i64 a,.int .i64 b,.func (.func 102) #[] #[]] w fun e w'=>e=.returned (.tuple #[])∧Sep w0 w' (L.set jj (oEt v (Pre++(sortN M++Post)))):=by
 obtain⟨n,hn⟩:∃ n,(Pre++(M++Post)).length=n:=⟨_,rfl⟩
 obtain⟨R,hR⟩:∃ R,sortR [] M=R:=⟨_,rfl⟩
 have hRl:R.length=M.length:=by rw [←hR,sortR_len]; simp
 have hown:w.ownsRow 0 125 2 v (Pre++(M++Post)).length (etC (Pre++(M++Post))):=S.get jj hj
 obtain⟨ao,cap,rfl⟩:=row_slice hown
 have hjl:jj<L.length:=(List.getElem?_eq_some_iff.1 hj).1
 have hbn:b≤n:=by rw [←hn,List.length_append,List.length_append]; omega
 have HH:=zz7 ⟨S,hj,hn,hR,hRl,ha,hb⟩
 rw [hn] at hl ⊢
 rw [show sortN M=R.reverse by rw [sortN,hR]]
 clear S hj hR hRl hown
 by_cases h0:a=b
 ·have hM:M=[]:=List.length_eq_zero_iff.1 (by omega)
  subst h0
  clear ha hb hn
  have hf:¬ (a:Int)+1<(a:Int):=by omega
  go_enter Tryz.func156,Tryz.ntmps156
  go_wp2_with fail
  go_loopg [8,9] 0 (fun _ iv v9 wr=>iv=.int .i64 ((a:Int)+1)∧w=wr)
  case atStart=>exact⟨rfl,rfl⟩
  case round=>
  obtain⟨rfl,rfl⟩:=hrel
  go_wp2_with fail
  go_end0
  refine⟨rfl,?_⟩
  have hr:R=[]:=List.length_eq_zero_iff.1 (by rw [HH.out.2.2.2.2.1,hM]; rfl)
  have h1:=HH.out.2.1
  rw [HH.out.2.2.1] at h1
  rw [hr]
  subst hM
  show Sep w0 w (L.set jj (oEt (.slice ao n cap) (Pre++([]++Post))))
  rw [show L.set jj (oEt (Value.slice ao n cap) (Pre++([]++Post)))=L from by obtain⟨q,q2⟩:=List.getElem?_eq_some_iff.1 h1; rw [←q2]; exact List.set_getElem_self q]
  exact HH.out.1
 obtain⟨g,cap,he⟩:=row_form (HH.out.1.get jj HH.out.2.1:w.ownsRow 0 125 2 (.slice ao (Pre++(M++Post)).length cap) (Pre++(M++Post)).length (etC (Pre++(M++Post)))) (by rw [HH.out.2.2.1]; omega)
 cases he
 obtain _ | ⟨x0,M⟩:=M
 ·exact absurd (by simpa using hb) h0
 have hab:a<b:=by rw [List.length_cons] at hb; omega
 clear ha hb hn h0
 have haz:(a:Int)<(b:Int):=by omega
 go_enter Tryz.func156,Tryz.ntmps156
 go_wp2_with fail
 go_loopg [8,9] (b - a) (fun gg iv v9 wr=>∃ (i:Nat) (A rest:List Et),gg+i=b+1∧iv=.int .i64 i∧a+A.length=i∧a+1≤i∧i+rest.length=b∧sortR A rest=R∧(Pre++(A.reverse++(rest++Post))).length=n∧Sep w0 wr (L.set jj (oEt (.slice (some ⟨g,0,none⟩) n cap) (Pre++(A.reverse++(rest++Post))))))
 case atStart=>
  have hb9:=HH.out.2.2.2.2.2.2
  rw [List.length_cons] at hb9
  refine⟨a+1,[x0],M,by omega,by go_num,rfl,by omega,by omega,HH.out.2.2.2.1,HH.out.2.2.1,?_⟩
  rw [show Pre++([x0].reverse++(M++Post))=Pre++(x0::M++Post) from rfl,←HH.out.2.2.1,set_self HH.out.2.1]
  exact HH.out.1
 case round=>
  obtain⟨i,A,rest,hgi,rfl,hA,h1,hib,hR,hlen,S⟩:=hrel
  by_cases hlt:i<b
  ·obtain⟨gg,rfl⟩:∃ gg,gk=gg+1:=⟨gk - 1,by omega⟩
   have hltz:(i:Int)<(b:Int):=by omega
   obtain _ | ⟨x,rest⟩:=rest
   ·rw [List.length_nil] at hib; omega
   rw [List.length_cons] at hib
   rw [sortR] at hR
   obtain⟨B,hB⟩:∃ B,insR x A=B:=⟨_,rfl⟩
   rw [hB] at hR
   have HS:=zz6 ⟨S,hR,hlen,hA,hB,hib⟩
   clear S hR hlen hA hB hib
   go_wp2_with fail
   go_loopg [9] (i - a) (fun g2 jv wx=>∃ (A1 Q:List Et),g2=A1.length∧jv=.int .i64 ((a+A1.length:Nat):Int)∧a+A1.length≤i∧Q.reverse++insR x A1=B∧(Pre++(A1.reverse++x::(Q++(rest++Post)))).length=n∧Sep w0 wx (L.set jj (oEt (.slice (some ⟨g,0,none⟩) n cap) (Pre++(A1.reverse++x::(Q++(rest++Post)))))))
   case atStart=>exact⟨A,[],by have:=HS.out.2.2.2.1; omega,by rw [HS.out.2.2.2.1],by rw [HS.out.2.2.2.1]; omega,HS.out.2.2.2.2.1,HS.out.2.2.1,HS.out.1⟩
   case round=>
    obtain⟨A1,Q,rfl,rfl,hA1,hQ,hlen,S⟩:=hrel
    obtain _ | ⟨y,A1⟩:=A1
    ·have HX:=zz3 ⟨hQ,S,hlen⟩
     clear hQ S hlen
     rw [show a+([]:List Et).length=a from rfl]
     have hjf:decide ((a:Int)<(a:Int))=false:=decide_eq_false (by omega)
     go_upto_region 4 with (fail)
     go_quiet (fail)
     go_wp2_with fail
     go_roundg gg
     case measure=>omega
     case rel=>
      obtain⟨hQ,S,hlen⟩:=HX.out
      have hBr:B.reverse=x::Q:=by rw [←hQ]; simp [insR]
      refine⟨i+1,B,rest,by omega,by go_num,by rw [←HS.out.2.2.2.2.1,insR_len]; have:=HS.out.2.2.2.1; omega,by omega,by have:=HS.out.2.2.2.2.2; omega,HS.out.2.1,by rw [hBr]; exact hlen,?_⟩
      rw [hBr]
      exact S.quiet ((Ext.refl [] wr).drewN _)
    ·obtain⟨m,hm⟩:∃ m,a+A1.length=m:=⟨_,rfl⟩
     have hown:wr.ownsRow 0 125 2 (.slice (some ⟨g,0,none⟩) n cap) n (etC ((Pre++A1.reverse)++y::x::(Q++(rest++Post)))):=by
      have h1:=S.get jj (List.getElem?_set_self hjl)
      have h2:wr.ownsRow 0 125 2 (.slice (some ⟨g,0,none⟩) n cap) (Pre++((y::A1).reverse++x::(Q++(rest++Post)))).length (etC (Pre++((y::A1).reverse++x::(Q++(rest++Post))))):=h1
      rw [hlen,List.reverse_cons,List.append_assoc,←List.append_assoc Pre] at h2
      exact h2
     obtain⟨y1,y2,y3,y4⟩:=et_cells hown m (by rw [List.length_append,List.length_reverse,HH.out.2.2.2.2.2.1,hm])
     have hown2:=hown
     rw [show (Pre++A1.reverse)++y::x::(Q++(rest++Post))=(Pre++A1.reverse++[y])++x::(Q++(rest++Post)) by simp] at hown2
     obtain⟨x1,x2,x3,x4⟩:=et_cells hown2 (m+1) (by rw [List.length_append,List.length_append,List.length_reverse,HH.out.2.2.2.2.2.1,hm]; rfl)
     have hjl2:a+(y::A1).length=m+1:=by rw [List.length_cons]; omega
     rw [hjl2]
     have hm9:m+1<n:=by rw [←hlen]; have:=HH.out.2.2.2.2.2.1; simp; omega
     have ham:a≤m:=by omega
     have HX:=zz6 ⟨hQ,S,hlen,hown,hm,hA1⟩
     clear hQ S hlen hown hown2 hm hA1 hjl2
     have hjd:decide ((a:Int)<(m:Int)+1)=true:=decide_eq_true (by omega)
     have hmz:(m:Int)<(n:Int):=by omega
     have hmz2:(m:Int)+1<(n:Int):=by omega
     have c1:∀ V:Ex wr,V.w.cell? ⟨g,m*2,none⟩=some (.string y.1):=fun V=>V.cell y1
     have c2:∀ V:Ex wr,V.w.cell? ⟨g,m*2+1,none⟩=some (.slice y.2.1 y.2.2.1 y.2.2.2):=fun V=>V.cell y2
     have c3:∀ V:Ex wr,V.w.cell? ⟨g,(m+1)*2,none⟩=some (.string x.1):=fun V=>V.cell x1
     have c4:∀ V:Ex wr,V.w.cell? ⟨g,(m+1)*2+1,none⟩=some (.slice x.2.1 x.2.2.1 x.2.2.2):=fun V=>V.cell x2
     have HC:=zz8 ⟨y1,y2,y3,y4,x1,x2,x3,x4⟩
     clear y1 y2 y3 y4 x1 x2 x3 x4
     go_upto_region 4 with (fail)
     refine wp_region_ext (by kernel_rfl) (by kernel_rfl) ?_
     repeat (go_big_quiet_step (first | (go_at_call 102; refine Calls.ext_of (cmp_walk _ _ _ _ _))))
     refine wpQuiet_nil ?_
     rintro _ ⟨V,rfl⟩
     obtain⟨z,hz⟩:∃ z,cmpN x.1 y.1=z:=⟨_,rfl⟩
     have hQ:=HX.out.1
     rw [insR,hz] at hQ
     rw [hz]
     have V2:=V.ext
     clear c1 c2 c3 c4 hz
     obtain⟨y1,y2,y3,y4,x1,x2,x3,x4⟩:=HC.out
     have y3:=V.free y1 y3
     have y4:=V.free y2 y4
     have x3:=V.free x1 x3
     have x4:=V.free x2 x4
     have y1:=V.cell y1
     have y2:=V.cell y2
     have x1:=V.cell x1
     have x2:=V.cell x2
     generalize V.w=U at *
     by_cases h0z:z<0
     ·rw [if_pos h0z] at hQ
      have HQ:=zz2 ⟨hQ,V2⟩
      clear hQ V2 HC
      go_upto_region 6 with (fail)
      go_region
      go_wp2_with fail
      go_roundg A1.length
      case measure=>simp
      case rel=>
       obtain⟨hQ,hV⟩:=HQ.out
       have hU:=ownsRow_ext HX.out.2.2.2.1 hV (by simp)
       have hsw:=et_swap hU m (by rw [List.length_append,List.length_reverse,HH.out.2.2.2.2.2.1,HX.out.2.2.2.2.1])
       have hlen2:(Pre++(A1.reverse++x::y::(Q++(rest++Post)))).length=n:=by
        have:=HX.out.2.2.1
        simp only [List.length_append,List.length_reverse,List.length_cons] at this ⊢
        omega
       have S2:=(HX.out.2.1.quiet hV).upd jj (oEt (.slice (some ⟨g,0,none⟩) n cap) (Pre++(A1.reverse++x::y::(Q++(rest++Post))))) (List.getElem?_set_self hjl) (((((Ext.refl _ U).setCell ⟨g,(m+1)*2,none⟩ (.string y.1) (.inl (by simp [oEt,oSl,Value.ownBlock]))).setCell ⟨g,(m+1)*2+1,none⟩ (.slice y.2.1 y.2.2.1 y.2.2.2) (.inl (by simp [oEt,oSl,Value.ownBlock]))).setCell ⟨g,m*2,none⟩ (.string x.1) (.inl (by simp [oEt,oSl,Value.ownBlock]))).setCell ⟨g,m*2+1,none⟩ (.slice x.2.1 x.2.2.1 x.2.2.2) (.inl (by simp [oEt,oSl,Value.ownBlock]))) (Fr.refl _ _) (by
        show World.ownsRow _ 0 125 2 _ (Pre++(A1.reverse++x::y::(Q++(rest++Post)))).length _
        rw [hlen2,←List.append_assoc]
        exact hsw)
       rw [List.set_set] at S2
       refine⟨A1,y::Q,rfl,?_,?_,?_,hlen2,S2.quiet ((Ext.refl _ _).drew)⟩
       ·rw [HX.out.2.2.2.2.1]
       ·have:=HX.out.2.2.2.2.2; simp only [List.length_cons] at this; omega
       ·rw [←hQ]; simp
     ·rw [if_neg h0z] at hQ
      have HQ:=zz2 ⟨hQ,V2⟩
      clear hQ V2 HC y1 y2 y3 y4 x1 x2 x3 x4
      go_wp2_with fail
      go_roundg gg
      case measure=>omega
      case rel=>
       obtain⟨hQ,hV⟩:=HQ.out
       have hBr:B.reverse=(y::A1).reverse++x::Q:=by rw [←hQ]; simp
       refine⟨i+1,B,rest,by omega,by go_num,by rw [←HS.out.2.2.2.2.1,insR_len]; have:=HS.out.2.2.2.1; omega,by omega,by have:=HS.out.2.2.2.2.2; omega,HS.out.2.1,?_,?_⟩
       ·rw [hBr,List.append_assoc]; exact HX.out.2.2.1
       ·rw [hBr,List.append_assoc]; exact HX.out.2.1.quiet hV
  ·obtain rfl:i=b:=by omega
   have hr0:rest=[]:=List.length_eq_zero_iff.1 (by omega)
   subst hr0
   rw [sortR] at hR
   subst hR
   rw [List.nil_append] at S
   have HS:=zz S
   clear S hlen hA h1
   go_wp2_with fail
   go_end0
   exact⟨rfl,HS.out⟩
theorem set2:∀ (A T:List Value) (a b a' b' : Value),((A++a::b::T).set A.length a').set (A.length+1) b' = A++a' :: b' :: T
 | [],_,_,_,_,_=>rfl
 | z::A,T,a,b,a',b'=>by
  have:=set2 A T a b a' b'
  rw [List.cons_append,List.length_cons,List.set_cons_succ,List.set_cons_succ,this]
  rfl
theorem et_put {w:World} {g n cap:Nat} {P Q:List Et} {x y:Et} (h:w.ownsRow 0 125 2 (.slice (some ⟨g,0,none⟩) n cap) n (etC (P++x::Q))) (m:Nat) (hm:P.length=m) :
  ((w.setCell ⟨g,m*2,none⟩ (.string y.1)).setCell ⟨g,m*2+1,none⟩ (.slice y.2.1 y.2.2.1 y.2.2.2)).ownsRow 0 125 2 (.slice (some ⟨g,0,none⟩) n cap) n (etC (P++y::Q)):=by
 subst hm
 have h2:=row_put (row_put (i:=P.length*2) h (.string y.1)) (i:=P.length*2+1) (.slice y.2.1 y.2.2.1 y.2.2.2)
 rw [etC_append,etC_cons,←etC_len P,set2] at h2
 rw [etC_append,etC_cons,←etC_len P]
 exact h2
theorem swapR_walk (w0 w:World) (L:List Ob) (jj:Nat) (v:Value) (P X M Y Q:List Et) (S:Sep w0 w L) (hj:L[jj]? = some (oEt v (P++(X++(M++(Y++Q)))))) (hl:(P++(X++(M++(Y++Q)))).length≤1000) (a b k:Nat) (ha:P.length=a) (hX:X.length=k) (hb:a+k+M.length=b) (hY:Y.length=k) :
  Calls Tryz.prog 185 #[v,.int .i64 a,.int .i64 b,.int .i64 k,.func (.func 102) #[] #[]] w fun e w'=>e=.returned (.tuple #[])∧Sep w0 w' (L.set jj (oEt v (P++(Y++(M++(X++Q)))))):=by
 obtain⟨n,hn⟩:∃ n,(P++(X++(M++(Y++Q)))).length=n:=⟨_,rfl⟩
 have hown:w.ownsRow 0 125 2 v (P++(X++(M++(Y++Q)))).length (etC (P++(X++(M++(Y++Q))))):=S.get jj hj
 obtain⟨ao,cap,rfl⟩:=row_slice hown
 have hjl:jj<L.length:=(List.getElem?_eq_some_iff.1 hj).1
 have hbn:b+k≤n:=by rw [←hn]; simp only [List.length_append]; omega
 have hL9:L.set jj (oEt (.slice ao n cap) (P++(X++(M++(Y++Q)))))=L:=by rw [←hn]; exact set_self hj
 have HH:=zz7 ⟨S,hn,ha,hX,hb,hY,hL9⟩
 rw [hn] at hl ⊢
 clear S hj hown hn hL9
 go_enter Tryz.func185,Tryz.ntmps185
 go_wp2_with fail
 go_loopg [10] k (fun gg iv wr=>∃ (i:Nat) (X1 X2 Y1 Y2:List Et),gg+i=k∧iv=.int .i64 i∧X=X1++X2∧Y=Y1++Y2∧X1.length=i∧Y1.length=i∧Sep w0 wr (L.set jj (oEt (.slice ao n cap) (P++((Y1++X2)++(M++((X1++Y2)++Q)))))))
 case atStart=>
  refine⟨0,[],X,[],Y,by omega,rfl,rfl,rfl,rfl,rfl,?_⟩
  rw [List.nil_append,List.nil_append,HH.out.2.2.2.2.2.2]
  exact HH.out.1
 case round=>
  obtain⟨i,X1,X2,Y1,Y2,hgi,rfl,hX2,hY2,hX1,hY1,S⟩:=hrel
  have hXl:X1.length+X2.length=k:=by rw [←List.length_append,←hX2]; exact HH.out.2.2.2.1
  have hYl:Y1.length+Y2.length=k:=by rw [←List.length_append,←hY2]; exact HH.out.2.2.2.2.2.1
  by_cases hlt:i<k
  ·obtain⟨gg,rfl⟩:∃ gg,gk=gg+1:=⟨gk - 1,by omega⟩
   have hltz:(i:Int)<(k:Int):=by omega
   obtain _ | ⟨x,X2⟩:=X2
   ·rw [List.length_nil] at hXl; omega
   obtain _ | ⟨y,Y2⟩:=Y2
   ·rw [List.length_nil] at hYl; omega
   have hlen:(P++((Y1++x::X2)++(M++((X1++y::Y2)++Q)))).length=n:=by
    have h1:=HH.out.2.1
    rw [hX2,hY2] at h1
    simp only [List.length_append,List.length_cons] at h1 ⊢
    omega
   have hown:wr.ownsRow 0 125 2 (.slice ao n cap) n (etC (P++((Y1++x::X2)++(M++((X1++y::Y2)++Q))))):=by
    have h1:wr.ownsRow 0 125 2 (.slice ao n cap) (P++((Y1++x::X2)++(M++((X1++y::Y2)++Q)))).length (etC (P++((Y1++x::X2)++(M++((X1++y::Y2)++Q))))):=S.get jj (List.getElem?_set_self hjl)
    rw [hlen] at h1
    exact h1
   obtain⟨g,c2,he⟩:=row_form hown (by omega)
   cases he
   have e1:P++((Y1++x::X2)++(M++((X1++y::Y2)++Q)))=(P++Y1)++x::(X2++(M++((X1++y::Y2)++Q))):=by simp
   have e2:P++((Y1++x::X2)++(M++((X1++y::Y2)++Q)))=(P++(Y1++x::X2)++M++X1)++y::(Y2++Q):=by simp
   have l1:(P++Y1).length=a+i:=by rw [List.length_append,HH.out.2.2.1,hY1]
   have l2:(P++(Y1++x::X2)++M++X1).length=b+i:=by
    simp only [List.length_append,List.length_cons] at hXl ⊢
    have:=HH.out.2.2.1
    have:=HH.out.2.2.2.2.1
    omega
   obtain⟨x1,x2,x3,x4⟩:=et_cells (e1 ▸ hown) (a+i) l1
   obtain⟨y1,y2,y3,y4⟩:=et_cells (e2 ▸ hown) (b+i) l2
   have hq1:=et_put (y:=y) (e1 ▸ hown) (a+i) l1
   have e3:(P++Y1)++y::(X2++(M++((X1++y::Y2)++Q)))=(P++(Y1++y::X2)++M++X1)++y::(Y2++Q):=by simp
   have l3:(P++(Y1++y::X2)++M++X1).length=b+i:=by rw [←l2]; simp
   have hq2:=et_put (y:=x) (e3 ▸ hq1) (b+i) l3
   have e4:(P++(Y1++y::X2)++M++X1)++x::(Y2++Q)=P++(((Y1++[y])++X2)++(M++(((X1++[x])++Y2)++Q))):=by simp
   have hlen2:(P++(((Y1++[y])++X2)++(M++(((X1++[x])++Y2)++Q)))).length=n:=by
    rw [←hlen]
    simp only [List.length_append,List.length_cons,List.length_nil]
    omega
   have S2:=S.upd jj (oEt (.slice (some ⟨g,0,none⟩) n cap) (P++(((Y1++[y])++X2)++(M++(((X1++[x])++Y2)++Q))))) (List.getElem?_set_self hjl) (((((Ext.refl _ wr).setCell ⟨g,(a+i)*2,none⟩ (.string y.1) (.inl (by simp [oEt,oSl,Value.ownBlock]))).setCell ⟨g,(a+i)*2+1,none⟩ (.slice y.2.1 y.2.2.1 y.2.2.2) (.inl (by simp [oEt,oSl,Value.ownBlock]))).setCell ⟨g,(b+i)*2,none⟩ (.string x.1) (.inl (by simp [oEt,oSl,Value.ownBlock]))).setCell ⟨g,(b+i)*2+1,none⟩ (.slice x.2.1 x.2.2.1 x.2.2.2) (.inl (by simp [oEt,oSl,Value.ownBlock]))) (Fr.refl _ _) (by
    show World.ownsRow _ 0 125 2 _ (P++(((Y1++[y])++X2)++(M++(((X1++[x])++Y2)++Q)))).length _
    rw [hlen2,←e4]
    exact hq2)
   rw [List.set_set] at S2
   have HS:=zz5 ⟨S2,hX2,hY2,hX1,hY1⟩
   have hne:¬ (b+i)*2=(a+i)*2:=by omega
   have hai:(a:Int)+(i:Int)<(n:Int):=by omega
   have hbi:(b:Int)+(i:Int)<(n:Int):=by omega
   clear S S2 hX2 hY2 hX1 hY1 hown e1 e2 e3 e4 l1 l2 l3 hq1 hq2 hlen hlen2 hXl hYl
   go_upto_region 3 with (fail)
   go_region
   go_wp2_with fail
   go_roundg gg
   case measure=>omega
   case rel=>
    exact⟨i+1,X1++[x],X2,Y1++[y],Y2,by omega,by go_num,by rw [HS.out.2.1]; simp,by rw [HS.out.2.2.1]; simp,by rw [List.length_append,HS.out.2.2.2.1]; rfl,by rw [List.length_append,HS.out.2.2.2.2]; rfl,HS.out.1.quiet ((Ext.refl _ _).drew)⟩
  ·obtain rfl:gk=0:=by omega
   obtain rfl:X2=[]:=List.length_eq_zero_iff.1 (by omega)
   obtain rfl:Y2=[]:=List.length_eq_zero_iff.1 (by omega)
   rw [List.append_nil] at hX2 hY2
   rw [List.append_nil,List.append_nil,←hX2,←hY2] at S
   have HS:=zz S
   clear S hX2 hY2 hX1 hY1 hXl hYl
   go_wp2_with fail
   go_end0
   exact⟨rfl,HS.out⟩
theorem rot_walk (w0 w:World) (L:List Ob) (jj:Nat) (v:Value) (P X Y Q:List Et) (S:Sep w0 w L) (hj:L[jj]? = some (oEt v (P++(X++(Y++Q))))) (hl:(P++(X++(Y++Q))).length≤1000) (a m b:Nat) (ha:P.length=a) (hm:a+X.length=m) (hb:m+Y.length=b) (hX0:0<X.length) (hY0:0<Y.length) :
  Calls Tryz.prog 176 #[v,.int .i64 a,.int .i64 m,.int .i64 b,.func (.func 102) #[] #[]] w fun e w'=>e=.returned (.tuple #[])∧Sep w0 w' (L.set jj (oEt v (P++(Y++(X++Q))))):=by
 obtain⟨n,hn⟩:∃ n,(P++(X++(Y++Q))).length=n:=⟨_,rfl⟩
 obtain⟨F,hF⟩:∃ F,P++(Y++(X++Q))=F:=⟨_,rfl⟩
 have hown:w.ownsRow 0 125 2 v (P++(X++(Y++Q))).length (etC (P++(X++(Y++Q)))):=S.get jj hj
 obtain⟨ao,cap,rfl⟩:=row_slice hown
 have hjl:jj<L.length:=(List.getElem?_eq_some_iff.1 hj).1
 have hbn:b≤n:=by rw [←hn]; simp only [List.length_append]; omega
 have hL9:L.set jj (oEt (.slice ao n cap) (P++(X++(Y++Q))))=L:=by rw [←hn]; exact set_self hj
 obtain⟨i0,hi0⟩:∃ i0,X.length=i0:=⟨_,rfl⟩
 obtain⟨j0,hj0⟩:∃ j0,Y.length=j0:=⟨_,rfl⟩
 have HH:=zz7 ⟨S,hn,ha,hi0,hj0,hL9,hF⟩
 rw [hn] at hl ⊢
 rw [hF]
 rw [hi0] at hm hX0
 rw [hj0] at hb hY0
 have hmi:(m:Int) - (a:Int)=(i0:Int):=by omega
 have hbj:(b:Int) - (m:Int)=(j0:Int):=by omega
 clear S hj hown hn hL9 hF hi0 hj0
 go_enter Tryz.func176,Tryz.ntmps176
 go_wp2_with fail
 clear hmi hbj
 go_loopg [10,11] (i0+j0) (fun gg iv jv wr=>∃ (i j:Nat) (P' X' Y' Q' : List Et),gg=i+j∧iv=.int .i64 i∧jv=.int .i64 j∧0<i∧0<j∧X'.length=i∧Y'.length=j∧P'.length+i=m∧P' ++ (Y' ++ (X' ++ Q'))=F∧(P' ++ (X' ++ (Y' ++ Q'))).length=n∧Sep w0 wr (L.set jj (oEt (.slice ao n cap) (P' ++ (X' ++ (Y' ++ Q'))))))
 case atStart=>
  refine⟨i0,j0,P,X,Y,Q,rfl,rfl,rfl,hX0,hY0,HH.out.2.2.2.1,HH.out.2.2.2.2.1,by rw [HH.out.2.2.1]; exact hm,HH.out.2.2.2.2.2.2,HH.out.2.1,?_⟩
  rw [HH.out.2.2.2.2.2.1]
  exact HH.out.1
 case round=>
  obtain⟨i,j,P',X',Y',Q',rfl,rfl,rfl,hi,hj,hX,hY,hP,hF,hlen,S⟩:=hrel
  obtain⟨p,hp⟩:∃ p,P'.length=p:=⟨_,rfl⟩
  rw [hp] at hP
  have hmi:(m:Int) - (i:Int)=(p:Int):=by omega
  have hset:=List.getElem?_set_self (a:=oEt (Value.slice ao n cap) (P' ++ (X' ++ (Y' ++ Q')))) hjl
  have hmn:m+j≤n:=by rw [←hlen]; simp only [List.length_append]; omega
  by_cases hij:i=j
  ·subst hij
   have hb:((i:Int) != (i:Int))=false:=bne_self_eq_false _
   have HW:=zz (swapR_walk w0 wr _ jj (.slice ao n cap) P' X' [] Y' Q' S hset (by rw [List.nil_append,hlen]; exact hl) p m i hp hX (by simpa using hP) hY)
   rw [List.nil_append,hF] at HW
   clear S hset hX hY hF hlen hp
   go_wp2_with fail
   refine HW.out.mono ?_
   rintro e w2 ⟨rfl,S⟩
   rw [List.set_set] at S
   have HS:=zz S
   clear S HW
   go_wp2_with fail
   go_end0
   exact⟨rfl,HS.out⟩
  ·have hb:((i:Int) != (j:Int))=true:=bne_iff_ne.2 (by omega)
   by_cases hgt:j<i
   ·have hgtz:(j:Int)<(i:Int):=by omega
    obtain⟨X1,X2,rfl,hX1⟩:∃ X1 X2,X' = X1++X2∧X1.length=j:=⟨X'.take j,X'.drop j,by rw [List.take_append_drop],by rw [List.length_take]; omega⟩
    obtain⟨r,hr⟩:∃ r,X2.length=r:=⟨_,rfl⟩
    rw [List.length_append,hX1,hr] at hX
    have hassoc:P' ++ ((X1++X2)++(Y' ++ Q'))=P' ++ (X1++(X2++(Y' ++ Q'))):=by simp
    rw [hassoc] at hset hlen S
    have HW:=zz (swapR_walk w0 wr _ jj (.slice ao n cap) P' X1 X2 Y' Q' S hset (by rw [hlen]; exact hl) p m j hp hX1 (by omega) hY)
    have hir:(i:Int) - (j:Int)=(r:Int):=by omega
    have HX:=zz6 ⟨hX1,hr,hY,hp,hF,hlen⟩
    clear S hset hX1 hY hF hlen hp hassoc hr
    go_wp2_with fail
    refine HW.out.mono ?_
    rintro e w2 ⟨rfl,S⟩
    rw [List.set_set] at S
    have HS:=zz S
    clear S HW
    go_wp2_with fail
    go_roundg (r+j)
    case measure=>omega
    case rel=>
     obtain⟨hX1,hr,hY,hp,hF,hlen⟩:=HX.out
     have e1:(P' ++ Y')++(X2++(X1++Q'))=P' ++ (Y' ++ (X2++(X1++Q'))):=by simp
     refine⟨r,j,P' ++ Y',X2,X1,Q',rfl,rfl,rfl,by omega,hj,hr,hX1,by rw [List.length_append,hp,hY]; omega,by rw [←hF]; simp,?_,by rw [e1]; exact HS.out⟩
     rw [←hlen]
     simp only [List.length_append]
     omega
   ·have hgtz:¬ (j:Int)<(i:Int):=by omega
    obtain⟨Y1,Y2,rfl,hY2⟩:∃ Y1 Y2,Y' = Y1++Y2∧Y2.length=i:=⟨Y'.take (j - i),Y'.drop (j - i),by rw [List.take_append_drop],by rw [List.length_drop]; omega⟩
    obtain⟨r,hr⟩:∃ r,Y1.length=r:=⟨_,rfl⟩
    rw [List.length_append,hY2,hr] at hY
    have hassoc:P' ++ (X' ++ ((Y1++Y2)++Q'))=P' ++ (X' ++ (Y1++(Y2++Q'))):=by simp
    rw [hassoc] at hset hlen S
    obtain⟨q,hq⟩:∃ q,p+i+Y1.length=q:=⟨_,rfl⟩
    have HW:=zz (swapR_walk w0 wr _ jj (.slice ao n cap) P' X' Y1 Y2 Q' S hset (by rw [hlen]; exact hl) p q i hp hX hq hY2)
    have hqz:(m:Int)+(j:Int) - (i:Int)=(q:Int):=by omega
    have hir:(j:Int) - (i:Int)=(r:Int):=by omega
    have HX:=zz6 ⟨hX,hr,hY2,hp,hF,hlen⟩
    clear S hset hX hY2 hF hlen hp hassoc hr hq
    go_wp2_with fail
    refine HW.out.mono ?_
    rintro e w2 ⟨rfl,S⟩
    rw [List.set_set] at S
    have HS:=zz S
    clear S HW
    go_wp2_with fail
    go_roundg (i+r)
    case measure=>omega
    case rel=>
     obtain⟨hX,hr,hY2,hp,hF,hlen⟩:=HX.out
     refine⟨i,r,P',Y2,Y1,X' ++ Q',rfl,rfl,rfl,hi,by omega,hY2,hr,by rw [hp]; exact hP,by rw [←hF]; simp,?_,HS.out⟩
     rw [←hlen]
     simp only [List.length_append]
     omega
abbrev upE (X:List Et):Prop:=X.Pairwise (fun a b=>ltB a.1 b.1)
abbrev ndE (X:List Et):Prop:=(X.map (·.1)).Nodup
theorem sortN_strict {l:List Et} (h:ndE l):upE (sortN l):=by rw [sortN_G]; exact sort_strict _ h
theorem sortN_perm (l:List Et):(sortN l).Perm l:=by rw [sortN_G]; exact sortG_perm _ l
theorem sym_eq {l Z:List Et} (hd:ndE l) (hz:upE Z) (hp:Z.Perm l):sortN l=Z:=
 strict_eq (fun p:Et=>p.1) (sortN_strict hd) hz ((sortN_perm l).trans hp.symm)
theorem ndE_perm {l m:List Et} (h:l.Perm m) (hd:ndE l):ndE m:=((h.map (·.1)).nodup_iff).1 hd
theorem ndE_sub {l m:List Et} (h:l.Sublist m) (hd:ndE m):ndE l:=(h.map (·.1)).nodup hd
theorem less_of {x y:Et} (h:¬ ltB y.1 x.1) (hne:x.1≠y.1):ltB x.1 y.1:=by
 rcases ltB_tri x.1 y.1 with q | q | q
 ·exact q
 ·exact absurd q hne
 ·exact absurd q h
theorem take_less {Y:List Et} (hY:upE Y) {c:Nat} {s:ByteArray} (h:c=0∨∃ z,Y[c - 1]? = some z∧ltB z.1 s):∀ p∈Y.take c,ltB p.1 s:=fun p hp=>by
 obtain⟨k,hk⟩:=List.getElem?_of_mem hp
 rw [List.getElem?_take] at hk
 split at hk
 ·rename_i hkc
  rcases h with h | ⟨z,hz,hl⟩
  ·omega
  ·rcases Nat.lt_or_ge k (c - 1) with q | q
   ·obtain⟨h1,h2⟩:=List.getElem?_eq_some_iff.1 hk
    obtain⟨h3,h4⟩:=List.getElem?_eq_some_iff.1 hz
    have:=List.pairwise_iff_getElem.1 hY k (c - 1) h1 h3 q
    rw [h2,h4] at this
    exact ltB_trans this hl
   ·obtain rfl:k=c - 1:=by omega
    rw [hz] at hk
    injection hk with hk
    rw [←hk]
    exact hl
 ·cases hk
theorem drop_less {Y:List Et} (hY:upE Y) {c:Nat} {s:ByteArray} (h:c=Y.length∨∃ z,Y[c]? = some z∧ltB s z.1):∀ p∈Y.drop c,ltB s p.1:=fun p hp=>by
 obtain⟨k,hk⟩:=List.getElem?_of_mem hp
 rw [List.getElem?_drop] at hk
 obtain⟨h1,h2⟩:=List.getElem?_eq_some_iff.1 hk
 rcases h with h | ⟨z,hz,hl⟩
 ·omega
 ·rcases Nat.lt_or_ge 0 k with q | q
  ·obtain⟨h3,h4⟩:=List.getElem?_eq_some_iff.1 hz
   have:=List.pairwise_iff_getElem.1 hY c (c+k) h3 h1 (by omega)
   rw [h2,h4] at this
   exact ltB_trans hl this
  ·obtain rfl:k=0:=by omega
   rw [Nat.add_zero,hz] at hk
   injection hk with hk
   rw [←hk]
   exact hl
theorem take_drop_less {X:List Et} (hX:upE X) (c:Nat):∀ p∈X.take c,∀ q∈X.drop c,ltB p.1 q.1:=by
 have h:(X.take c++X.drop c).Pairwise (fun a b=>ltB a.1 b.1):=by rw [List.take_append_drop]; exact hX
 exact (List.pairwise_append.1 h).2.2
theorem put_mid {Y:List Et} {x:Et} {c:Nat} (hY:upE Y) (h1:∀ p∈Y.take c,ltB p.1 x.1) (h2:∀ p∈Y.drop c,ltB x.1 p.1):upE (Y.take c++x::Y.drop c):=by
 rw [upE,List.pairwise_append,List.pairwise_cons]
 refine⟨hY.sublist (List.take_sublist _ _),⟨h2,hY.sublist (List.drop_sublist _ _)⟩,fun p hp q hq=>?_⟩
 rcases List.mem_cons.1 hq with rfl | hq
 ·exact h1 p hp
 ·exact take_drop_less hY c p hp q hq
theorem ltB_of_le {X:List Et} (hX:upE X) {c:Nat} {x p:Et} {s:ByteArray} (h1:X[c - 1]? = some x) (hp:p∈X.take c) (h:ltB x.1 s):ltB p.1 s:=take_less hX (.inr ⟨x,h1,h⟩) p hp
theorem sym_split {X Y:List Et} (hX:upE X) (hY:upE Y) (hd:ndE (X++Y)) {c d:Nat}
  (hA:(c=0∨d=Y.length)∨∃ x y,X[c - 1]? = some x∧Y[d]? = some y∧ltB x.1 y.1) (hB:(d=0∨c=X.length)∨∃ y x,Y[d - 1]? = some y∧X[c]? = some x∧ltB y.1 x.1) :
  sortN (X++Y)=sortN (X.take c++Y.take d)++sortN (X.drop c++Y.drop d):=by
 have p1:(X.take c++Y.take d++(X.drop c++Y.drop d)).Perm (X++Y):=by
  have h:(X.take c++Y.take d++(X.drop c++Y.drop d)).Perm ((X.take c++X.drop c)++(Y.take d++Y.drop d)):=by
   rw [List.append_assoc,List.append_assoc]
   refine List.Perm.append_left _ ?_
   rw [←List.append_assoc,←List.append_assoc]
   exact List.Perm.append_right _ List.perm_append_comm
  rwa [List.take_append_drop,List.take_append_drop] at h
 have hdp:=ndE_perm p1.symm hd
 have hd1:ndE (X.take c++Y.take d):=ndE_sub (List.sublist_append_left _ _) hdp
 have hd2:ndE (X.drop c++Y.drop d):=ndE_sub (List.sublist_append_right _ _) hdp
 refine sym_eq hd ?_ (((sortN_perm _).append (sortN_perm _)).trans p1)
 rw [upE,List.pairwise_append]
 refine⟨sortN_strict hd1,sortN_strict hd2,fun p hp q hq=>?_⟩
 have hp:=(sortN_perm _).mem_iff.1 hp
 have hq:=(sortN_perm _).mem_iff.1 hq
 rcases List.mem_append.1 hp with hp | hp <;> rcases List.mem_append.1 hq with hq | hq
 ·exact take_drop_less hX c p hp q hq
 ·rcases hA with (h | h) | ⟨x,y,h1,h2,h3⟩
  ·rw [h,List.take_zero] at hp; cases hp
  ·rw [List.drop_eq_nil_of_le (by omega)] at hq; cases hq
  ·by_cases hc:c=0
   ·rw [hc,List.take_zero] at hp; cases hp
   ·exact drop_less hY (.inr ⟨y,h2,ltB_of_le hX h1 hp h3⟩) q hq
 ·rcases hB with (h | h) | ⟨y,x,h1,h2,h3⟩
  ·rw [h,List.take_zero] at hp; cases hp
  ·rw [List.drop_eq_nil_of_le (by omega)] at hq; cases hq
  ·by_cases hc:d=0
   ·rw [hc,List.take_zero] at hp; cases hp
   ·exact drop_less hX (.inr ⟨x,h2,ltB_of_le hY h1 hp h3⟩) q hq
 ·exact take_drop_less hY d p hp q hq
theorem et_at {w:World} {g n cap:Nat} {l:List Et} (h:w.ownsRow 0 125 2 (.slice (some ⟨g,0,none⟩) n cap) n (etC l)) {k:Nat} {x:Et} (hk:l[k]? = some x) :
  w.cell? ⟨g,k*2,none⟩=some (.string x.1)∧w.cell? ⟨g,k*2+1,none⟩=some (.slice x.2.1 x.2.2.1 x.2.2.2)∧w.frozen? ⟨g,k*2,none⟩=false∧w.frozen? ⟨g,k*2+1,none⟩=false:=by
 obtain⟨h1,h2⟩:=List.getElem?_eq_some_iff.1 hk
 have e:l=l.take k++x::l.drop (k+1):=by rw [←h2,←List.drop_eq_getElem_cons h1,List.take_append_drop]
 rw [e] at h
 exact et_cells h k (by rw [List.length_take]; omega)
theorem at_mid {P X Q:List Et} {k:Nat} (h:P.length≤k) (h2:k<P.length+X.length):(P++(X++Q))[k]? = X[k - P.length]?:=by
 rw [List.getElem?_append_right h,List.getElem?_append_left (by omega)]
theorem at_end {P X Y Q:List Et} {k:Nat} (h:P.length+X.length≤k) (h2:k<P.length+X.length+Y.length):(P++(X++(Y++Q)))[k]? = Y[k - (P.length+X.length)]?:=by
 rw [List.getElem?_append_right (by omega),List.getElem?_append_right (by omega),List.getElem?_append_left (by omega)]
 congr 1
 omega
theorem symA_walk (w0 w:World) (L:List Ob) (jj:Nat) (v:Value) (P Y Q:List Et) (x:Et) (S:Sep w0 w L) (hj:L[jj]? = some (oEt v (P++(x::(Y++Q))))) (hl:(P++(x::(Y++Q))).length≤1000) (a m b:Nat) (ha:P.length=a) (hm:a+1=m) (hb:m+Y.length=b) (hY:upE Y) (hd:ndE (x::Y)) :
  Calls Tryz.prog 157 #[v,.int .i64 a,.int .i64 m,.int .i64 b,.func (.func 102) #[] #[]] w fun e w'=>e=.returned (.tuple #[])∧Sep w0 w' (L.set jj (oEt v (P++(sortN (x::Y)++Q)))):=by
 obtain⟨n,hn⟩:∃ n,(P++(x::(Y++Q))).length=n:=⟨_,rfl⟩
 have hown:w.ownsRow 0 125 2 v (P++(x::(Y++Q))).length (etC (P++(x::(Y++Q)))):=S.get jj hj
 rw [hn] at hown
 obtain⟨g,cap,hv⟩:=row_form hown (by rw [←hn]; simp; omega)
 subst hv
 have hjl:jj<L.length:=(List.getElem?_eq_some_iff.1 hj).1
 have hbn:b≤n:=by rw [←hn]; simp only [List.length_append,List.length_cons]; omega
 have hL9:L.set jj (oEt (.slice (some ⟨g,0,none⟩) n cap) (P++(x::(Y++Q))))=L:=set_self hj
 rw [hn] at hl
 obtain⟨x1,x2,-,-⟩:=et_cells hown a ha
 obtain⟨yl,hyl⟩:∃ yl,Y.length=yl:=⟨_,rfl⟩
 have hY9:∀ (h:Nat) (z:Et),m≤h→Y[h - m]? = some z→w.cell? ⟨g,h*2,none⟩=some (.string z.1)∧w.cell? ⟨g,h*2+1,none⟩=some (.slice z.2.1 z.2.2.1 z.2.2.2):=fun h z hh hz=>by
  have hlt:=(List.getElem?_eq_some_iff.1 hz).1
  have e:P++(x::(Y++Q))=P++([x]++(Y++Q)):=rfl
  have:=at_end (P:=P) (X:=[x]) (Y:=Y) (Q:=Q) (k:=h) (by rw [List.length_singleton]; omega) (by rw [List.length_singleton]; omega)
  rw [List.length_singleton,show h - (P.length+1)=h - m by omega,hz] at this
  obtain⟨c1,c2,-,-⟩:=et_at hown (e ▸ this)
  exact⟨c1,c2⟩
 have HH:=zz9 ⟨S,hn,ha,hyl,hL9,hown,hY9,hY,hd⟩
 obtain⟨R,hR⟩:∃ R,sortN (x::Y)=R:=⟨_,rfl⟩
 have HR:=zz hR
 rw [hR]
 rw [hyl] at hb
 have hma:(m:Int) - (a:Int)=1:=by omega
 have han:(a:Int)<(n:Int):=by omega
 clear S hj hown hn hL9 hyl hY9 hY hd hR
 go_enter Tryz.func157,Tryz.ntmps157
 go_wp2_with fail
 clear hma
 go_loopg [10,11,12] yl (fun gg iv jv hv wr=>∃ i j:Nat,gg=j - i∧iv=.int .i64 i∧jv=.int .i64 j∧m≤i∧i≤j∧j≤b∧(i=m∨∃ z,Y[i - 1 - m]? = some z∧ltB z.1 x.1)∧(j=b∨∃ z,Y[j - m]? = some z∧¬ ltB z.1 x.1)∧Ext [] w wr)
 case atStart=>exact⟨m,b,by omega,rfl,rfl,by omega,by omega,by omega,.inl rfl,.inl rfl,Ext.refl _ _⟩
 case round=>
  obtain⟨i,j,rfl,rfl,rfl,hmi,hij,hjb,hA,hB,hx⟩:=hrel
  by_cases hlt:i<j
  ·obtain⟨c,hc⟩:∃ c,(i+j) / 2=c:=⟨_,rfl⟩
   have hc1:i≤c:=by omega
   have hc2:c<j:=by omega
   have hltz:(i:Int)<(j:Int):=by omega
   have hcn:(c:Int)<(n:Int):=by omega
   obtain⟨z,hz⟩:∃ z,Y[c - m]? = some z:=⟨_,List.getElem?_eq_getElem (by rw [HH.out.2.2.2.1]; omega)⟩
   obtain⟨z1,z2⟩:=HH.out.2.2.2.2.2.2.1 c z (by omega) hz
   have c1:∀ V:Ex wr,V.w.cell? ⟨g,a*2,none⟩=some (.string x.1):=fun V=>V.cell (hx.cell x1)
   have c2:∀ V:Ex wr,V.w.cell? ⟨g,a*2+1,none⟩=some (.slice x.2.1 x.2.2.1 x.2.2.2):=fun V=>V.cell (hx.cell x2)
   have c3:∀ V:Ex wr,V.w.cell? ⟨g,c*2,none⟩=some (.string z.1):=fun V=>V.cell (hx.cell z1)
   have c4:∀ V:Ex wr,V.w.cell? ⟨g,c*2+1,none⟩=some (.slice z.2.1 z.2.2.1 z.2.2.2):=fun V=>V.cell (hx.cell z2)
   have HX:=zz6 ⟨hA,hB,hx,hz,x1,x2⟩
   have hcz:((i:Int)+(j:Int)) / 2=(c:Int):=by omega
   clear hA hB hx hz z1 z2 hc x1 x2
   go_upto_region 5 with (fail)
   clear hcz
   refine wp_region_ext (by kernel_rfl) (by kernel_rfl) ?_
   repeat (go_big_quiet_step (first | (go_at_call 102; refine Calls.ext_of (cmp_walk _ _ _ _ _))))
   refine wpQuiet_nil ?_
   rintro _ ⟨V,rfl⟩
   obtain⟨q,hq⟩:∃ q,cmpN z.1 x.1=q:=⟨_,rfl⟩
   have hlt9:=cmpN_lt z.1 x.1
   rw [hq] at hlt9 ⊢
   have HV:=zz2 ⟨HX.out.2.2.1.trans V.ext,hlt9⟩
   have x1:=HX.out.2.2.2.2.1
   have x2:=HX.out.2.2.2.2.2
   clear c1 c2 c3 c4 hq hlt9
   generalize V.w=U at *
   by_cases hq0:q<0
   ·go_wp2_with fail
    go_roundg (j - (c+1))
    case measure=>omega
    case rel=>exact⟨c+1,j,rfl,by go_num,rfl,by omega,by omega,hjb,.inr ⟨z,by rw [Nat.add_sub_cancel]; exact HX.out.2.2.2.1,HV.out.2.1 hq0⟩,HX.out.2.1,HV.out.1⟩
   ·go_wp2_with fail
    go_roundg (c - i)
    case measure=>omega
    case rel=>exact⟨i,c,rfl,rfl,rfl,hmi,by omega,by omega,HX.out.1,.inr ⟨z,HX.out.2.2.2.1,fun h=>(by have:=HV.out.2.2 h; omega)⟩,HV.out.1⟩
  ·obtain rfl:i=j:=by omega
   have hltz:¬ (i:Int)<(i:Int):=by omega
   obtain⟨c,hc⟩:∃ c,i - m=c:=⟨_,rfl⟩
   have hcl:c≤yl:=by omega
   have hnd:∀ z∈Y,z.1≠x.1:=fun z hz e=>by
    have h9:=HH.out.2.2.2.2.2.2.2.2
    rw [ndE,List.map_cons,List.nodup_cons] at h9
    exact h9.1 (by rw [←e]; exact List.mem_map_of_mem hz)
   have hup:upE (Y.take c++x::Y.drop c):=by
    refine put_mid HH.out.2.2.2.2.2.2.2.1 (take_less HH.out.2.2.2.2.2.2.2.1 ?_) (drop_less HH.out.2.2.2.2.2.2.2.1 ?_)
    ·rcases hA with h | ⟨z,h1,h2⟩
     ·exact .inl (by omega)
     ·exact .inr ⟨z,by rw [←hc,show i - m - 1=i - 1 - m by omega]; exact h1,h2⟩
    ·rcases hB with h | ⟨z,h1,h2⟩
     ·exact .inl (by rw [HH.out.2.2.2.1]; omega)
     ·exact .inr ⟨z,by rw [←hc]; exact h1,less_of h2 (fun e=>hnd z (List.mem_of_getElem? h1) e.symm)⟩
   have hsrt:sortN (x::Y)=Y.take c++x::Y.drop c:=sym_eq HH.out.2.2.2.2.2.2.2.2 hup (by
    refine List.perm_middle.trans ?_
    rw [List.take_append_drop])
   rw [HR.out] at hsrt
   clear HR
   subst hsrt
   have HX:=zz hx
   have hiz:(i:Int) - 1=(a:Int)+(c:Int):=by omega
   clear hA hB hx hup hnd
   go_wp2_with fail
   clear hltz
   go_loopg [13] c (fun gg kv wr=>∃ (k:Nat) (Z1 Z2:List Et),gg+k=c∧kv=.int .i64 ((a:Int)+(k:Int))∧Y.take c=Z1++Z2∧Z1.length=k∧Sep w0 wr (L.set jj (oEt (.slice (some ⟨g,0,none⟩) n cap) (P++((Z1++x::Z2)++(Y.drop c++Q))))))
   case atStart=>
    refine⟨0,[],Y.take c,by omega,by simp,rfl,rfl,?_⟩
    have e:P++(([]++x::Y.take c)++(Y.drop c++Q))=P++(x::(Y++Q)):=by
     rw [List.nil_append,List.cons_append,←List.append_assoc (Y.take c),List.take_append_drop]
    rw [e,HH.out.2.2.2.2.1]
    exact HH.out.1.quiet HX.out
   case round=>
    obtain⟨k,Z1,Z2,hgk,rfl,hZ,hZ1,S⟩:=hrel
    have hZl:Z1.length+Z2.length=c:=by rw [←List.length_append,←hZ,List.length_take,HH.out.2.2.2.1]; omega
    by_cases hkc:k<c
    ·obtain⟨gg,rfl⟩:∃ gg,gk=gg+1:=⟨gk - 1,by omega⟩
     obtain _ | ⟨z,Z2⟩:=Z2
     ·rw [List.length_nil] at hZl; omega
     have hkz:(a:Int)+(k:Int)<(i:Int) - 1:=by omega
     have hlen:(P++((Z1++x::z::Z2)++(Y.drop c++Q))).length=n:=by
      have h1:=HH.out.2.1
      simp only [List.length_append,List.length_cons,List.length_drop,HH.out.2.2.2.1] at h1 hZl ⊢
      omega
     have hown:wr.ownsRow 0 125 2 (.slice (some ⟨g,0,none⟩) n cap) n (etC ((P++Z1)++x::(z::Z2++(Y.drop c++Q)))):=by
      have h1:wr.ownsRow 0 125 2 (.slice (some ⟨g,0,none⟩) n cap) (P++((Z1++x::z::Z2)++(Y.drop c++Q))).length (etC (P++((Z1++x::z::Z2)++(Y.drop c++Q)))):=S.get jj (List.getElem?_set_self hjl)
      rw [hlen] at h1
      rw [show (P++Z1)++x::(z::Z2++(Y.drop c++Q))=P++((Z1++x::z::Z2)++(Y.drop c++Q)) by simp]
      exact h1
     have l1:(P++Z1).length=a+k:=by rw [List.length_append,HH.out.2.2.1,hZ1]
     have e2:(P++Z1)++x::(z::Z2++(Y.drop c++Q))=(P++Z1++[x])++z::(Z2++(Y.drop c++Q)):=by simp
     have l2:(P++Z1++[x]).length=a+k+1:=by rw [List.length_append,l1]; rfl
     obtain⟨p1,p2,p3,p4⟩:=et_cells hown (a+k) l1
     obtain⟨q1,q2,q3,q4⟩:=et_cells (e2 ▸ hown) (a+k+1) l2
     have h1:=et_put (y:=z) hown (a+k) l1
     have e3:(P++Z1)++z::(z::Z2++(Y.drop c++Q))=(P++Z1++[z])++z::(Z2++(Y.drop c++Q)):=by simp
     have l3:(P++Z1++[z]).length=a+k+1:=by rw [List.length_append,l1]; rfl
     have h2:=et_put (y:=x) (e3 ▸ h1) (a+k+1) l3
     have e4:(P++Z1++[z])++x::(Z2++(Y.drop c++Q))=P++(((Z1++[z])++x::Z2)++(Y.drop c++Q)):=by simp
     have hlen2:(P++(((Z1++[z])++x::Z2)++(Y.drop c++Q))).length=n:=by
      rw [←hlen]
      simp only [List.length_append,List.length_cons,List.length_nil]
      omega
     have S2:=S.upd jj (oEt (.slice (some ⟨g,0,none⟩) n cap) (P++(((Z1++[z])++x::Z2)++(Y.drop c++Q)))) (List.getElem?_set_self hjl) (((((Ext.refl _ wr).setCell ⟨g,(a+k)*2,none⟩ (.string z.1) (.inl (by simp [oEt,oSl,Value.ownBlock]))).setCell ⟨g,(a+k)*2+1,none⟩ (.slice z.2.1 z.2.2.1 z.2.2.2) (.inl (by simp [oEt,oSl,Value.ownBlock]))).setCell ⟨g,(a+k+1)*2,none⟩ (.string x.1) (.inl (by simp [oEt,oSl,Value.ownBlock]))).setCell ⟨g,(a+k+1)*2+1,none⟩ (.slice x.2.1 x.2.2.1 x.2.2.2) (.inl (by simp [oEt,oSl,Value.ownBlock]))) (Fr.refl _ _) (by
      show World.ownsRow _ 0 125 2 _ (P++(((Z1++[z])++x::Z2)++(Y.drop c++Q))).length _
      rw [hlen2,←e4]
      exact h2)
     rw [List.set_set] at S2
     have HS:=zz3 ⟨S2,hZ,hZ1⟩
     have hak:(a:Int)+(k:Int)<(n:Int):=by omega
     have hak2:(a:Int)+(k:Int)+1<(n:Int):=by omega
     clear S S2 hZ hZ1 hown e2 e3 e4 l1 l2 l3 h1 h2 hlen hlen2 hZl
     go_upto_region 11 with (fail)
     go_region
     go_wp2_with fail
     go_roundg gg
     case measure=>omega
     case rel=>
      exact⟨k+1,Z1++[z],Z2,by omega,by go_num,by rw [HS.out.2.1]; simp,by rw [List.length_append,HS.out.2.2]; rfl,HS.out.1.quiet ((Ext.refl _ _).drew)⟩
    ·obtain rfl:gk=0:=by omega
     have hkz:¬ (a:Int)+(k:Int)<(i:Int) - 1:=by omega
     obtain rfl:Z2=[]:=List.length_eq_zero_iff.1 (by omega)
     rw [List.append_nil] at hZ
     subst hZ
     have e:P++((Y.take c++[x])++(Y.drop c++Q))=P++(Y.take c++x::(Y.drop c++Q)):=by simp
     rw [e] at S
     have HS:=zz S
     clear S hZ1 hZl e
     go_wp2_with fail
     (try simp only [Exit.inBlock,Exit.then])
     refine bodyPost_ret (results_none rfl _ _ _) rfl ?_
     exact⟨rfl,HS.out⟩
theorem symB_walk (w0 w:World) (L:List Ob) (jj:Nat) (v:Value) (P X Q:List Et) (y:Et) (S:Sep w0 w L) (hj:L[jj]? = some (oEt v (P++(X++(y::Q))))) (hl:(P++(X++(y::Q))).length≤1000) (a m b:Nat) (ha:P.length=a) (hm:a+X.length=m) (hb:m+1=b) (hX1:X.length≠1) (hX:upE X) (hd:ndE (X++[y])) :
  Calls Tryz.prog 157 #[v,.int .i64 a,.int .i64 m,.int .i64 b,.func (.func 102) #[] #[]] w fun e w'=>e=.returned (.tuple #[])∧Sep w0 w' (L.set jj (oEt v (P++(sortN (X++[y])++Q)))):=by
 obtain⟨n,hn⟩:∃ n,(P++(X++(y::Q))).length=n:=⟨_,rfl⟩
 have hown:w.ownsRow 0 125 2 v (P++(X++(y::Q))).length (etC (P++(X++(y::Q)))):=S.get jj hj
 rw [hn] at hown
 obtain⟨g,cap,hv⟩:=row_form hown (by rw [←hn]; simp; omega)
 subst hv
 have hjl:jj<L.length:=(List.getElem?_eq_some_iff.1 hj).1
 have hbn:b≤n:=by rw [←hn]; simp only [List.length_append,List.length_cons]; omega
 have hL9:L.set jj (oEt (.slice (some ⟨g,0,none⟩) n cap) (P++(X++(y::Q))))=L:=set_self hj
 rw [hn] at hl
 have e0:P++(X++(y::Q))=(P++X)++y::Q:=by simp
 obtain⟨x1,x2,-,-⟩:=et_cells (e0 ▸ hown) m (by rw [List.length_append,ha,hm])
 obtain⟨xl,hxl⟩:∃ xl,X.length=xl:=⟨_,rfl⟩
 have hX9:∀ (h:Nat) (z:Et),a≤h→X[h - a]? = some z→w.cell? ⟨g,h*2,none⟩=some (.string z.1)∧w.cell? ⟨g,h*2+1,none⟩=some (.slice z.2.1 z.2.2.1 z.2.2.2):=fun h z hh hz=>by
  have hlt:=(List.getElem?_eq_some_iff.1 hz).1
  have:=at_mid (P:=P) (X:=X) (Q:=y::Q) (k:=h) (by omega) (by omega)
  rw [ha,hz] at this
  obtain⟨c1,c2,-,-⟩:=et_at hown this
  exact⟨c1,c2⟩
 have HH:=zz9 ⟨S,hn,ha,hxl,hL9,hown,hX9,hX,hd⟩
 obtain⟨R,hR⟩:∃ R,sortN (X++[y])=R:=⟨_,rfl⟩
 have HR:=zz hR
 rw [hR]
 rw [hxl] at hm hX1
 have hma:((m:Int) - (a:Int)==1)=false:=beq_eq_false_iff_ne.2 (by omega)
 have hbm:(b:Int) - (m:Int)=1:=by omega
 have hmn:(m:Int)<(n:Int):=by omega
 clear S hj hown hn hL9 hxl hX9 hX hd hR e0
 go_enter Tryz.func157,Tryz.ntmps157
 go_wp2_with fail
 clear hma hbm
 go_loopg [14,15,16] xl (fun gg iv jv hv wr=>∃ i j:Nat,gg=j - i∧iv=.int .i64 i∧jv=.int .i64 j∧a≤i∧i≤j∧j≤m∧(i=a∨∃ z,X[i - 1 - a]? = some z∧¬ ltB y.1 z.1)∧(j=m∨∃ z,X[j - a]? = some z∧ltB y.1 z.1)∧Ext [] w wr)
 case atStart=>exact⟨a,m,by omega,rfl,rfl,by omega,by omega,by omega,.inl rfl,.inl rfl,Ext.refl _ _⟩
 case round=>
  obtain⟨i,j,rfl,rfl,rfl,hmi,hij,hjb,hA,hB,hx⟩:=hrel
  by_cases hlt:i<j
  ·obtain⟨c,hc⟩:∃ c,(i+j) / 2=c:=⟨_,rfl⟩
   have hc1:i≤c:=by omega
   have hc2:c<j:=by omega
   have hltz:(i:Int)<(j:Int):=by omega
   have hcn:(c:Int)<(n:Int):=by omega
   obtain⟨z,hz⟩:∃ z,X[c - a]? = some z:=⟨_,List.getElem?_eq_getElem (by rw [HH.out.2.2.2.1]; omega)⟩
   obtain⟨z1,z2⟩:=HH.out.2.2.2.2.2.2.1 c z (by omega) hz
   have c1:∀ V:Ex wr,V.w.cell? ⟨g,m*2,none⟩=some (.string y.1):=fun V=>V.cell (hx.cell x1)
   have c2:∀ V:Ex wr,V.w.cell? ⟨g,m*2+1,none⟩=some (.slice y.2.1 y.2.2.1 y.2.2.2):=fun V=>V.cell (hx.cell x2)
   have c3:∀ V:Ex wr,V.w.cell? ⟨g,c*2,none⟩=some (.string z.1):=fun V=>V.cell (hx.cell z1)
   have c4:∀ V:Ex wr,V.w.cell? ⟨g,c*2+1,none⟩=some (.slice z.2.1 z.2.2.1 z.2.2.2):=fun V=>V.cell (hx.cell z2)
   have HX:=zz6 ⟨hA,hB,hx,hz,x1,x2⟩
   have hcz:((i:Int)+(j:Int)) / 2=(c:Int):=by omega
   clear hA hB hx hz z1 z2 hc x1 x2
   go_upto_region 17 with (fail)
   clear hcz
   refine wp_region_ext (by kernel_rfl) (by kernel_rfl) ?_
   repeat (go_big_quiet_step (first | (go_at_call 102; refine Calls.ext_of (cmp_walk _ _ _ _ _))))
   refine wpQuiet_nil ?_
   rintro _ ⟨V,rfl⟩
   obtain⟨q,hq⟩:∃ q,cmpN y.1 z.1=q:=⟨_,rfl⟩
   have hlt9:=cmpN_lt y.1 z.1
   rw [hq] at hlt9 ⊢
   have HV:=zz2 ⟨HX.out.2.2.1.trans V.ext,hlt9⟩
   have x1:=HX.out.2.2.2.2.1
   have x2:=HX.out.2.2.2.2.2
   clear c1 c2 c3 c4 hq hlt9
   generalize V.w=U at *
   by_cases hq0:q<0
   ·rw [show (!decide (q<0))=false by rw [decide_eq_true hq0]; rfl]
    go_wp2_with fail
    go_roundg (c - i)
    case measure=>omega
    case rel=>exact⟨i,c,rfl,rfl,rfl,hmi,by omega,by omega,HX.out.1,.inr ⟨z,HX.out.2.2.2.1,HV.out.2.1 hq0⟩,HV.out.1⟩
   ·rw [show (!decide (q<0))=true by rw [decide_eq_false hq0]; rfl]
    go_wp2_with fail
    go_roundg (j - (c+1))
    case measure=>omega
    case rel=>exact⟨c+1,j,rfl,by go_num,rfl,by omega,by omega,hjb,.inr ⟨z,by rw [Nat.add_sub_cancel]; exact HX.out.2.2.2.1,fun h=>(by have:=HV.out.2.2 h; omega)⟩,HX.out.2.1,HV.out.1⟩
  ·obtain rfl:i=j:=by omega
   have hltz:¬ (i:Int)<(i:Int):=by omega
   obtain⟨c,hc⟩:∃ c,i - a=c:=⟨_,rfl⟩
   have hcl:c≤xl:=by omega
   have hnd:∀ z∈X,z.1≠y.1:=fun z hz e=>by
    have h9:=HH.out.2.2.2.2.2.2.2.2
    rw [ndE,List.map_append,List.nodup_append] at h9
    exact h9.2.2 z.1 (List.mem_map_of_mem hz) y.1 (by simp) e
   have hup:upE (X.take c++y::X.drop c):=by
    refine put_mid HH.out.2.2.2.2.2.2.2.1 (take_less HH.out.2.2.2.2.2.2.2.1 ?_) (drop_less HH.out.2.2.2.2.2.2.2.1 ?_)
    ·rcases hA with h | ⟨z,h1,h2⟩
     ·exact .inl (by omega)
     ·exact .inr ⟨z,by rw [←hc,show i - a - 1=i - 1 - a by omega]; exact h1,less_of h2 (fun e=>hnd z (List.mem_of_getElem? h1) e)⟩
    ·rcases hB with h | ⟨z,h1,h2⟩
     ·exact .inl (by rw [HH.out.2.2.2.1]; omega)
     ·exact .inr ⟨z,by rw [←hc]; exact h1,h2⟩
   have hsrt:sortN (X++[y])=X.take c++y::X.drop c:=sym_eq HH.out.2.2.2.2.2.2.2.2 hup (by
    refine List.perm_middle.trans ?_
    rw [List.take_append_drop]
    exact (List.perm_append_singleton y X).symm)
   rw [HR.out] at hsrt
   clear HR
   subst hsrt
   have HX:=zz hx
   obtain⟨d,hd⟩:∃ d,xl - c=d:=⟨_,rfl⟩
   clear hA hB hx hup hnd
   go_wp2_with fail
   clear hltz
   go_loopg [17] d (fun gg kv wr=>∃ (k:Nat) (Z1 Z2:List Et),gg+i=k∧kv=.int .i64 k∧X.drop c=Z1++Z2∧i+Z1.length=k∧Sep w0 wr (L.set jj (oEt (.slice (some ⟨g,0,none⟩) n cap) (P++(X.take c++((Z1++y::Z2)++Q))))))
   case atStart=>
    refine⟨m,X.drop c,[],by omega,rfl,by rw [List.append_nil],by rw [List.length_drop,HH.out.2.2.2.1]; omega,?_⟩
    have e:P++(X.take c++((X.drop c++[y])++Q))=P++(X++(y::Q)):=by
     rw [List.append_assoc,←List.append_assoc (X.take c),List.take_append_drop]; rfl
    rw [e,HH.out.2.2.2.2.1]
    exact HH.out.1.quiet HX.out
   case round=>
    obtain⟨k,Z1,Z2,hgk,rfl,hZ,hZ1,S⟩:=hrel
    have hZl:Z1.length+Z2.length+c=xl:=by rw [←List.length_append,←hZ,List.length_drop,HH.out.2.2.2.1]; omega
    have hPc:(P++X.take c).length=i:=by rw [List.length_append,List.length_take,HH.out.2.2.2.1,HH.out.2.2.1]; omega
    by_cases hkc:i<k
    ·obtain⟨gg,rfl⟩:∃ gg,gk=gg+1:=⟨gk - 1,by omega⟩
     obtain⟨k2,rfl⟩:∃ k2,k=k2+1:=⟨k - 1,by omega⟩
     obtain⟨Z3,z,rfl⟩:∃ Z3 z,Z1=Z3++[z]:=by
      rcases List.eq_nil_or_concat Z1 with h | ⟨Z3,z,h⟩
      ·subst h; simp at hZ1; omega
      ·exact⟨Z3,z,by rw [h]; simp⟩
     have hkz:(i:Int)<(k2:Int)+1:=by omega
     rw [List.length_append,List.length_singleton] at hZ1 hZl
     have e1:P++(X.take c++(((Z3++[z])++y::Z2)++Q))=(P++X.take c++Z3)++z::y::(Z2++Q):=by simp
     have hlen:(P++(X.take c++(((Z3++[z])++y::Z2)++Q))).length=n:=by
      have h1:=HH.out.2.1
      simp only [List.length_append,List.length_cons,List.length_take,List.length_nil,HH.out.2.2.2.1] at h1 hZl ⊢
      omega
     have hown:wr.ownsRow 0 125 2 (.slice (some ⟨g,0,none⟩) n cap) n (etC ((P++X.take c++Z3)++z::y::(Z2++Q))):=by
      have h1:wr.ownsRow 0 125 2 (.slice (some ⟨g,0,none⟩) n cap) (P++(X.take c++(((Z3++[z])++y::Z2)++Q))).length (etC (P++(X.take c++(((Z3++[z])++y::Z2)++Q)))):=S.get jj (List.getElem?_set_self hjl)
      rw [hlen,e1] at h1
      exact h1
     have l1:(P++X.take c++Z3).length=k2:=by rw [List.length_append,hPc]; omega
     have e2:(P++X.take c++Z3)++z::y::(Z2++Q)=(P++X.take c++Z3++[z])++y::(Z2++Q):=by simp
     have l2:(P++X.take c++Z3++[z]).length=k2+1:=by rw [List.length_append,l1]; rfl
     obtain⟨p1,p2,p3,p4⟩:=et_cells hown k2 l1
     obtain⟨q1,q2,q3,q4⟩:=et_cells (e2 ▸ hown) (k2+1) l2
     have h2:=et_swap hown k2 l1
     have e4:(P++X.take c++Z3)++y::z::(Z2++Q)=P++(X.take c++((Z3++y::(z::Z2))++Q)):=by simp
     have hlen2:(P++(X.take c++((Z3++y::(z::Z2))++Q))).length=n:=by
      rw [←hlen]
      simp only [List.length_append,List.length_cons,List.length_nil]
      omega
     have S2:=S.upd jj (oEt (.slice (some ⟨g,0,none⟩) n cap) (P++(X.take c++((Z3++y::(z::Z2))++Q)))) (List.getElem?_set_self hjl) (((((Ext.refl _ wr).setCell ⟨g,(k2+1)*2,none⟩ (.string z.1) (.inl (by simp [oEt,oSl,Value.ownBlock]))).setCell ⟨g,(k2+1)*2+1,none⟩ (.slice z.2.1 z.2.2.1 z.2.2.2) (.inl (by simp [oEt,oSl,Value.ownBlock]))).setCell ⟨g,k2*2,none⟩ (.string y.1) (.inl (by simp [oEt,oSl,Value.ownBlock]))).setCell ⟨g,k2*2+1,none⟩ (.slice y.2.1 y.2.2.1 y.2.2.2) (.inl (by simp [oEt,oSl,Value.ownBlock]))) (Fr.refl _ _) (by
      show World.ownsRow _ 0 125 2 _ (P++(X.take c++((Z3++y::(z::Z2))++Q))).length _
      rw [hlen2,←e4]
      exact h2)
     rw [List.set_set] at S2
     have hZ' : X.drop c=Z3++(z::Z2):=by rw [hZ]; simp
     have HS:=zz3 ⟨S2,hZ',hZ1⟩
     have hak:(k2:Int)<(n:Int):=by omega
     have hak2:(k2:Int)+1<(n:Int):=by omega
     clear S S2 hZ hZ' hZ1 hown e1 e2 e4 l1 l2 h2 hlen hlen2 hZl hPc
     go_upto_region 23 with (fail)
     go_region
     go_wp2_with fail
     go_roundg gg
     case measure=>omega
     case rel=>
      exact⟨k2,Z3,z::Z2,by omega,by go_num,HS.out.2.1,by have:=HS.out.2.2; omega,HS.out.1.quiet ((Ext.refl _ _).drew)⟩
    ·obtain rfl:gk=0:=by omega
     obtain rfl:i=k:=by omega
     have hkz:¬ (i:Int)<(i:Int):=by omega
     obtain rfl:Z1=[]:=List.length_eq_zero_iff.1 (by omega)
     rw [List.nil_append] at hZ S
     subst hZ
     have HS:=zz S
     clear S hZ1 hZl hPc
     go_wp2_with fail
     (try simp only [Exit.inBlock,Exit.then])
     refine bodyPost_ret (results_none rfl _ _ _) rfl ?_
     refine⟨rfl,?_⟩
     have e:P++(X.take c++((y::X.drop c)++Q))=P++((X.take c++y::X.drop c)++Q):=by simp
     have h9:=HS.out
     rw [e] at h9
     simpa only [List.append_assoc,List.cons_append] using h9
theorem cut_at {X:List Et} {c:Nat} (h:c≤X.length):∃ X1 X2,X=X1++X2∧X1.length=c∧X2.length=X.length - c∧X.take c=X1∧X.drop c=X2:=
 ⟨X.take c,X.drop c,by rw [List.take_append_drop],by rw [List.length_take]; omega,List.length_drop,rfl,rfl⟩
theorem nd_ne {X Y:List Et} (hd:ndE (X++Y)) {x y:Et} (hx:x∈X) (hy:y∈Y):x.1≠y.1:=by
 rw [ndE,List.map_append,List.nodup_append] at hd
 exact hd.2.2 _ (List.mem_map_of_mem hx) _ (List.mem_map_of_mem hy)
theorem up_nd {X:List Et} (h:upE X):ndE X:=by
 rw [ndE,List.Nodup,List.pairwise_map]
 exact h.imp fun {a b} hab e=>by rw [e] at hab; exact ltB_irrefl _ hab
theorem up_app_nil {X:List Et} (h:upE X):sortN X=X:=sym_eq (up_nd h) h (List.Perm.refl _)
theorem sym_walk:∀ (G:Nat) (w0 w:World) (L:List Ob) (jj:Nat) (v:Value) (P X Y Q:List Et) (_:Sep w0 w L) (_:L[jj]? = some (oEt v (P++(X++(Y++Q))))) (_:(P++(X++(Y++Q))).length≤1000) (a m b:Nat) (_:P.length=a) (_:a+X.length=m) (_:m+Y.length=b) (_:0<X.length) (_:0<Y.length) (_:upE X) (_:upE Y) (_:ndE (X++Y)),X.length+Y.length≤G→
  Calls Tryz.prog 157 #[v,.int .i64 a,.int .i64 m,.int .i64 b,.func (.func 102) #[] #[]] w fun e w'=>e=.returned (.tuple #[])∧Sep w0 w' (L.set jj (oEt v (P++(sortN (X++Y)++Q)))):=by
 intro G
 induction G with
 | zero=>intro w0 w L jj v P X Y Q S hj hl a m b ha hm hb hX0 hY0 hX hY hd hG; omega
 | succ G IH=>
 intro w0 w L jj v P X Y Q S hj hl a m b ha hm hb hX0 hY0 hX hY hd hG
 by_cases hX1:X.length=1
 ·obtain⟨x,rfl⟩:=List.length_eq_one_iff.1 hX1
  exact symA_walk w0 w L jj v P Y Q x S hj hl a m b ha hm hb hY hd
 by_cases hY1:Y.length=1
 ·obtain⟨y,rfl⟩:=List.length_eq_one_iff.1 hY1
  exact symB_walk w0 w L jj v P X Q y S hj hl a m b ha hm hb hX1 hX hd
 obtain⟨n,hn⟩:∃ n,(P++(X++(Y++Q))).length=n:=⟨_,rfl⟩
 have hown:w.ownsRow 0 125 2 v (P++(X++(Y++Q))).length (etC (P++(X++(Y++Q)))):=S.get jj hj
 rw [hn] at hown
 have hbn:b≤n:=by rw [←hn]; simp only [List.length_append]; omega
 obtain⟨g,cap,hv⟩:=row_form hown (by omega)
 subst hv
 have hjl:jj<L.length:=(List.getElem?_eq_some_iff.1 hj).1
 have hL9:L.set jj (oEt (.slice (some ⟨g,0,none⟩) n cap) (P++(X++(Y++Q))))=L:=set_self hj
 rw [hn] at hl
 obtain⟨xl,hxl⟩:∃ xl,X.length=xl:=⟨_,rfl⟩
 obtain⟨yl,hyl⟩:∃ yl,Y.length=yl:=⟨_,rfl⟩
 have hX9:∀ (h:Nat) (z:Et),a≤h→X[h - a]? = some z→w.cell? ⟨g,h*2,none⟩=some (.string z.1)∧w.cell? ⟨g,h*2+1,none⟩=some (.slice z.2.1 z.2.2.1 z.2.2.2):=fun h z hh hz=>by
  have hlt:=(List.getElem?_eq_some_iff.1 hz).1
  have:=at_mid (P:=P) (X:=X) (Q:=Y++Q) (k:=h) (by omega) (by omega)
  rw [ha,hz] at this
  obtain⟨c1,c2,-,-⟩:=et_at hown this
  exact⟨c1,c2⟩
 have hY9:∀ (h:Nat) (z:Et),m≤h→Y[h - m]? = some z→w.cell? ⟨g,h*2,none⟩=some (.string z.1)∧w.cell? ⟨g,h*2+1,none⟩=some (.slice z.2.1 z.2.2.1 z.2.2.2):=fun h z hh hz=>by
  have hlt:=(List.getElem?_eq_some_iff.1 hz).1
  have:=at_end (P:=P) (X:=X) (Y:=Y) (Q:=Q) (k:=h) (by omega) (by omega)
  rw [show h - (P.length+X.length)=h - m by omega,hz] at this
  obtain⟨c1,c2,-,-⟩:=et_at hown this
  exact⟨c1,c2⟩
 obtain⟨R,hR⟩:∃ R,sortN (X++Y)=R:=⟨_,rfl⟩
 have HR:=zz hR
 rw [hR]
 have HH:=zz12 ⟨S,hn,ha,hxl,hyl,hL9,hown,hX9,hY9,hX,hY,hd⟩
 rw [hxl] at hm hX0 hX1 hG
 rw [hyl] at hb hY0 hY1 hG
 have HI:=zz IH
 obtain⟨d,hd2⟩:∃ d,(a+b) / 2=d:=⟨_,rfl⟩
 obtain⟨s0,r0,hsr⟩:∃ s0 r0:Nat,(d<m∧s0+b=d+m∧r0=d)∨(m≤d∧s0=a∧r0=m):=by
  by_cases h:d<m
  ·exact⟨d+m - b,d,.inl ⟨h,by omega,rfl⟩⟩
  ·exact⟨a,m,.inr ⟨by omega,rfl,rfl⟩⟩
 have hma:((m:Int) - (a:Int)==1)=false:=beq_eq_false_iff_ne.2 (by omega)
 have hbm:((b:Int) - (m:Int)==1)=false:=beq_eq_false_iff_ne.2 (by omega)
 have hdz:((a:Int)+(b:Int)) / 2=(d:Int):=by omega
 have had:a<d:=by omega
 have hdb:d<b:=by omega
 have hr0m:r0≤m:=by omega
 have hr0d:r0≤d:=by omega
 have hs0a:a≤s0:=by omega
 have hs0r:s0≤r0:=by omega
 have hs0b:d+m≤s0+b:=by omega
 clear S hj hown hn hL9 hxl hyl hX9 hY9 hX hY hd hR IH
 go_enter Tryz.func157,Tryz.ntmps157
 go_upto_if 140 with fail
 clear hma hbm hdz
 obtain⟨B,hB⟩:∃ B,decide (d<m)=B:=⟨_,rfl⟩
 rw [hB]
 go_cut [20,21] from 141 to 146 (fun sv rv wx=>sv=.int .i64 s0∧rv=.int .i64 r0∧w=wx)
 case first=>
  by_cases h:d<m
  ·obtain rfl:B=true:=by rw [←hB,decide_eq_true h]
   clear hB
   have hz:(d:Int)<(m:Int):=by omega
   have hs9:(d:Int)+(m:Int) - (b:Int)=(s0:Int):=by omega
   obtain rfl:r0=d:=by omega
   go_wp2_with fail
   go_meet
   exact⟨rfl,rfl,rfl⟩
  ·obtain rfl:B=false:=by rw [←hB,decide_eq_false h]
   clear hB
   have hz:¬ (d:Int)<(m:Int):=by omega
   obtain rfl:s0=a:=by omega
   obtain rfl:r0=m:=by omega
   go_wp2_with fail
   go_meet
   exact⟨rfl,rfl,rfl⟩
 case rest=>
 obtain⟨rfl,rfl,rfl⟩:=hcut
 clear hB
 go_wp2_with fail
 go_loopg [20,21,23] (r0 - s0) (fun gg sv rv cv wr=>∃ s r:Nat,gg=r - s∧sv=.int .i64 s∧rv=.int .i64 r∧s0≤s∧s≤r∧r≤r0∧(s=s0∨∃ x y,X[s - 1 - a]? = some x∧Y[d - s]? = some y∧¬ ltB y.1 x.1)∧(r=r0∨∃ x y,X[r - a]? = some x∧Y[d - 1 - r]? = some y∧ltB y.1 x.1)∧Ext [] w wr)
 case atStart=>exact⟨s0,r0,rfl,rfl,rfl,by omega,by omega,by omega,.inl rfl,.inl rfl,Ext.refl _ _⟩
 case round=>
  obtain⟨s,r,rfl,rfl,rfl,hs0,hsr2,hrr,hA,hB,hx⟩:=hrel
  by_cases hlt:s<r
  ·obtain⟨c,hc⟩:∃ c,(s+r) / 2=c:=⟨_,rfl⟩
   have hc1:s≤c:=by omega
   have hc2:c<r:=by omega
   have hltz:(s:Int)<(r:Int):=by omega
   have hcn:(c:Int)<(n:Int):=by omega
   obtain⟨q,hq⟩:∃ q,d+m - 1 - c=q:=⟨_,rfl⟩
   have hqm:m≤q:=by omega
   have hqb:q<b:=by omega
   have hqn:(q:Int)<(n:Int):=by omega
   obtain⟨x,hxz⟩:∃ z,X[c - a]? = some z:=⟨_,List.getElem?_eq_getElem (by rw [HH.out.2.2.2.1]; omega)⟩
   obtain⟨y,hyz⟩:∃ z,Y[q - m]? = some z:=⟨_,List.getElem?_eq_getElem (by rw [HH.out.2.2.2.2.1]; omega)⟩
   obtain⟨x1,x2⟩:=HH.out.2.2.2.2.2.2.2.1 c x (by omega) hxz
   obtain⟨y1,y2⟩:=HH.out.2.2.2.2.2.2.2.2.1 q y (by omega) hyz
   have c1:∀ V:Ex wr,V.w.cell? ⟨g,c*2,none⟩=some (.string x.1):=fun V=>V.cell (hx.cell x1)
   have c2:∀ V:Ex wr,V.w.cell? ⟨g,c*2+1,none⟩=some (.slice x.2.1 x.2.2.1 x.2.2.2):=fun V=>V.cell (hx.cell x2)
   have c3:∀ V:Ex wr,V.w.cell? ⟨g,q*2,none⟩=some (.string y.1):=fun V=>V.cell (hx.cell y1)
   have c4:∀ V:Ex wr,V.w.cell? ⟨g,q*2+1,none⟩=some (.slice y.2.1 y.2.2.1 y.2.2.2):=fun V=>V.cell (hx.cell y2)
   have HX:=zz (⟨hA,hB,hx,hxz,by rw [←hq,show d+m - 1 - c - m=d - 1 - c by omega] at hyz; exact hyz⟩:_∧_∧_∧_∧Y[d - 1 - c]? = some y)
   have hcz:((s:Int)+(r:Int)) / 2=(c:Int):=by omega
   have hqz:(d:Int)+(m:Int) - 1 - (c:Int)=(q:Int):=by omega
   clear hA hB hx hxz hyz hc x1 x2 y1 y2 hsr
   go_upto_region 35 with (fail)
   clear hcz
   refine wp_region_ext (by kernel_rfl) (by kernel_rfl) ?_
   repeat (go_big_quiet_step (first | (go_at_call 102; refine Calls.ext_of (cmp_walk _ _ _ _ _))))
   refine wpQuiet_nil ?_
   rintro _ ⟨V,rfl⟩
   obtain⟨z,hz⟩:∃ z,cmpN y.1 x.1=z:=⟨_,rfl⟩
   have hlt9:=cmpN_lt y.1 x.1
   rw [hz] at hlt9 ⊢
   have HV:=zz2 ⟨HX.out.2.2.1.trans V.ext,hlt9⟩
   clear c1 c2 c3 c4 hz hlt9 hqz
   generalize V.w=U at *
   by_cases hq0:z<0
   ·rw [show (!decide (z<0))=false by rw [decide_eq_true hq0]; rfl]
    go_wp2_with fail
    go_roundg (c - s)
    case measure=>omega
    case rel=>exact⟨s,c,rfl,rfl,rfl,hs0,by omega,by omega,HX.out.1,.inr ⟨x,y,HX.out.2.2.2.1,HX.out.2.2.2.2,HV.out.2.1 hq0⟩,HV.out.1⟩
   ·rw [show (!decide (z<0))=true by rw [decide_eq_false hq0]; rfl]
    go_wp2_with fail
    go_roundg (r - (c+1))
    case measure=>omega
    case rel=>exact⟨c+1,r,rfl,by go_num,rfl,by omega,by omega,hrr,.inr ⟨x,y,by rw [Nat.add_sub_cancel]; exact HX.out.2.2.2.1,by rw [show d - (c+1)=d - 1 - c by omega]; exact HX.out.2.2.2.2,fun h=>(by have:=HV.out.2.2 h; omega)⟩,HX.out.2.1,HV.out.1⟩
  ·obtain rfl:s=r:=by omega
   have hltz:¬ (s:Int)<(s:Int):=by omega
   obtain⟨e,he⟩:∃ e,d+m - s=e:=⟨_,rfl⟩
   have hez:(d:Int)+(m:Int) - (s:Int)=(e:Int):=by omega
   have hem:m≤e:=by omega
   have heb:e≤b:=by omega
   have hsm:s≤m:=by omega
   have hsd:s≤d:=by omega
   have has:a≤s:=by omega
   have hsplit:=sym_split (c:=s - a) (d:=d - s) HH.out.2.2.2.2.2.2.2.2.2.1 HH.out.2.2.2.2.2.2.2.2.2.2.1 HH.out.2.2.2.2.2.2.2.2.2.2.2 (by
    by_cases h0:s=s0
    ·refine .inl ?_
     rw [HH.out.2.2.2.2.1]
     omega
    ·rcases hA with h | ⟨x,y,h1,h2,h3⟩
     ·exact absurd h h0
     ·exact .inr ⟨x,y,by rw [show s - a - 1=s - 1 - a by omega]; exact h1,h2,less_of h3 (nd_ne HH.out.2.2.2.2.2.2.2.2.2.2.2 (List.mem_of_getElem? h1) (List.mem_of_getElem? h2))⟩) (by
    rcases hB with h | ⟨x,y,h1,h2,h3⟩
    ·refine .inl ?_
     rw [HH.out.2.2.2.1]
     omega
    ·exact .inr ⟨y,x,by rw [show d - s - 1=d - 1 - s by omega]; exact h2,h1,h3⟩)
   obtain⟨X1,X2,hXe,hX1l,hX2l,hx1,hx2⟩:=cut_at (X:=X) (c:=s - a) (by rw [HH.out.2.2.2.1]; omega)
   obtain⟨Y1,Y2,hYe,hY1l,hY2l,hy1,hy2⟩:=cut_at (X:=Y) (c:=d - s) (by rw [HH.out.2.2.2.2.1]; omega)
   rw [hx1,hx2,hy1,hy2,HR.out] at hsplit
   rw [HH.out.2.2.2.1] at hX2l
   rw [HH.out.2.2.2.2.1] at hY2l
   have S0:=HH.out.1.quiet hx
   rw [←HH.out.2.2.2.2.2.1] at S0
   have hln:=HH.out.2.1
   have hu1:=HH.out.2.2.2.2.2.2.2.2.2.1
   have hu2:=HH.out.2.2.2.2.2.2.2.2.2.2.1
   have hnd:=HH.out.2.2.2.2.2.2.2.2.2.2.2
   have hPa:=HH.out.2.2.1
   clear hA hB hx hx1 hx2 hy1 hy2 HR HH hsr
   subst hXe hYe
   have hnd1:ndE (X1++Y1):=ndE_sub (List.Sublist.append (List.sublist_append_left _ _) (List.sublist_append_left _ _)) hnd
   have hnd2:ndE (X2++Y2):=ndE_sub (List.Sublist.append (List.sublist_append_right _ _) (List.sublist_append_right _ _)) hnd
   have u1:upE X1:=hu1.sublist (List.sublist_append_left _ _)
   have u2:upE X2:=hu1.sublist (List.sublist_append_right _ _)
   have u3:upE Y1:=hu2.sublist (List.sublist_append_left _ _)
   have u4:upE Y2:=hu2.sublist (List.sublist_append_right _ _)
   obtain⟨S1,hS1⟩:∃ S1,sortN (X1++Y1)=S1:=⟨_,rfl⟩
   obtain⟨S2,hS2⟩:∃ S2,sortN (X2++Y2)=S2:=⟨_,rfl⟩
   rw [hS1,hS2] at hsplit
   subst hsplit
   have hS1l:S1.length=X1.length+Y1.length:=by rw [←hS1,sortN_len,List.length_append]
   have e0:P++((X1++X2)++((Y1++Y2)++Q))=(P++X1)++(X2++(Y1++(Y2++Q))):=by simp
   rw [e0] at S0 hln
   have hl2:((P++X1)++(Y1++(X2++(Y2++Q)))).length=n:=by rw [←hln]; simp only [List.length_append]; omega
   have hl3:(P++(X1++(Y1++(X2++(Y2++Q))))).length=n:=by rw [←hl2]; simp only [List.length_append]; omega
   have hl4:(P++(S1++(X2++(Y2++Q)))).length=n:=by rw [←hl3]; simp only [List.length_append]; omega
   have hl5:((P++S1)++(X2++(Y2++Q))).length=n:=by rw [←hl4]; simp only [List.length_append]; omega
   have hPX:(P++X1).length=s:=by rw [List.length_append]; omega
   have hPS:(P++S1).length=d:=by rw [List.length_append]; omega
   -- what is called
   have K0:=zz (fun h1 h2=>rot_walk w0 wr _ jj (.slice (some ⟨g,0,none⟩) n cap) (P++X1) X2 Y1 (Y2++Q) S0 (List.getElem?_set_self hjl) (by rw [hln]; exact hl) s m e hPX (by omega) (by omega) h1 h2)
   have K1:=zz (fun W (S:Sep w0 W (L.set jj (oEt (.slice (some ⟨g,0,none⟩) n cap) (P++(X1++(Y1++(X2++(Y2++Q)))))))) h1 h2=>HI.out w0 W _ jj (.slice (some ⟨g,0,none⟩) n cap) P X1 Y1 (X2++(Y2++Q)) S (List.getElem?_set_self hjl) (by rw [hl3]; exact hl) a s d hPa (by omega) (by omega) h1 h2 u1 u3 hnd1 (by omega))
   have K2:=zz (fun W (S:Sep w0 W (L.set jj (oEt (.slice (some ⟨g,0,none⟩) n cap) ((P++S1)++(X2++(Y2++Q)))))) h1 h2=>HI.out w0 W _ jj (.slice (some ⟨g,0,none⟩) n cap) (P++S1) X2 Y2 Q S (List.getElem?_set_self hjl) (by rw [hl5]; exact hl) d e b hPS (by omega) (by omega) h1 h2 u2 u4 hnd2 (by omega))
   rw [hS1] at K1
   rw [hS2] at K2
   simp only [List.set_set] at K0 K1 K2
   have e1:(P++X1)++(Y1++(X2++(Y2++Q)))=P++(X1++(Y1++(X2++(Y2++Q)))):=by simp
   have e2:P++(S1++(X2++(Y2++Q)))=(P++S1)++(X2++(Y2++Q)):=by simp
   have e3:(P++S1)++(S2++Q)=P++((S1++S2)++Q):=by simp
   rw [e1] at K0
   rw [e2] at K1
   rw [e3] at K2
   have HU:=zz (⟨u1,u2,u3,u4,hS1,hS2,hX1l,hX2l,hY1l,hY2l,S0,e1,e2,e3⟩:_∧_∧_∧_∧_∧_∧_∧_∧_∧_∧_∧_∧_∧_)
   clear u1 u2 u3 u4 hS1 hS2 hX1l hX2l hY1l hY2l S0 e0 e1 e2 e3 hln hl2 hl3 hl4 hl5 hPX hPS hS1l hnd1 hnd2 hu1 hu2 hnd hPa HI
   by_cases h1:s<m
   ·skip
    by_cases h2:s<d
    ·skip
     by_cases h3:a<s
     ·skip
      by_cases h4:e<b
      ·have f1 :  (s:Int)<(m:Int):=by omega
       have f2 :  (m:Int)<(e:Int):=by omega
       have f3 :  (a:Int)<(s:Int):=by omega
       have f4 :  (s:Int)<(d:Int):=by omega
       have f5 :  (d:Int)<(e:Int):=by omega
       have f6 :  (e:Int)<(b:Int):=by omega
       have hx1l:=HU.out.2.2.2.2.2.2.1
       have hx2l:=HU.out.2.2.2.2.2.2.2.1
       have hy1l:=HU.out.2.2.2.2.2.2.2.2.1
       have hy2l:=HU.out.2.2.2.2.2.2.2.2.2.1
       have p2:0<X2.length:=by omega
       have p3:0<Y1.length:=by omega
       have p1:0<X1.length:=by omega
       have p4:0<Y2.length:=by omega
       clear hx1l hx2l hy1l hy2l
       have C0:=zz (K0.out p2 p3)
       clear K0
       go_wp2_with fail
       refine C0.out.mono ?_
       rintro ee w2 ⟨rfl,S⟩
       have HS:=zz S
       clear S C0
       have C1:=zz (K1.out _ HS.out p1 p3)
       clear K1 HS
       go_wp2_with fail
       refine C1.out.mono ?_
       rintro ee w3 ⟨rfl,S⟩
       have HS:=zz S
       clear S C1
       have C2:=zz (K2.out _ HS.out p2 p4)
       clear K2 HS
       go_wp2_with fail
       refine C2.out.mono ?_
       rintro ee w4 ⟨rfl,S⟩
       have HS:=zz S
       clear S C2
       go_wp2_with fail
       go_end0
       exact⟨rfl,by simpa using HS.out⟩
      ·have f1 :  (s:Int)<(m:Int):=by omega
       have f2 :  (m:Int)<(e:Int):=by omega
       have f3 :  (a:Int)<(s:Int):=by omega
       have f4 :  (s:Int)<(d:Int):=by omega
       have f5 :  (d:Int)<(e:Int):=by omega
       have f6:¬ (e:Int)<(b:Int):=by omega
       have hx1l:=HU.out.2.2.2.2.2.2.1
       have hx2l:=HU.out.2.2.2.2.2.2.2.1
       have hy1l:=HU.out.2.2.2.2.2.2.2.2.1
       have hy2l:=HU.out.2.2.2.2.2.2.2.2.2.1
       obtain rfl:Y2=[]:=List.length_eq_zero_iff.1 (by omega)
       have p2:0<X2.length:=by omega
       have p3:0<Y1.length:=by omega
       have p1:0<X1.length:=by omega
       clear hx1l hx2l hy1l hy2l
       have C0:=zz (K0.out p2 p3)
       clear K0
       go_wp2_with fail
       refine C0.out.mono ?_
       rintro ee w2 ⟨rfl,S⟩
       have HS:=zz S
       clear S C0
       have C1:=zz (K1.out _ HS.out p1 p3)
       clear K1 HS
       go_wp2_with fail
       refine C1.out.mono ?_
       rintro ee w3 ⟨rfl,S⟩
       have HS:=zz S
       clear S C1
       have hs2:=HU.out.2.2.2.2.2.1
       rw [List.append_nil,up_app_nil HU.out.2.1] at hs2
       subst hs2
       clear K2
       go_wp2_with fail
       go_end0
       exact⟨rfl,by simpa using HS.out⟩
     ·skip
      by_cases h4:e<b
      ·have f1 :  (s:Int)<(m:Int):=by omega
       have f2 :  (m:Int)<(e:Int):=by omega
       have f3:¬ (a:Int)<(s:Int):=by omega
       have f4 :  (s:Int)<(d:Int):=by omega
       have f5 :  (d:Int)<(e:Int):=by omega
       have f6 :  (e:Int)<(b:Int):=by omega
       have hx1l:=HU.out.2.2.2.2.2.2.1
       have hx2l:=HU.out.2.2.2.2.2.2.2.1
       have hy1l:=HU.out.2.2.2.2.2.2.2.2.1
       have hy2l:=HU.out.2.2.2.2.2.2.2.2.2.1
       obtain rfl:X1=[]:=List.length_eq_zero_iff.1 (by omega)
       have p2:0<X2.length:=by omega
       have p3:0<Y1.length:=by omega
       have p4:0<Y2.length:=by omega
       clear hx1l hx2l hy1l hy2l
       have C0:=zz (K0.out p2 p3)
       clear K0
       go_wp2_with fail
       refine C0.out.mono ?_
       rintro ee w2 ⟨rfl,S⟩
       have HS:=zz S
       clear S C0
       have hs1:=HU.out.2.2.2.2.1
       rw [List.nil_append,up_app_nil HU.out.2.2.1] at hs1
       subst hs1
       clear K1
       have HS:=zz (show Sep w0 w2 (L.set jj (oEt (.slice (some ⟨g,0,none⟩) n cap) ((P++Y1)++(X2++(Y2++Q))))) from by simpa using HS.out)
       have C2:=zz (K2.out _ HS.out p2 p4)
       clear K2 HS
       go_wp2_with fail
       refine C2.out.mono ?_
       rintro ee w4 ⟨rfl,S⟩
       have HS:=zz S
       clear S C2
       go_wp2_with fail
       go_end0
       exact⟨rfl,by simpa using HS.out⟩
      ·have f1 :  (s:Int)<(m:Int):=by omega
       have f2 :  (m:Int)<(e:Int):=by omega
       have f3:¬ (a:Int)<(s:Int):=by omega
       have f4 :  (s:Int)<(d:Int):=by omega
       have f5 :  (d:Int)<(e:Int):=by omega
       have f6:¬ (e:Int)<(b:Int):=by omega
       have hx1l:=HU.out.2.2.2.2.2.2.1
       have hx2l:=HU.out.2.2.2.2.2.2.2.1
       have hy1l:=HU.out.2.2.2.2.2.2.2.2.1
       have hy2l:=HU.out.2.2.2.2.2.2.2.2.2.1
       obtain rfl:X1=[]:=List.length_eq_zero_iff.1 (by omega)
       obtain rfl:Y2=[]:=List.length_eq_zero_iff.1 (by omega)
       have p2:0<X2.length:=by omega
       have p3:0<Y1.length:=by omega
       clear hx1l hx2l hy1l hy2l
       have C0:=zz (K0.out p2 p3)
       clear K0
       go_wp2_with fail
       refine C0.out.mono ?_
       rintro ee w2 ⟨rfl,S⟩
       have HS:=zz S
       clear S C0
       have hs1:=HU.out.2.2.2.2.1
       rw [List.nil_append,up_app_nil HU.out.2.2.1] at hs1
       subst hs1
       clear K1
       have HS:=zz (show Sep w0 w2 (L.set jj (oEt (.slice (some ⟨g,0,none⟩) n cap) ((P++Y1)++(X2++([]++Q))))) from by simpa using HS.out)
       have hs2:=HU.out.2.2.2.2.2.1
       rw [List.append_nil,up_app_nil HU.out.2.1] at hs2
       subst hs2
       clear K2
       go_wp2_with fail
       go_end0
       exact⟨rfl,by simpa using HS.out⟩
    ·skip
     by_cases h3:a<s
     ·skip
      by_cases h4:e<b
      ·have f1 :  (s:Int)<(m:Int):=by omega
       have f2:¬ (m:Int)<(e:Int):=by omega
       have f3 :  (a:Int)<(s:Int):=by omega
       have f4:¬ (s:Int)<(d:Int):=by omega
       have f5 :  (d:Int)<(e:Int):=by omega
       have f6 :  (e:Int)<(b:Int):=by omega
       have hx1l:=HU.out.2.2.2.2.2.2.1
       have hx2l:=HU.out.2.2.2.2.2.2.2.1
       have hy1l:=HU.out.2.2.2.2.2.2.2.2.1
       have hy2l:=HU.out.2.2.2.2.2.2.2.2.2.1
       obtain rfl:Y1=[]:=List.length_eq_zero_iff.1 (by omega)
       have p2:0<X2.length:=by omega
       have p1:0<X1.length:=by omega
       have p4:0<Y2.length:=by omega
       clear hx1l hx2l hy1l hy2l
       have HS:=zz HU.out.2.2.2.2.2.2.2.2.2.2.1
       clear K0
       have HS:=zz (show Sep w0 wr (L.set jj (oEt (.slice (some ⟨g,0,none⟩) n cap) (P++(X1++([]++(X2++(Y2++Q))))))) from by simpa using HS.out)
       have hs1:=HU.out.2.2.2.2.1
       rw [List.append_nil,up_app_nil HU.out.1] at hs1
       subst hs1
       clear K1
       have HS:=zz (show Sep w0 wr (L.set jj (oEt (.slice (some ⟨g,0,none⟩) n cap) ((P++X1)++(X2++(Y2++Q))))) from by simpa using HS.out)
       have C2:=zz (K2.out _ HS.out p2 p4)
       clear K2 HS
       go_wp2_with fail
       refine C2.out.mono ?_
       rintro ee w4 ⟨rfl,S⟩
       have HS:=zz S
       clear S C2
       go_wp2_with fail
       go_end0
       exact⟨rfl,by simpa using HS.out⟩
      ·have f1 :  (s:Int)<(m:Int):=by omega
       have f2:¬ (m:Int)<(e:Int):=by omega
       have f3 :  (a:Int)<(s:Int):=by omega
       have f4:¬ (s:Int)<(d:Int):=by omega
       have f5 :  (d:Int)<(e:Int):=by omega
       have f6:¬ (e:Int)<(b:Int):=by omega
       have hx1l:=HU.out.2.2.2.2.2.2.1
       have hx2l:=HU.out.2.2.2.2.2.2.2.1
       have hy1l:=HU.out.2.2.2.2.2.2.2.2.1
       have hy2l:=HU.out.2.2.2.2.2.2.2.2.2.1
       obtain rfl:Y1=[]:=List.length_eq_zero_iff.1 (by omega)
       obtain rfl:Y2=[]:=List.length_eq_zero_iff.1 (by omega)
       have p2:0<X2.length:=by omega
       have p1:0<X1.length:=by omega
       clear hx1l hx2l hy1l hy2l
       have HS:=zz HU.out.2.2.2.2.2.2.2.2.2.2.1
       clear K0
       have HS:=zz (show Sep w0 wr (L.set jj (oEt (.slice (some ⟨g,0,none⟩) n cap) (P++(X1++([]++(X2++([]++Q))))))) from by simpa using HS.out)
       have hs1:=HU.out.2.2.2.2.1
       rw [List.append_nil,up_app_nil HU.out.1] at hs1
       subst hs1
       clear K1
       have HS:=zz (show Sep w0 wr (L.set jj (oEt (.slice (some ⟨g,0,none⟩) n cap) ((P++X1)++(X2++([]++Q))))) from by simpa using HS.out)
       have hs2:=HU.out.2.2.2.2.2.1
       rw [List.append_nil,up_app_nil HU.out.2.1] at hs2
       subst hs2
       clear K2
       go_wp2_with fail
       go_end0
       exact⟨rfl,by simpa using HS.out⟩
     ·skip
      by_cases h4:e<b
      ·have f1 :  (s:Int)<(m:Int):=by omega
       have f2:¬ (m:Int)<(e:Int):=by omega
       have f3:¬ (a:Int)<(s:Int):=by omega
       have f4:¬ (s:Int)<(d:Int):=by omega
       have f5 :  (d:Int)<(e:Int):=by omega
       have f6 :  (e:Int)<(b:Int):=by omega
       have hx1l:=HU.out.2.2.2.2.2.2.1
       have hx2l:=HU.out.2.2.2.2.2.2.2.1
       have hy1l:=HU.out.2.2.2.2.2.2.2.2.1
       have hy2l:=HU.out.2.2.2.2.2.2.2.2.2.1
       obtain rfl:Y1=[]:=List.length_eq_zero_iff.1 (by omega)
       obtain rfl:X1=[]:=List.length_eq_zero_iff.1 (by omega)
       have p2:0<X2.length:=by omega
       have p4:0<Y2.length:=by omega
       clear hx1l hx2l hy1l hy2l
       have HS:=zz HU.out.2.2.2.2.2.2.2.2.2.2.1
       clear K0
       have HS:=zz (show Sep w0 wr (L.set jj (oEt (.slice (some ⟨g,0,none⟩) n cap) (P++([]++([]++(X2++(Y2++Q))))))) from by simpa using HS.out)
       have hs1:=HU.out.2.2.2.2.1
       have hs1:[]=S1:=hs1
       subst hs1
       clear K1
       have HS:=zz (show Sep w0 wr (L.set jj (oEt (.slice (some ⟨g,0,none⟩) n cap) ((P++[])++(X2++(Y2++Q))))) from by simpa using HS.out)
       have C2:=zz (K2.out _ HS.out p2 p4)
       clear K2 HS
       go_wp2_with fail
       refine C2.out.mono ?_
       rintro ee w4 ⟨rfl,S⟩
       have HS:=zz S
       clear S C2
       go_wp2_with fail
       go_end0
       exact⟨rfl,by simpa using HS.out⟩
      ·have f1 :  (s:Int)<(m:Int):=by omega
       have f2:¬ (m:Int)<(e:Int):=by omega
       have f3:¬ (a:Int)<(s:Int):=by omega
       have f4:¬ (s:Int)<(d:Int):=by omega
       have f5 :  (d:Int)<(e:Int):=by omega
       have f6:¬ (e:Int)<(b:Int):=by omega
       have hx1l:=HU.out.2.2.2.2.2.2.1
       have hx2l:=HU.out.2.2.2.2.2.2.2.1
       have hy1l:=HU.out.2.2.2.2.2.2.2.2.1
       have hy2l:=HU.out.2.2.2.2.2.2.2.2.2.1
       obtain rfl:Y1=[]:=List.length_eq_zero_iff.1 (by omega)
       obtain rfl:X1=[]:=List.length_eq_zero_iff.1 (by omega)
       obtain rfl:Y2=[]:=List.length_eq_zero_iff.1 (by omega)
       have p2:0<X2.length:=by omega
       clear hx1l hx2l hy1l hy2l
       have HS:=zz HU.out.2.2.2.2.2.2.2.2.2.2.1
       clear K0
       have HS:=zz (show Sep w0 wr (L.set jj (oEt (.slice (some ⟨g,0,none⟩) n cap) (P++([]++([]++(X2++([]++Q))))))) from by simpa using HS.out)
       have hs1:=HU.out.2.2.2.2.1
       have hs1:[]=S1:=hs1
       subst hs1
       clear K1
       have HS:=zz (show Sep w0 wr (L.set jj (oEt (.slice (some ⟨g,0,none⟩) n cap) ((P++[])++(X2++([]++Q))))) from by simpa using HS.out)
       have hs2:=HU.out.2.2.2.2.2.1
       rw [List.append_nil,up_app_nil HU.out.2.1] at hs2
       subst hs2
       clear K2
       go_wp2_with fail
       go_end0
       exact⟨rfl,by simpa using HS.out⟩
   ·skip
    by_cases h2:s<d
    ·skip
     by_cases h3:a<s
     ·skip
      by_cases h4:e<b
      ·have f1:¬ (s:Int)<(m:Int):=by omega
       have f2 :  (m:Int)<(e:Int):=by omega
       have f3 :  (a:Int)<(s:Int):=by omega
       have f4 :  (s:Int)<(d:Int):=by omega
       have f5:¬ (d:Int)<(e:Int):=by omega
       have f6 :  (e:Int)<(b:Int):=by omega
       have hx1l:=HU.out.2.2.2.2.2.2.1
       have hx2l:=HU.out.2.2.2.2.2.2.2.1
       have hy1l:=HU.out.2.2.2.2.2.2.2.2.1
       have hy2l:=HU.out.2.2.2.2.2.2.2.2.2.1
       obtain rfl:X2=[]:=List.length_eq_zero_iff.1 (by omega)
       have p3:0<Y1.length:=by omega
       have p1:0<X1.length:=by omega
       have p4:0<Y2.length:=by omega
       clear hx1l hx2l hy1l hy2l
       have HS:=zz HU.out.2.2.2.2.2.2.2.2.2.2.1
       clear K0
       have HS:=zz (show Sep w0 wr (L.set jj (oEt (.slice (some ⟨g,0,none⟩) n cap) (P++(X1++(Y1++([]++(Y2++Q))))))) from by simpa using HS.out)
       have C1:=zz (K1.out _ HS.out p1 p3)
       clear K1 HS
       go_wp2_with fail
       refine C1.out.mono ?_
       rintro ee w3 ⟨rfl,S⟩
       have HS:=zz S
       clear S C1
       have hs2:=HU.out.2.2.2.2.2.1
       rw [List.nil_append,up_app_nil HU.out.2.2.2.1] at hs2
       subst hs2
       clear K2
       go_wp2_with fail
       go_end0
       exact⟨rfl,by simpa using HS.out⟩
      ·omega
     ·skip
      by_cases h4:e<b
      ·have f1:¬ (s:Int)<(m:Int):=by omega
       have f2 :  (m:Int)<(e:Int):=by omega
       have f3:¬ (a:Int)<(s:Int):=by omega
       have f4 :  (s:Int)<(d:Int):=by omega
       have f5:¬ (d:Int)<(e:Int):=by omega
       have f6 :  (e:Int)<(b:Int):=by omega
       have hx1l:=HU.out.2.2.2.2.2.2.1
       have hx2l:=HU.out.2.2.2.2.2.2.2.1
       have hy1l:=HU.out.2.2.2.2.2.2.2.2.1
       have hy2l:=HU.out.2.2.2.2.2.2.2.2.2.1
       obtain rfl:X2=[]:=List.length_eq_zero_iff.1 (by omega)
       obtain rfl:X1=[]:=List.length_eq_zero_iff.1 (by omega)
       have p3:0<Y1.length:=by omega
       have p4:0<Y2.length:=by omega
       clear hx1l hx2l hy1l hy2l
       have HS:=zz HU.out.2.2.2.2.2.2.2.2.2.2.1
       clear K0
       have HS:=zz (show Sep w0 wr (L.set jj (oEt (.slice (some ⟨g,0,none⟩) n cap) (P++([]++(Y1++([]++(Y2++Q))))))) from by simpa using HS.out)
       have hs1:=HU.out.2.2.2.2.1
       rw [List.nil_append,up_app_nil HU.out.2.2.1] at hs1
       subst hs1
       clear K1
       have HS:=zz (show Sep w0 wr (L.set jj (oEt (.slice (some ⟨g,0,none⟩) n cap) ((P++Y1)++([]++(Y2++Q))))) from by simpa using HS.out)
       have hs2:=HU.out.2.2.2.2.2.1
       rw [List.nil_append,up_app_nil HU.out.2.2.2.1] at hs2
       subst hs2
       clear K2
       go_wp2_with fail
       go_end0
       exact⟨rfl,by simpa using HS.out⟩
      ·omega
    ·skip
     by_cases h3:a<s
     ·skip
      by_cases h4:e<b
      ·have f1:¬ (s:Int)<(m:Int):=by omega
       have f2:¬ (m:Int)<(e:Int):=by omega
       have f3 :  (a:Int)<(s:Int):=by omega
       have f4:¬ (s:Int)<(d:Int):=by omega
       have f5:¬ (d:Int)<(e:Int):=by omega
       have f6 :  (e:Int)<(b:Int):=by omega
       have hx1l:=HU.out.2.2.2.2.2.2.1
       have hx2l:=HU.out.2.2.2.2.2.2.2.1
       have hy1l:=HU.out.2.2.2.2.2.2.2.2.1
       have hy2l:=HU.out.2.2.2.2.2.2.2.2.2.1
       obtain rfl:X2=[]:=List.length_eq_zero_iff.1 (by omega)
       obtain rfl:Y1=[]:=List.length_eq_zero_iff.1 (by omega)
       have p1:0<X1.length:=by omega
       have p4:0<Y2.length:=by omega
       clear hx1l hx2l hy1l hy2l
       have HS:=zz HU.out.2.2.2.2.2.2.2.2.2.2.1
       clear K0
       have HS:=zz (show Sep w0 wr (L.set jj (oEt (.slice (some ⟨g,0,none⟩) n cap) (P++(X1++([]++([]++(Y2++Q))))))) from by simpa using HS.out)
       have hs1:=HU.out.2.2.2.2.1
       rw [List.append_nil,up_app_nil HU.out.1] at hs1
       subst hs1
       clear K1
       have HS:=zz (show Sep w0 wr (L.set jj (oEt (.slice (some ⟨g,0,none⟩) n cap) ((P++X1)++([]++(Y2++Q))))) from by simpa using HS.out)
       have hs2:=HU.out.2.2.2.2.2.1
       rw [List.nil_append,up_app_nil HU.out.2.2.2.1] at hs2
       subst hs2
       clear K2
       go_wp2_with fail
       go_end0
       exact⟨rfl,by simpa using HS.out⟩
      ·omega
     ·skip
      by_cases h4:e<b
      ·have f1:¬ (s:Int)<(m:Int):=by omega
       have f2:¬ (m:Int)<(e:Int):=by omega
       have f3:¬ (a:Int)<(s:Int):=by omega
       have f4:¬ (s:Int)<(d:Int):=by omega
       have f5:¬ (d:Int)<(e:Int):=by omega
       have f6 :  (e:Int)<(b:Int):=by omega
       have hx1l:=HU.out.2.2.2.2.2.2.1
       have hx2l:=HU.out.2.2.2.2.2.2.2.1
       have hy1l:=HU.out.2.2.2.2.2.2.2.2.1
       have hy2l:=HU.out.2.2.2.2.2.2.2.2.2.1
       obtain rfl:X2=[]:=List.length_eq_zero_iff.1 (by omega)
       obtain rfl:Y1=[]:=List.length_eq_zero_iff.1 (by omega)
       obtain rfl:X1=[]:=List.length_eq_zero_iff.1 (by omega)
       have p4:0<Y2.length:=by omega
       clear hx1l hx2l hy1l hy2l
       have HS:=zz HU.out.2.2.2.2.2.2.2.2.2.2.1
       clear K0
       have HS:=zz (show Sep w0 wr (L.set jj (oEt (.slice (some ⟨g,0,none⟩) n cap) (P++([]++([]++([]++(Y2++Q))))))) from by simpa using HS.out)
       have hs1:=HU.out.2.2.2.2.1
       have hs1:[]=S1:=hs1
       subst hs1
       clear K1
       have HS:=zz (show Sep w0 wr (L.set jj (oEt (.slice (some ⟨g,0,none⟩) n cap) ((P++[])++([]++(Y2++Q))))) from by simpa using HS.out)
       have hs2:=HU.out.2.2.2.2.2.1
       rw [List.nil_append,up_app_nil HU.out.2.2.2.1] at hs2
       subst hs2
       clear K2
       go_wp2_with fail
       go_end0
       exact⟨rfl,by simpa using HS.out⟩
      ·omega
def blk (k:Nat) (l:List Et):List Et:=if _h:k=0∨l.length<k then sortN l else sortN (l.take k)++blk k (l.drop k)
termination_by l.length
decreasing_by rw [List.length_drop]; omega
theorem blk_few {k:Nat} {l:List Et} (h:l.length<k):blk k l=sortN l:=by rw [blk,dif_pos (.inr h)]
theorem blk_more {k:Nat} {A B:List Et} (hk:0<k) (h:A.length=k):blk k (A++B)=sortN A++blk k B:=by
 rw [blk,dif_neg (by rw [List.length_append]; omega),←h,List.take_left,List.drop_left]
theorem blk_len (k:Nat):∀ (n:Nat) (l:List Et),l.length≤n→(blk k l).length=l.length
 | 0,l,h=>by
  rw [blk]
  split
  ·exact sortN_len l
  ·omega
 | n+1,l,h=>by
  rw [blk]
  split
  ·exact sortN_len l
  ·rename_i h2
   rw [List.length_append,sortN_len,blk_len k n _ (by rw [List.length_drop]; omega),List.length_take,List.length_drop]
   omega
theorem sortN_nil:sortN []=[]:=rfl
theorem sort_two {A B:List Et} (hd:ndE (A++B)):sortN (sortN A++sortN B)=sortN (A++B):=
 sym_eq (ndE_perm ((sortN_perm A).append (sortN_perm B)).symm hd) (sortN_strict hd) ((sortN_perm _).trans ((sortN_perm A).append (sortN_perm B)).symm)
theorem split_at {l:List Et} {k:Nat} (h:k≤l.length):∃ A B,l=A++B∧A.length=k∧B.length=l.length - k:=⟨l.take k,l.drop k,by rw [List.take_append_drop],by rw [List.length_take]; omega,List.length_drop⟩
theorem blk_small {k:Nat} {l:List Et} (h0:0<k) (h:l.length≤k):blk k l=sortN l:=by
 rcases Nat.lt_or_ge l.length k with q | q
 ·exact blk_few q
 ·have:=blk_more (A:=l) (B:=[]) h0 (by omega)
  rw [List.append_nil] at this
  rw [this,blk_few (by simpa using h0),sortN_nil,List.append_nil]
theorem stable2_walk (w0 w:World) (L:List Ob) (jj:Nat) (v:Value) (l:List Et) (S:Sep w0 w L) (hj:L[jj]? = some (oEt v l)) (hl:l.length≤1000) (hd:ndE l) :
  Calls Tryz.prog 137 #[v,.int .i64 l.length,.func (.func 102) #[] #[]] w fun e w'=>e=.returned (.tuple #[])∧Sep w0 w' (L.set jj (oEt v (sortN l))):=by
 obtain⟨n,hn⟩:∃ n,l.length=n:=⟨_,rfl⟩
 have hown:w.ownsRow 0 125 2 v l.length (etC l):=S.get jj hj
 obtain⟨ao,cap,rfl⟩:=row_slice hown
 have hjl:jj<L.length:=(List.getElem?_eq_some_iff.1 hj).1
 have hL9:L.set jj (oEt (.slice ao n cap) l)=L:=by rw [←hn]; exact set_self hj
 obtain⟨R,hR⟩:∃ R,sortN l=R:=⟨_,rfl⟩
 obtain⟨B20,hB20⟩:∃ B,blk 20 l=B:=⟨_,rfl⟩
 have HI:=zz (fun W (Pre M Post:List Et) (S:Sep w0 W (L.set jj (oEt (.slice ao n cap) (Pre++(M++Post))))) (h9:(Pre++(M++Post)).length=n) (a b:Nat) (ha:Pre.length=a) (hb:a+M.length=b)=>ins2_walk w0 W _ jj (.slice ao n cap) Pre M Post S (List.getElem?_set_self hjl) (by omega) a b ha hb)
 have HM:=zz (fun W (P X Y Q:List Et) (S:Sep w0 W (L.set jj (oEt (.slice ao n cap) (P++(X++(Y++Q)))))) (h9:(P++(X++(Y++Q))).length=n) (a m b:Nat) (ha:P.length=a) (hm:a+X.length=m) (hb:m+Y.length=b) (h1:0<X.length) (h2:0<Y.length) (hX:upE X) (hY:upE Y) (hd2:ndE (X++Y))=>sym_walk _ w0 W _ jj (.slice ao n cap) P X Y Q S (List.getElem?_set_self hjl) (by omega) a m b ha hm hb h1 h2 hX hY hd2 (Nat.le_refl _))
 simp only [List.set_set] at HI HM
 have HH:=zz6 ⟨S,hn,hL9,hR,hB20,hd⟩
 rw [hn] at hl ⊢
 rw [hR]
 clear S hj hown hn hL9 hR hB20 hd
 go_enter Tryz.func137,Tryz.ntmps137
 go_wp2_with fail
 go_loopg [7,8] n (fun gg av bv wr=>∃ (a:Nat) (D rest:List Et),gg+a=n∧av=.int .i64 a∧bv=.int .i64 ((a:Int)+20)∧D.length=a∧a+rest.length=n∧D++blk 20 rest=B20∧Sep w0 wr (L.set jj (oEt (.slice ao n cap) (D++rest))))
 case atStart=>
  refine⟨0,[],l,by omega,rfl,rfl,rfl,by rw [Nat.zero_add]; exact HH.out.2.1,HH.out.2.2.2.2.1,?_⟩
  rw [List.nil_append,HH.out.2.2.1]
  exact HH.out.1
 case round=>
  obtain⟨a,D,rest,hga,rfl,rfl,hD,hr,hB,S⟩:=hrel
  by_cases h20:20≤rest.length
  ·have hz:(a:Int)+20≤(n:Int):=by omega
   obtain⟨M,Q,rfl,hM,hQ⟩:=split_at h20
   rw [blk_more (by omega) hM] at hB
   rw [List.length_append] at hr hQ
   have HC:=zz (HI.out wr D M Q S (by simp only [List.length_append]; omega) a (a+20) hD (by omega))
   rw [show ((a+20:Nat):Int)=(a:Int)+20 by omega] at HC
   have HB:=zz hB
   clear S hB h20
   go_wp2_with fail
   refine HC.out.mono ?_
   rintro e w2 ⟨rfl,S⟩
   have HS:=zz S
   clear S HC
   go_wp2_with fail
   go_roundg (n - (a+20))
   case measure=>omega
   case rel=>
    exact⟨a+20,D++sortN M,Q,by omega,by go_num,by go_num,by rw [List.length_append,sortN_len]; omega,by omega,by rw [←HB.out]; simp,by simpa using HS.out⟩
  ·have hz:¬ (a:Int)+20≤(n:Int):=by omega
   rw [blk_few (by omega)] at hB
   have HC:=zz (HI.out wr D rest [] (by rw [List.append_nil]; exact S) (by simp only [List.length_append,List.length_nil]; omega) a n hD hr)
   have hDB:D++(sortN rest++[])=B20:=by rw [List.append_nil]; exact hB
   rw [hDB] at HC
   clear S hB h20 hDB hr hD hga
   go_wp2_with fail
   refine HC.out.mono ?_
   rintro e w2 ⟨rfl,S⟩
   have HS:=zz S
   clear S HC
   go_wp2_with fail
   clear hz
   go_loopg [6,7,8,9] (n - 20) (fun gg kv _ _ _ wx=>∃ k:Nat,gg=n - k∧20≤k∧k≤2000∧kv=.int .i64 k∧Sep w0 wx (L.set jj (oEt (.slice ao n cap) (blk k l))))
   case atStart=>exact⟨20,rfl,by omega,by omega,rfl,by rw [HH.out.2.2.2.2.1]; exact HS.out⟩
   case round=>
    clear HS
    obtain⟨k,rfl,hk20,hk2,rfl,S⟩:=hrel
    by_cases hkn:k<n
    ·have hkz:(k:Int)<(n:Int):=by omega
     obtain⟨F,hF⟩:∃ F,blk (2*k) l=F:=⟨_,rfl⟩
     have HS:=zz2 ⟨S,hF⟩
     have HF2:=zz hF
     clear S hF
     go_wp2_with fail
     go_loopg [7,8] n (fun gg av bv wy=>∃ (a:Nat) (D rest:List Et),gg+a=n∧av=.int .i64 a∧bv=.int .i64 ((a:Int)+2*(k:Int))∧D.length=a∧a+rest.length=n∧ndE rest∧D++blk (2*k) rest=F∧Sep w0 wy (L.set jj (oEt (.slice ao n cap) (D++blk k rest))))
     case atStart=>exact⟨0,[],l,by omega,rfl,by simp,rfl,by rw [Nat.zero_add]; exact HH.out.2.1,HH.out.2.2.2.2.2,HS.out.2,HS.out.1⟩
     case round=>
      clear HS
      obtain⟨a,D,rest,hga,rfl,rfl,hD,hr,hnd,hF,S⟩:=hrel
      by_cases h2k:2*k≤rest.length
      ·have hz:(a:Int)+2*(k:Int)≤(n:Int):=by omega
       obtain⟨A,Z,rfl,hA,hZ⟩:=split_at (l:=rest) (k:=k) (by omega)
       obtain⟨B,Q,rfl,hB,hQ⟩:=split_at (l:=Z) (k:=k) (by omega)
       rw [blk_more (by omega) hA,blk_more (by omega) hB] at S
       rw [←List.append_assoc,blk_more (A:=A++B) (by omega) (by rw [List.length_append]; omega)] at hF
       have hQl:=blk_len k _ Q (Nat.le_refl _)
       simp only [List.length_append] at hr hZ hQ
       have hndAB:ndE (A++B):=ndE_sub (by rw [←List.append_assoc]; exact List.sublist_append_left _ _) hnd
       have hndQ:ndE Q:=ndE_sub (by rw [←List.append_assoc]; exact List.sublist_append_right _ _) hnd
       have hndS:ndE (sortN A++sortN B):=ndE_perm ((sortN_perm A).append (sortN_perm B)).symm hndAB
       have HC:=zz (HM.out wr D (sortN A) (sortN B) (blk k Q) S (by simp only [List.length_append,sortN_len]; omega) a (a+k) (a+2*k) hD (by rw [sortN_len]; omega) (by rw [sortN_len]; omega) (by rw [sortN_len]; omega) (by rw [sortN_len]; omega) (sortN_strict (ndE_sub (List.sublist_append_left _ _) hndAB)) (sortN_strict (ndE_sub (List.sublist_append_right _ _) hndAB)) hndS)
       rw [sort_two hndAB,show ((a+k:Nat):Int)=(a:Int)+(k:Int) by omega,show ((a+2*k:Nat):Int)=(a:Int)+2*(k:Int) by omega] at HC
       have HB:=zz2 ⟨hF,hndQ⟩
       clear S hF hnd hndAB hndQ hndS h2k hQl
       go_wp2_with fail
       refine HC.out.mono ?_
       rintro e w3 ⟨rfl,S⟩
       have HS:=zz S
       clear S HC
       go_wp2_with fail
       go_roundg (n - (a+2*k))
       case measure=>omega
       case rel=>
        exact⟨a+2*k,D++sortN (A++B),Q,by omega,by go_num,by go_num,by rw [List.length_append,sortN_len,List.length_append]; omega,by omega,HB.out.2,by rw [←HB.out.1]; simp,by simpa using HS.out⟩
      ·have hz:¬ (a:Int)+2*(k:Int)≤(n:Int):=by omega
       rw [blk_few (k:=2*k) (by omega)] at hF
       by_cases hm:a+k<n
       ·have hmz:(a:Int)+(k:Int)<(n:Int):=by omega
        obtain⟨A,B,rfl,hA,hB⟩:=split_at (l:=rest) (k:=k) (by omega)
        simp only [List.length_append] at hr hB h2k
        rw [blk_more (by omega) hA,blk_few (l:=B) (by omega)] at S
        have hndS:ndE (sortN A++sortN B):=ndE_perm ((sortN_perm A).append (sortN_perm B)).symm hnd
        have HC:=zz (HM.out wr D (sortN A) (sortN B) [] (by rw [List.append_nil]; exact S) (by simp only [List.length_append,sortN_len,List.length_nil]; omega) a (a+k) n hD (by rw [sortN_len]; omega) (by rw [sortN_len]; omega) (by rw [sortN_len]; omega) (by rw [sortN_len]; omega) (sortN_strict (ndE_sub (List.sublist_append_left _ _) hnd)) (sortN_strict (ndE_sub (List.sublist_append_right _ _) hnd)) hndS)
        rw [sort_two hnd,List.append_nil,hF,show ((a+k:Nat):Int)=(a:Int)+(k:Int) by omega] at HC
        clear S hF hnd hndS h2k hA hB hr hD
        go_wp2_with fail
        refine HC.out.mono ?_
        rintro e w3 ⟨rfl,S⟩
        have HS:=zz S
        clear S HC
        go_wp2_with fail
        go_roundg (n - 2*k)
        case measure=>omega
        case rel=>exact⟨2*k,rfl,by omega,by omega,by go_num,by rw [HF2.out]; exact HS.out⟩
       ·have hmz:¬ (a:Int)+(k:Int)<(n:Int):=by omega
        rw [blk_small (k:=k) (by omega) (by omega),hF] at S
        have HS:=zz S
        clear S hF hnd h2k hr hD
        go_wp2_with fail
        go_roundg (n - 2*k)
        case measure=>omega
        case rel=>exact⟨2*k,rfl,by omega,by omega,by go_num,by rw [HF2.out]; exact HS.out⟩
    ·have hkz:¬ (k:Int)<(n:Int):=by omega
     rw [blk_small (by omega) (by rw [HH.out.2.1]; omega),HH.out.2.2.2.1] at S
     have HS:=zz S
     clear S
     go_wp2_with fail
     go_end0
     exact⟨rfl,HS.out⟩
theorem sort2_walk (w0 w:World) (L:List Ob) (jj:Nat) (v:Value) (l:List Et) (S:Sep w0 w L) (hj:L[jj]? = some (oEt v l)) (hl:l.length≤20∨l.length≤1000∧ndE l) :
  Calls Tryz.prog 101 #[v,.func (.func 102) #[] #[]] w fun e w'=>e=.returned (.tuple #[])∧Sep w0 w' (L.set jj (oEt v (sortN l))):=by
 rcases hl with hl | ⟨hl,hd⟩
 ·exact sort_walk w0 w L jj v l S hj hl
 have HI:=zz (stable2_walk w0 w L jj v l S hj hl hd)
 have hown:w.ownsRow 0 125 2 v l.length (etC l):=S.get jj hj
 obtain⟨ao,cap,rfl⟩:=row_slice hown
 clear hown S hj hd
 go_enter Tryz.func101,Tryz.ntmps101
 go_wp2_with fail
 refine HI.out.mono ?_
 rintro e w2 ⟨rfl,S⟩
 have HS:=zz S
 clear S HI
 go_wp2_with fail
 go_end0
 exact⟨rfl,HS.out⟩
theorem rises_strict {l:List Nd}:∀ (L:List Int) (pr:Option ByteArray),risesN l pr L=true→strictF pr (pairsN l L)=true
 | [],_,_=>rfl
 | [_],_,_=>rfl
 | k::m::r,pr,h=>by
  rw [risesN,Bool.and_eq_true,Bool.and_eq_true] at h
  rw [pairsN,strictF,h.1.2,rises_strict r _ h.2]
  rfl
theorem pairs_up {l:List Nd} (his:isN l 8=true):Up (pairsN l (ndAt l 0).kids):=by
 obtain⟨hc,hk8⟩:=is_facts his
 obtain⟨h0,hn,E,D,hsh,-,hall⟩:=check_zero hc
 have e:=ndAt_nat l 0 h0
 rw [show ((0:Nat):Int)=0 from rfl] at e
 have hr:risesN l none (ndAt l 0).kids=true:=by
  have:=List.all_eq_true.1 hall _ (List.getElem_mem h0)
  rw [←e,nodeOk,hk8] at this
  simp at this
  exact this.2.2
 exact (strict_up _ none (rises_strict _ none hr)).1
theorem ents_nodup {l:List Nd} (his:isN l 8=true) (s:ByteArray):((entsN l s).map (·.1)).Nodup:=
 ((List.filter_sublist (l:=pairsN l (ndAt l 0).kids)).map (·.1)).nodup (up_nodup (pairs_up his))
theorem ents_add {l:List Nd} (his:isN l 8=true) (s:ByteArray) (t:List Nd):((entsN l s++[(s,t)]).map (·.1)).Nodup:=
 add_nodup (ents_nodup his s) (fun p hp=>by
  have:=(List.mem_filter.1 hp).2
  simpa [tl_inj] using this)
theorem name_small {s:ByteArray} (h:nameN s=0):s.size≤1000000:=by
 unfold nameN at h
 split at h
 ·cases h
 ·omega
def ValsAt (w:World) (base:Option Addr) (xs:List Value):Prop:=∀ i u,xs[i]? = some u→∃ b o,base=some ⟨b,o,none⟩∧w.cell? ⟨b,o+i,none⟩=some u
theorem ValsAt.ext {w w' : World} {base:Option Addr} {xs:List Value} (h:ValsAt w base xs) (hx:Ext [] w w'):ValsAt w' base xs:=fun i u hi=>by
 obtain⟨b,o,h1,h2⟩:=h i u hi
 exact⟨b,o,h1,hx.cell h2⟩
theorem add_zero17 (a:Addr):a.add 0=a:=by obtain⟨b,o,s⟩:=a; unfold Addr.add; split <;> simp_all
theorem add_none17 (b o k:Nat):(⟨b,o,none⟩:Addr).add k=⟨b,o+k,none⟩:=by unfold Addr.add; split <;> simp_all
def fromB (base:Option Addr) (cap k:Nat):Option Addr:=if cap=k then base else base.map (·.add k)
theorem ValsAt.from {w:World} {base:Option Addr} {xs:List Value} (h:ValsAt w base xs) {cap:Nat} (hc:xs.length≤cap) (k:Nat):ValsAt w (fromB base cap k) (xs.drop k):=fun i u hi=>by
 rw [List.getElem?_drop] at hi
 have hl:=(List.getElem?_eq_some_iff.1 hi).1
 obtain⟨b,o,rfl,h2⟩:=h (k+i) u hi
 rw [fromB,if_neg (by omega)]
 refine⟨b,o+k,by rw [Option.map_some,add_none17],?_⟩
 rw [Nat.add_assoc]
 exact h2
theorem ValsAt.upto {w:World} {base:Option Addr} {xs:List Value} (h:ValsAt w base xs) (k:Nat):ValsAt w base (xs.take k):=fun i u hi=>by
 rw [List.getElem?_take] at hi
 split at hi
 ·exact h i u hi
 ·cases hi
section
variable {P:Program}
theorem slice_from {t e:TypeId} (ht:P.underlying t=some (.slice e)) (hz:∀ w,(Go.sizeOf e).run P w=.ok 1 w) (base:Option Addr) (n cap k:Nat) (hk:k≤n) (W:World) :
  (Instr.slice t (.slice base n cap) (some (.int .i64 (k:Nat))) none none).run P W=.ok (.slice (fromB base cap k) (n - k) (cap - k)) W:=by
 simp [Instr.slice,Instr.sliceBounds,Instr.sliceBound,run_underlying ht,hz,asIntOf,hk,fromB]
theorem slice_upto {t e:TypeId} (ht:P.underlying t=some (.slice e)) (hz:∀ w,(Go.sizeOf e).run P w=.ok 1 w) (base:Option Addr) (n cap k:Nat) (hk:k≤n) (hn:n≤cap) (W:World) :
  (Instr.slice t (.slice base n cap) none (some (.int .i64 (k:Nat))) none).run P W=.ok (.slice base k cap) W:=by
 have hb:base.map (·.add 0)=base:=by cases base <;> simp [add_zero17]
 have hkc:k≤cap:=by omega
 simp [Instr.slice,Instr.sliceBounds,Instr.sliceBound,run_underlying ht,hz,asIntOf,hkc,hb]
theorem src_vals {w:World} {tx e' : TypeId} (hk:P.underlying tx=some (.slice e')) {base:Option Addr} {cap:Nat} {ys:List Value} (hy:ValsAt w base ys) (hone:∀ u∈ys,u.oneCell' = true):ys=[]∧Src P 1 tx (.slice base 0 cap) 0 [] w∨0<ys.length∧Src P 1 tx (.slice base ys.length cap) ys.length ys w:=by
 by_cases h0:ys=[]
 ·refine .inl ⟨h0,?_⟩
  cases base with
  | none=>exact Src.ofNil w hk cap
  | some a=>exact Src.ofSlice w hk a 0 cap [] rfl (fun j u h=>by simp at h) (fun u h=>by cases h)
 ·refine .inr ⟨List.length_pos_iff.2 h0,?_⟩
  obtain⟨y,hy0⟩:∃ y,ys[0]? = some y:=⟨_,List.getElem?_eq_getElem (List.length_pos_iff.2 h0)⟩
  obtain⟨b,o,rfl,-⟩:=hy 0 y hy0
  refine Src.ofSlice w hk _ _ cap ys (by rw [Nat.mul_one]) (fun j u h=>?_) hone
  obtain⟨b2,o2,he,hc⟩:=hy j u h
  cases he
  rw [add_none17]
  exact hc
theorem app_vals {w:World} {t e:TypeId} {i0:TypeInfo} {z:Value} {bytes:Nat} (ht:P.underlying t=some (.slice e)) (hi:P.info? e=some i0) (hz:i0.zero=some z) (hsize:i0.size=1) (hby:i0.bytes=bytes) (hzs:z.cells.size=1) (hbl:bytes≤64)
  {v:Value} {n:Nat} {xs:List Value} (h:w.ownsRow 0 e 1 v n xs) {base:Option Addr} {cap:Nat} {ys:List Value} (hy:ValsAt w base ys) (hone:∀ u∈ys,u.oneCell' = true) (hl:n+ys.length≤1048576) (ty:TypeId) :
  ∃ ao' cap' w',(Builtin.append_ #[t,t] ty #[v,.slice base ys.length cap]).run P w=.ok (.slice ao' (n+ys.length) cap') w'∧w'.ownsRow 0 e 1 (.slice ao' (n+ys.length) cap') (n+ys.length) (xs++ys)∧
   Ext v.ownBlock.toList w w'∧Fr w v.ownBlock.toList (Value.slice ao' (n+ys.length) cap').ownBlock.toList:=by
 obtain⟨ao,c0,rfl⟩:=row_slice h
 rcases src_vals (cap:=cap) ht hy hone with ⟨rfl,hs⟩ | ⟨h0,hs⟩
 ·have hle:n≤c0:=row_le h
  refine⟨ao,c0,w,run_append_nothing w t t ty e i0 ht hi ao n c0 hle _ (by rw [hsize]; exact hs),by simpa using h,Ext.refl _ _,Fr.refl _ _⟩
 ·have hb:(n+ys.length)*bytes≤140737488355328:=by
   have:(n+ys.length)*bytes≤1048576*64:=Nat.mul_le_mul hl hbl
   omega
  obtain⟨g,c2,w',hr,h2,h3,h4,h5⟩:=run_append_src (P:=P) w 0 t t ty e i0 z 1 bytes ht hi hz hsize hby hzs (by decide) _ _ _ h _ _ _ hs h0 (by unfold maxLen; omega) hb (by omega)
  refine⟨_,c2,w',hr,h2,⟨h3.os,h3.tape,h3.output,h3.size,fun k hk hS=>h3.block k hk (fun e=>hS (by simp [e]))⟩,fun q hq=>?_⟩
  obtain rfl:q=g:=by simpa [Value.ownBlock] using hq
  rcases h4 with h | h
  ·exact .inl (by simp [h])
  ·exact .inr (by omega)
end
theorem own_vals {w:World} {e:TypeId} {v:Value} {n:Nat} {xs:List Value} (h:w.ownsRow 0 e 1 v n xs):∃ base cap,v=.slice base n cap∧n≤cap∧ValsAt w base xs:=by
 obtain⟨ao,cap,rfl⟩:=row_slice h
 refine⟨ao,cap,rfl,row_le h,fun i u hi=>?_⟩
 have hl:=(List.getElem?_eq_some_iff.1 hi).1
 rw [h.1,Nat.mul_one] at hl
 obtain⟨g,c2,he⟩:=row_form h (by omega)
 cases he
 exact⟨g,0,rfl,by rw [Nat.zero_add]; exact row_cell h hi⟩
theorem empty_row {w:World} {e:TypeId} {k:Nat}:(w.alloc (.cells #[] e)).ownsRow 0 e k (.slice (some ⟨w.heap.size,0,none⟩) 0 0) 0 []:=
 ⟨by simp,.inr ⟨w.heap.size,0,#[],rfl,Nat.zero_le _,heap_alloc_at _,Nat.le_refl _,by unfold maxLen; omega,by simp,by simp⟩⟩
end Tr
open Go.RowKit
section
variable {P:Program} {ops:Array Oper} {C:World→Prop} {Q:Exit→Act→World→Prop}
def invB (ops:Array Oper) (m:Nat) (listed:Array Bool):Bool:=
 decide (listed.size=ops.size)&&(List.range ops.size).all (fun j=>!(listed.getD j false)||(match ops[j]? with | some o=>o.after.toList.all (fun e=>!(Region.binds .any e)||listed.getD e.on false) | none=>true))&&(List.range ops.size).all (fun t=>decide (t<m) || !(listed.getD t true))
theorem invB_inv {m:Nat} {listed:Array Bool} (h:invB ops m listed=true):HeadInv .any ops m listed:=by
 simp only [invB,Bool.and_eq_true,decide_eq_true_eq] at h
 obtain⟨⟨h1,h2⟩,h3⟩:=h
 refine⟨h1,fun j oj hj hl e he hb=>?_,fun t ht htn=>?_⟩
 ·have hjs:j<ops.size:=(Array.getElem?_eq_some_iff.1 hj).1
  have:=List.all_eq_true.1 h2 j (List.mem_range.2 hjs)
  rw [hl,hj] at this
  simp only [Bool.not_true,Bool.false_or] at this
  have:=List.all_eq_true.1 this e (Array.mem_toList_iff.2 he)
  rw [hb] at this
  simpa using this
 ·have:=List.all_eq_true.1 h3 t (List.mem_range.2 htn)
  rw [decide_eq_false (by omega),Bool.false_or] at this
  simpa using this
def moreB (ops:Array Oper) (π:List Nat) (m:Nat) (listed:Array Bool):Bool:=
 Region.noSelect ops&&decide (m<ops.size)&&Region.sinkB .any ops m&&Region.chainB .any ops m&&π.all (fun k=>decide (k<m))&&(pick ops π).all noCall&&headP .any ops π listed&&invB ops m listed
theorem anyC_more (π:List Nat) {m:Nat} (r:Nat) {late:List Oper} {listed:Array Bool} {a:Act} {w:World} (hB:moreB ops π m listed=true) (hw:C w)
  (h:wpQuiet P ops C (fun a'=>anyC P .any ops (NoPanic Q) C m (TailW P ops (NoPanic Q) m late) r (listAll π listed) a' w) (pick ops π) a) :
  anyC P .any ops (NoPanic Q) C m (TailW P ops (NoPanic Q) m late) (π.length+r) listed a w:=by
 simp only [moreB,Bool.and_eq_true,decide_eq_true_eq] at hB
 obtain⟨⟨⟨⟨⟨⟨⟨hsel,hn⟩,hs⟩,hc⟩,hlt⟩,hno⟩,hhead⟩,hinv⟩:=hB
 exact anyC_perm (P:=P) (ops:=ops) (md:=.any) (Q:=NoPanic Q) (C:=C) (m:=m) (r:=r) (L:=TailW P ops (NoPanic Q) m late) (w:=w) hw (fun _ _ _ _ _ h=>h) hsel hs hc hn
  (fun _ _ _ hL=>seqB_ready hL.1) _ (fun a' h'=>h') π listed a (fun k hk=>by simpa using List.all_eq_true.1 hlt k hk) (fun o ho=>List.all_eq_true.1 hno o ho) (invB_inv hinv) hhead rfl h
end
end Go.Proofs.YtljachhmdogkdaaGreatDoor
