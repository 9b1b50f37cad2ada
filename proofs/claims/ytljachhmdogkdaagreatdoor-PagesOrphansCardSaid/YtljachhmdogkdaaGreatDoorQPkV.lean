/-
 Texts PkV, as far as the statement needs them.
-/
import Derived.Test.YtljachhmdogkdaaGreatDoorQShA
import Derived.Test.YtljachhmdogkdaaGreatDoorQPkU
set_option maxRecDepth 100000
set_option maxHeartbeats 64000000
namespace Go.Proofs.YtljachhmdogkdaaGreatDoor
namespace Tr
open Go.RowKit
abbrev Et:=ByteArray×Option Addr×Nat×Nat
def etC (l:List Et):List Value:=l.flatMap fun p=>[.string p.1,.slice p.2.1 p.2.2.1 p.2.2.2]
theorem etC_len (T:List Et):(etC T).length=T.length*2:=by
 induction T with
 | nil=>rfl
 | cons a l ih=>rw [etC,List.flatMap_cons,List.length_append,←etC,ih]; simp; omega
theorem etC_append (T U:List Et):etC (T++U)=etC T++etC U:=by unfold etC; rw [List.flatMap_append]
theorem etC_cons (p:Et) (U:List Et):etC (p::U)=.string p.1::.slice p.2.1 p.2.2.1 p.2.2.2::etC U:=by simp [etC]
def oEt (v:Value) (l:List Et):Ob:=oSl 125 2 v l.length (etC l)
def cmpN (a b:ByteArray):Int:=Lib.compareBytes a.data.toList b.data.toList
def insR (x:Et):List Et→List Et
 | []=>[x]
 | y::R=>if cmpN x.1 y.1<0 then y::insR x R else x::y::R
def sortR:List Et→List Et→List Et
 | acc,[]=>acc
 | acc,x::r=>sortR (insR x acc) r
def sortN (l:List Et):List Et:=(sortR [] l).reverse
theorem insR_len (x:Et):∀ R,(insR x R).length=R.length+1
 | []=>rfl
 | y::R=>by unfold insR; split <;> simp [insR_len x R]
theorem sortR_len:∀ (r acc:List Et),(sortR acc r).length=acc.length+r.length
 | [],acc=>rfl
 | x::r,acc=>by rw [sortR,sortR_len r,insR_len,List.length_cons]; omega
theorem sortN_len (l:List Et):(sortN l).length=l.length:=by rw [sortN,List.length_reverse,sortR_len]; simp
theorem et_cells {w:World} {g n cap:Nat} {P Q:List Et} {x:Et} (h:w.ownsRow 0 125 2 (.slice (some ⟨g,0,none⟩) n cap) n (etC (P++x::Q))) (m:Nat) (hm:P.length=m) :
  w.cell? ⟨g,m*2,none⟩=some (.string x.1)∧w.cell? ⟨g,m*2+1,none⟩=some (.slice x.2.1 x.2.2.1 x.2.2.2)∧w.frozen? ⟨g,m*2,none⟩=false∧w.frozen? ⟨g,m*2+1,none⟩=false:=by
 subst hm
 rw [etC_append,etC_cons] at h
 have hl:(etC P).length=P.length*2:=etC_len P
 refine⟨row_cell h ?_,row_cell h ?_,row_free h _,row_free h _⟩
 ·rw [List.getElem?_append_right (by omega),hl,Nat.sub_self]; rfl
 ·rw [List.getElem?_append_right (by omega),hl,show P.length*2+1 - P.length*2=1 by omega]; rfl
theorem set4:∀ (A T:List Value) (a b c d a' b' c' d' : Value),((((A++a::b::c::d::T).set (A.length+2) c').set (A.length+3) d').set A.length a').set (A.length+1) b' = A++a' :: b' :: c' :: d' :: T
 | [],_,_,_,_,_,_,_,_,_=>rfl
 | z::A,T,a,b,c,d,a',b',c',d'=>by
  have:=set4 A T a b c d a' b' c' d'
  rw [List.cons_append,List.length_cons,show A.length+1+2=A.length+2+1 by omega,show A.length+1+3=A.length+3+1 by omega,List.set_cons_succ,List.set_cons_succ,List.set_cons_succ,List.set_cons_succ,this]
  rfl
theorem et_swap {w:World} {g n cap:Nat} {P Q:List Et} {x y:Et} (h:w.ownsRow 0 125 2 (.slice (some ⟨g,0,none⟩) n cap) n (etC (P++y::x::Q))) (m:Nat) (hm:P.length=m) :
  ((((w.setCell ⟨g,(m+1)*2,none⟩ (.string y.1)).setCell ⟨g,(m+1)*2+1,none⟩ (.slice y.2.1 y.2.2.1 y.2.2.2)).setCell ⟨g,m*2,none⟩ (.string x.1)).setCell ⟨g,m*2+1,none⟩ (.slice x.2.1 x.2.2.1 x.2.2.2)).ownsRow 0 125 2 (.slice (some ⟨g,0,none⟩) n cap) n (etC (P++x::y::Q)):=by
 subst hm
 rw [show (P.length+1)*2=P.length*2+2 by omega]
 have h2:=row_put (row_put (row_put (row_put (i:=P.length*2+2) h (.string y.1)) (i:=P.length*2+3) (.slice y.2.1 y.2.2.1 y.2.2.2)) (i:=P.length*2) (.string x.1)) (i:=P.length*2+1) (.slice x.2.1 x.2.2.1 x.2.2.2)
 rw [etC_append,etC_cons,etC_cons,←etC_len P,set4] at h2
 rw [etC_append,etC_cons,etC_cons,←etC_len P]
 exact h2
theorem cmp_walk (a b:ByteArray) (va vb:Value) (w:World):Calls Tryz.prog 102 #[.agg #[.string a,va],.agg #[.string b,vb]] w fun e w'=>e=.returned (.int .i64 (cmpN a b))∧Ext [] w w':=by
 have H:=zz (fun w=>Tryz.strings_Compare a b w)
 go_enter Tryz.func102,Tryz.ntmps102
 go_wp2_with fail
 refine (H.out _).mono ?_
 rintro e w' ⟨rfl,rfl⟩
 go_wp2_with fail
 go_ret
 exact⟨rfl,((Ext.refl [] w).alloc _).alloc _⟩
theorem ins_walk (w0 w:World) (L:List Ob) (jj:Nat) (v:Value) (l:List Et) (S:Sep w0 w L) (hj:L[jj]? = some (oEt v l)) (hl:l.length≤1000) :
  Calls Tryz.prog 156 #[v,.int .i64 0,.int .i64 l.length,.func (.func 102) #[] #[]] w fun e w'=>e=.returned (.tuple #[])∧Sep w0 w' (L.set jj (oEt v (sortN l))):=by
 obtain⟨n,hn⟩:∃ n,l.length=n:=⟨_,rfl⟩
 obtain⟨R,hR⟩:∃ R,sortR [] l=R:=⟨_,rfl⟩
 have hRl:R.length=n:=by rw [←hR,sortR_len,hn]; simp
 have hown:w.ownsRow 0 125 2 v l.length (etC l):=S.get jj hj
 obtain⟨ao,cap,rfl⟩:=row_slice hown
 have hjl:jj<L.length:=(List.getElem?_eq_some_iff.1 hj).1
 have HH:=zz5 ⟨S,hj,hn,hR,hRl⟩
 rw [hn] at hl ⊢
 rw [show sortN l=R.reverse by rw [sortN,hR]]
 clear S hj hR hRl hown
 by_cases h0:n=0
 ·have hl0:l=[]:=List.length_eq_zero_iff.1 (by omega)
  have hnz:(n:Int)≤1:=by omega
  go_enter Tryz.func156,Tryz.ntmps156
  go_wp2_with fail
  go_loopg [8,9] 0 (fun _ iv v9 wr=>iv=.int .i64 1∧w=wr)
  case atStart=>exact⟨rfl,rfl⟩
  case round=>
  obtain⟨rfl,rfl⟩:=hrel
  go_wp2_with fail
  go_end0
  refine⟨rfl,?_⟩
  have hr:R=[]:=List.length_eq_zero_iff.1 (by rw [HH.out.2.2.2.2]; exact h0)
  have h1:=HH.out.2.1
  rw [HH.out.2.2.1,hl0] at h1
  rw [hr]
  show Sep w0 w (L.set jj (oEt (.slice ao n cap) []))
  rw [show L.set jj (oEt (Value.slice ao n cap) [])=L from by obtain⟨q,q2⟩:=List.getElem?_eq_some_iff.1 h1; rw [←q2]; exact List.set_getElem_self q]
  exact HH.out.1
 obtain⟨g,cap,he⟩:=row_form (HH.out.1.get jj HH.out.2.1:w.ownsRow 0 125 2 (.slice ao l.length cap) l.length (etC l)) (by omega)
 cases he
 obtain _ | ⟨x0,l⟩:=l
 ·exact absurd hn.symm h0
 go_enter Tryz.func156,Tryz.ntmps156
 go_wp2_with fail
 go_loopg [8,9] n (fun gg iv v9 wr=>∃ (i:Nat) (A rest:List Et),gg+i=n+1∧iv=.int .i64 i∧A.length=i∧1≤i∧sortR A rest=R∧(A.reverse++rest).length=n∧Sep w0 wr (L.set jj (oEt (.slice (some ⟨g,0,none⟩) n cap) (A.reverse++rest))))
 case atStart=>
  refine⟨1,[x0],l,by omega,rfl,rfl,by omega,HH.out.2.2.2.1,hn,?_⟩
  rw [show [x0].reverse++l=x0::l from rfl,←hn,set_self HH.out.2.1]
  exact HH.out.1
 case round=>
  obtain⟨i,A,rest,hgi,rfl,hA,h1,hR,hlen,S⟩:=hrel
  by_cases hlt:i<n
  ·obtain⟨gg,rfl⟩:∃ gg,gk=gg+1:=⟨gk - 1,by omega⟩
   have hltz:(i:Int)<(n:Int):=by omega
   obtain _ | ⟨x,rest⟩:=rest
   ·rw [List.append_nil,List.length_reverse] at hlen; omega
   rw [sortR] at hR
   obtain⟨B,hB⟩:∃ B,insR x A=B:=⟨_,rfl⟩
   rw [hB] at hR
   have HS:=zz5 ⟨S,hR,hlen,hA,hB⟩
   clear S hR hlen hA hB
   go_wp2_with fail
   go_loopg [9] i (fun g2 jv wx=>∃ (A1 Q:List Et),g2=A1.length∧jv=.int .i64 (A1.length:Nat)∧A1.length≤i∧Q.reverse++insR x A1=B∧(A1.reverse++x::(Q++rest)).length=n∧Sep w0 wx (L.set jj (oEt (.slice (some ⟨g,0,none⟩) n cap) (A1.reverse++x::(Q++rest)))))
   case atStart=>exact⟨A,[],by rw [HS.out.2.2.2.1],by rw [HS.out.2.2.2.1],by rw [HS.out.2.2.2.1]; omega,HS.out.2.2.2.2,HS.out.2.2.1,HS.out.1⟩
   case round=>
    obtain⟨A1,Q,rfl,rfl,hA1,hQ,hlen,S⟩:=hrel
    obtain _ | ⟨y,A1⟩:=A1
    ·have HX:=zz3 ⟨hQ,S,hlen⟩
     clear hQ S hlen
     rw [show (([]:List Et).length:Nat)=0 from rfl]
     have hjf:decide ((0:Int)<((0:Nat):Int))=false:=by decide
     go_upto_region 4 with (fail)
     go_quiet (fail)
     go_wp2_with fail
     go_roundg gg
     case measure=>omega
     case rel=>
      obtain⟨hQ,S,hlen⟩:=HX.out
      have hBr:B.reverse=x::Q:=by rw [←hQ]; simp [insR]
      refine⟨i+1,B,rest,by omega,by go_num,by rw [←HS.out.2.2.2.2,insR_len,HS.out.2.2.2.1],by omega,HS.out.2.1,by rw [hBr]; exact hlen,?_⟩
      rw [hBr]
      exact S.quiet ((Ext.refl [] wr).drewN _)
    ·obtain⟨m,hm⟩:∃ m,A1.length=m:=⟨_,rfl⟩
     have hown:wr.ownsRow 0 125 2 (.slice (some ⟨g,0,none⟩) n cap) n (etC (A1.reverse++y::x::(Q++rest))):=by
      have h1:=S.get jj (List.getElem?_set_self hjl)
      have h2:wr.ownsRow 0 125 2 (.slice (some ⟨g,0,none⟩) n cap) ((y::A1).reverse++x::(Q++rest)).length (etC ((y::A1).reverse++x::(Q++rest))):=h1
      rw [hlen,List.reverse_cons,List.append_assoc] at h2
      exact h2
     obtain⟨y1,y2,y3,y4⟩:=et_cells hown m (by rw [List.length_reverse,hm])
     have hown2:=hown
     rw [show A1.reverse++y::x::(Q++rest)=(A1.reverse++[y])++x::(Q++rest) by simp] at hown2
     obtain⟨x1,x2,x3,x4⟩:=et_cells hown2 (m+1) (by rw [List.length_append,List.length_reverse,hm]; rfl)
     have hjl2:(y::A1).length=m+1:=by rw [List.length_cons,hm]
     rw [hjl2]
     have hm9:m+1<n:=by rw [←hlen]; simp [hm]
     have HX:=zz6 ⟨hQ,S,hlen,hown,hm,hA1⟩
     clear hQ S hlen hown hown2 hm hA1 hjl2
     have hjd:decide ((0:Int)<(m:Int)+1)=true:=decide_eq_true (by omega)
     have hmz:(m:Int)<(n:Int):=by omega
     have hmz2:(m:Int)+1<(n:Int):=by omega
     have c1:∀ V:Ex wr,V.w.cell? ⟨g,m*2,none⟩=some (.string y.1):=fun V=>V.cell y1
     have c2:∀ V:Ex wr,V.w.cell? ⟨g,m*2+1,none⟩=some (.slice y.2.1 y.2.2.1 y.2.2.2):=fun V=>V.cell y2
     have c3:∀ V:Ex wr,V.w.cell? ⟨g,(m+1)*2,none⟩=some (.string x.1):=fun V=>V.cell x1
     have c4:∀ V:Ex wr,V.w.cell? ⟨g,(m+1)*2+1,none⟩=some (.slice x.2.1 x.2.2.1 x.2.2.2):=fun V=>V.cell x2
     have HC:=zz8 ⟨y1,y2,y3,y4,x1,x2,x3,x4⟩
     clear y1 y2 y3 y4 x1 x2 x3 x4
     go_upto_region 4 with (fail)
     refine wp_region_ext (by kernel_rfl) (by kernel_rfl) ?_
     repeat (go_big_quiet_step (first | (go_at_call 102; refine Calls.ext_of (cmp_walk _ _ _ _ _))))
     refine wpQuiet_nil ?_
     rintro _ ⟨V,rfl⟩
     obtain⟨z,hz⟩:∃ z,cmpN x.1 y.1=z:=⟨_,rfl⟩
     have hQ:=HX.out.1
     rw [insR,hz] at hQ
     rw [hz]
     have V2:=V.ext
     clear c1 c2 c3 c4 hz
     obtain⟨y1,y2,y3,y4,x1,x2,x3,x4⟩:=HC.out
     have y3:=V.free y1 y3
     have y4:=V.free y2 y4
     have x3:=V.free x1 x3
     have x4:=V.free x2 x4
     have y1:=V.cell y1
     have y2:=V.cell y2
     have x1:=V.cell x1
     have x2:=V.cell x2
     generalize V.w=U at *
     by_cases h0z:z<0
     ·rw [if_pos h0z] at hQ
      have HQ:=zz2 ⟨hQ,V2⟩
      clear hQ V2 HC
      go_upto_region 6 with (fail)
      go_region
      go_wp2_with fail
      go_roundg A1.length
      case measure=>simp
      case rel=>
       obtain⟨hQ,hV⟩:=HQ.out
       have hU:=ownsRow_ext HX.out.2.2.2.1 hV (by simp)
       have hsw:=et_swap hU m (by rw [List.length_reverse,HX.out.2.2.2.2.1])
       have hlen2:(A1.reverse++x::y::(Q++rest)).length=n:=by
        have:=HX.out.2.2.1
        simp only [List.length_append,List.length_reverse,List.length_cons] at this ⊢
        omega
       have S2:=(HX.out.2.1.quiet hV).upd jj (oEt (.slice (some ⟨g,0,none⟩) n cap) (A1.reverse++x::y::(Q++rest))) (List.getElem?_set_self hjl) (((((Ext.refl _ U).setCell ⟨g,(m+1)*2,none⟩ (.string y.1) (.inl (by simp [oEt,oSl,Value.ownBlock]))).setCell ⟨g,(m+1)*2+1,none⟩ (.slice y.2.1 y.2.2.1 y.2.2.2) (.inl (by simp [oEt,oSl,Value.ownBlock]))).setCell ⟨g,m*2,none⟩ (.string x.1) (.inl (by simp [oEt,oSl,Value.ownBlock]))).setCell ⟨g,m*2+1,none⟩ (.slice x.2.1 x.2.2.1 x.2.2.2) (.inl (by simp [oEt,oSl,Value.ownBlock]))) (Fr.refl _ _) (by
        show World.ownsRow _ 0 125 2 _ (A1.reverse++x::y::(Q++rest)).length _
        rw [hlen2]
        exact hsw)
       rw [List.set_set] at S2
       refine⟨A1,y::Q,rfl,?_,?_,?_,hlen2,S2.quiet ((Ext.refl _ _).drew)⟩
       ·rw [HX.out.2.2.2.2.1]
       ·have:=HX.out.2.2.2.2.2; simp only [List.length_cons] at this; omega
       ·rw [←hQ]; simp
     ·rw [if_neg h0z] at hQ
      have HQ:=zz2 ⟨hQ,V2⟩
      clear hQ V2 HC y1 y2 y3 y4 x1 x2 x3 x4
      go_wp2_with fail
      go_roundg gg
      case measure=>omega
      case rel=>
       obtain⟨hQ,hV⟩:=HQ.out
       have hBr:B.reverse=(y::A1).reverse++x::Q:=by rw [←hQ]; simp
       refine⟨i+1,B,rest,by omega,by go_num,by rw [←HS.out.2.2.2.2,insR_len,HS.out.2.2.2.1],by omega,HS.out.2.1,?_,?_⟩
       ·rw [hBr,List.append_assoc]; exact HX.out.2.2.1
       ·rw [hBr,List.append_assoc]; exact HX.out.2.1.quiet hV
  ·obtain rfl:i=n:=by
    have:A.length+rest.length=n:=by rw [←hlen,List.length_append,List.length_reverse]
    omega
   have hr0:rest=[]:=List.length_eq_zero_iff.1 (by
    have:A.length+rest.length=i:=by rw [←hlen,List.length_append,List.length_reverse]
    omega)
   subst hr0
   rw [sortR] at hR
   subst hR
   rw [List.append_nil] at S
   have HS:=zz S
   clear S hlen hA h1
   go_wp2_with fail
   go_end0
   exact⟨rfl,HS.out⟩
theorem ins_none (w:World) (v:Value) (a:Nat) (ha:a≤1000) :
  Calls Tryz.prog 156 #[v,.int .i64 a,.int .i64 a,.func (.func 102) #[] #[]] w fun e w'=>e=.returned (.tuple #[])∧w' = w:=by
 go_enter Tryz.func156,Tryz.ntmps156
 go_wp2_with fail
 go_loopg [8,9] 0 (fun _ iv v9 wr=>iv=.int .i64 ((a:Int)+1)∧w=wr)
 case atStart=>exact⟨rfl,rfl⟩
 case round=>
  obtain⟨rfl,rfl⟩:=hrel
  have hf:¬ (a:Int)+1<(a:Int):=by omega
  go_wp2_with fail
  go_end0
  exact⟨rfl,rfl⟩
theorem stable_walk (w0 w:World) (L:List Ob) (jj:Nat) (v:Value) (l:List Et) (S:Sep w0 w L) (hj:L[jj]? = some (oEt v l)) (hl:l.length≤20) :
  Calls Tryz.prog 137 #[v,.int .i64 l.length,.func (.func 102) #[] #[]] w fun e w'=>e=.returned (.tuple #[])∧Sep w0 w' (L.set jj (oEt v (sortN l))):=by
 have HI:=zz (ins_walk w0 w L jj v l S hj (by omega))
 have hown:w.ownsRow 0 125 2 v l.length (etC l):=S.get jj hj
 obtain⟨ao,cap,rfl⟩:=row_slice hown
 clear hown S hj
 obtain⟨n,hn⟩:∃ n,l.length=n:=⟨_,rfl⟩
 rw [hn] at hl HI ⊢
 by_cases h20:n=20
 ·subst h20
  have HN:=zz (fun w=>ins_none w (.slice ao 20 cap) 20 (by omega))
  clear hl
  go_enter Tryz.func137,Tryz.ntmps137
  go_wp2_with fail
  go_loopg [7,8] 2 (fun g av bv wr=>(g=2∧av=.int .i64 0∧bv=.int .i64 20∧w=wr)∨(g=1∧av=.int .i64 20∧bv=.int .i64 40∧Sep w0 wr (L.set jj (oEt (.slice ao 20 cap) (sortN l)))))
  case atStart=>exact .inl ⟨rfl,rfl,rfl,rfl⟩
  case round=>
   rcases hrel with ⟨rfl,rfl,rfl,rfl⟩ | ⟨rfl,rfl,rfl,S⟩
   ·go_wp2_with fail
    refine HI.out.mono ?_
    rintro e w2 ⟨rfl,S⟩
    have HS:=zz S
    clear S HI
    go_wp2_with fail
    go_roundg 1
    case measure=>omega
    case rel=>exact .inr ⟨rfl,rfl,rfl,HS.out⟩
   ·have HS:=zz S
    clear S
    go_wp2_with fail
    refine (HN.out _).mono ?_
    rintro e w2 ⟨rfl,rfl⟩
    go_wp2_with fail
    go_loopg [6,7,8,9] 0 (fun _ s6 _ _ _ wx=>s6=.int .i64 20∧wx=w2)
    case atStart=>exact⟨rfl,rfl⟩
    case round=>
     obtain⟨rfl,rfl⟩:=hrel
     go_wp2_with fail
     go_end0
     exact⟨rfl,HS.out⟩
 ·have hlt:¬ (20:Int)≤(n:Int):=by omega
  have hlt2:¬ (20:Int)<(n:Int):=by omega
  go_enter Tryz.func137,Tryz.ntmps137
  go_wp2_with fail
  go_loopg [7,8] 0 (fun _ av bv wr=>av=.int .i64 0∧bv=.int .i64 20∧w=wr)
  case atStart=>exact⟨rfl,rfl,rfl⟩
  case round=>
   obtain⟨rfl,rfl,rfl⟩:=hrel
   go_wp2_with fail
   refine HI.out.mono ?_
   rintro e w2 ⟨rfl,S⟩
   have HS:=zz S
   clear S HI
   go_wp2_with fail
   go_loopg [6,7,8,9] 0 (fun _ s6 _ _ _ wx=>s6=.int .i64 20∧wx=w2)
   case atStart=>exact⟨rfl,rfl⟩
   case round=>
    obtain⟨rfl,rfl⟩:=hrel
    go_wp2_with fail
    go_end0
    exact⟨rfl,HS.out⟩
theorem sort_walk (w0 w:World) (L:List Ob) (jj:Nat) (v:Value) (l:List Et) (S:Sep w0 w L) (hj:L[jj]? = some (oEt v l)) (hl:l.length≤20) :
  Calls Tryz.prog 101 #[v,.func (.func 102) #[] #[]] w fun e w'=>e=.returned (.tuple #[])∧Sep w0 w' (L.set jj (oEt v (sortN l))):=by
 have HI:=zz (stable_walk w0 w L jj v l S hj hl)
 have hown:w.ownsRow 0 125 2 v l.length (etC l):=S.get jj hj
 obtain⟨ao,cap,rfl⟩:=row_slice hown
 clear hown S hj
 go_enter Tryz.func101,Tryz.ntmps101
 go_wp2_with fail
 refine HI.out.mono ?_
 rintro e w2 ⟨rfl,S⟩
 have HS:=zz S
 clear S HI
 go_wp2_with fail
 go_end0
 exact⟨rfl,HS.out⟩
def insG {α:Type} (key:α→ByteArray) (x:α):List α→List α
 | []=>[x]
 | y::R=>if cmpN (key x) (key y)<0 then y::insG key x R else x::y::R
def sortRG {α:Type} (key:α→ByteArray):List α→List α→List α
 | acc,[]=>acc
 | acc,x::r=>sortRG key (insG key x acc) r
def sortG {α:Type} (key:α→ByteArray) (l:List α):List α:=(sortRG key [] l).reverse
theorem insG_map {α β:Type} (key:β→ByteArray) (f:α→β) (x:α):∀ R:List α,insG key (f x) (R.map f)=(insG (fun a=>key (f a)) x R).map f
 | []=>rfl
 | y::R=>by
  rw [List.map_cons,insG,insG,insG_map key f x R]
  split <;> simp
theorem sortRG_map {α β:Type} (key:β→ByteArray) (f:α→β):∀ (r acc:List α),sortRG key (acc.map f) (r.map f)=(sortRG (fun a=>key (f a)) acc r).map f
 | [],acc=>rfl
 | x::r,acc=>by rw [List.map_cons,sortRG,insG_map,sortRG_map key f r,sortRG]
theorem sortG_map {α β:Type} (key:β→ByteArray) (f:α→β) (l:List α):sortG key (l.map f)=(sortG (fun a=>key (f a)) l).map f:=by
 have:=sortRG_map key f l []
 rw [List.map_nil] at this
 rw [sortG,sortG,this,List.map_reverse]
theorem insR_G (x:Et):∀ R,insR x R=insG (fun p:Et=>p.1) x R
 | []=>rfl
 | y::R=>by rw [insR,insG,insR_G x R]
theorem sortR_G:∀ (r acc:List Et),sortR acc r=sortRG (fun p:Et=>p.1) acc r
 | [],acc=>rfl
 | x::r,acc=>by rw [sortR,sortRG,insR_G,sortR_G r]
theorem sortN_G (l:List Et):sortN l=sortG (fun p:Et=>p.1) l:=by rw [sortN,sortG,sortR_G]
theorem insG_mem {α:Type} (key:α→ByteArray) (x:α):∀ (R:List α) (y:α),y∈insG key x R↔y=x∨y∈R
 | [],y=>by simp [insG]
 | z::R,y=>by
  rw [insG]
  split
  ·rw [List.mem_cons,insG_mem key x R y,List.mem_cons]
   constructor
   ·rintro (h | h | h)
    ·exact .inr (.inl h)
    ·exact .inl h
    ·exact .inr (.inr h)
   ·rintro (h | h | h)
    ·exact .inr (.inl h)
    ·exact .inl h
    ·exact .inr (.inr h)
  ·rw [List.mem_cons]
theorem sortRG_mem {α:Type} (key:α→ByteArray):∀ (r acc:List α) (y:α),y∈sortRG key acc r↔y∈acc∨y∈r
 | [],acc,y=>by simp [sortRG]
 | x::r,acc,y=>by
  rw [sortRG,sortRG_mem key r,insG_mem,List.mem_cons]
  constructor
  ·rintro ((h | h) | h)
   ·exact .inr (.inl h)
   ·exact .inl h
   ·exact .inr (.inr h)
  ·rintro (h | h | h)
   ·exact .inl (.inr h)
   ·exact .inl (.inl h)
   ·exact .inr h
theorem sortG_mem {α:Type} (key:α→ByteArray) (l:List α) (y:α):y∈sortG key l↔y∈l:=by rw [sortG,List.mem_reverse,sortRG_mem]; simp
theorem insG_len {α:Type} (key:α→ByteArray) (x:α):∀ R:List α,(insG key x R).length=R.length+1
 | []=>rfl
 | y::R=>by unfold insG; split <;> simp [insG_len key x R]
theorem sortRG_len {α:Type} (key:α→ByteArray):∀ (r acc:List α),(sortRG key acc r).length=acc.length+r.length
 | [],acc=>rfl
 | x::r,acc=>by rw [sortRG,sortRG_len key r,insG_len,List.length_cons]; omega
theorem sortG_len {α:Type} (key:α→ByteArray) (l:List α):(sortG key l).length=l.length:=by rw [sortG,List.length_reverse,sortRG_len]; simp
def nameNd (s:ByteArray):Nd:=⟨6,0,0,s,[]⟩
abbrev Ent:=ByteArray×List Nd
def likeN:Option ByteArray→ByteArray→Bool
 | none,_=>false
 | some s,t=>s.toList==t.toList
def twiceF:Option ByteArray→List Ent→Bool
 | _,[]=>false
 | p,x::r=>likeN p x.1||twiceF (some x.1) r
def allN (S:List Ent):List (List Nd):=S.flatMap fun p=>[[nameNd p.1],p.2]
def dictN (P:List Ent):List Nd×Int:=if twiceF none (sortG (·.1) P) then ([],6) else underN 8 (allN (sortG (·.1) P))
theorem name_ok {s:ByteArray} (h:nameN s=0):checkN [nameNd s]=0:=by
 have e:shapeN [nameNd s]=some ([1],[1]):=rfl
 have hb:bareN (nameNd s)=true:=by simp [bareN,nameNd,h]
 unfold checkN
 rw [e]
 simp [nodeOk,nameNd,Lib.maxOf]
 exact hb
def nmObj (s:ByteArray):Obj:=.cells #[.int .i64 6,.int .i64 0,.int .i64 0,.string s,.slice none 0 0] 41
def oNm (G:List (Nat×ByteArray)):Ob where
 F:=G.map (·.1)
 P:=fun w=>∀ p∈G,w.heap[p.1]? = some (nmObj p.2)
 ok:=fun h hx hS p hp=>hx.keep (h p hp) (hS p.1 (List.mem_map_of_mem hp))
 lt:=fun h k hk=>by
  obtain⟨p,hp,rfl⟩:=List.mem_map.1 hk
  exact lt_of_block (h p hp)
theorem nm_nodes {w:World} {g:Nat} {s:ByteArray} (h:w.heap[g]? = some (nmObj s)) (hs:s.size≤9223372036854775807):NodesAt w (.slice (some ⟨g,0,none⟩) 1 1) [nameNd s]:=
 ⟨_,1,rfl,Nat.le_refl _,fun i hi=>by
  obtain rfl:i=0:=by simpa using hi
  exact⟨g,0,rfl,cellOf h 0,cellOf h 1,cellOf h 2,cellOf h 3,⟨⟨by show (-9223372036854775808:Int)≤0; omega,by show (0:Int)≤9223372036854775807; omega⟩,hs,by show (0:Nat)≤_; omega,fun k hk=>by cases hk⟩,none,0,cellOf h 4,fun i hi=>by cases hi⟩⟩
def slC (t:Option Addr×Nat×Nat):Value:=.slice t.1 t.2.1 t.2.2
def allC:List (Nat×ByteArray)→List Et→List Value
 | g::G,e::E=>.slice (some ⟨g.1,0,none⟩) 1 1::slC e.2::allC G E
 | _,_=>[]
theorem infoNodes:(Tryz.prog.info? 31).map (fun i=>(i.zero,i.size,i.bytes))=some (some (.slice none 0 0),1,24):=by kernel_rfl
theorem allC_push (g:Nat×ByteArray) (e:Et):∀ (G:List (Nat×ByteArray)) (E:List Et),G.length=E.length→allC (G++[g]) (E++[e])=allC G E++[.slice (some ⟨g.1,0,none⟩) 1 1,slC e.2]
 | [],[],_=>rfl
 | a::G,b::E,h=>by rw [List.cons_append,List.cons_append,allC,allC_push g e G E (by simpa using h),allC]; rfl
theorem allN_cons (p:Ent) (r:List Ent):allN (p::r)=[nameNd p.1]::p.2::allN r:=rfl
theorem allN_len:∀ S:List Ent,(allN S).length=2*S.length
 | []=>rfl
 | p::r=>by rw [allN_cons,List.length_cons,List.length_cons,allN_len r,List.length_cons]; omega
theorem trees_rel {W:World}:∀ (G:List (Nat×ByteArray)) (SP:List (Et×List Nd)),G.map (·.2)=SP.map (·.1.1)→(∀ p∈G,W.heap[p.1]? = some (nmObj p.2))→(∀ p∈SP,NodesAt W (slC p.1.2) p.2∧p.1.1.size≤9223372036854775807)→
  ∀ (i:Nat) (t:List Nd),(allN (SP.map fun p=>(p.1.1,p.2)))[i]? = some t→∃ vk,(allC G (SP.map (·.1)))[i]? = some vk∧NodesAt W vk t
 | [],[],_,_,_,i,t,h=>by simp [allN] at h
 | [],p::SP,h,_,_,_,_,_=>by simp at h
 | g::G,[],h,_,_,_,_,_=>by simp at h
 | g::G,p::SP,hm,hg,hp,i,t,h=>by
  rw [List.map_cons,List.map_cons] at hm
  injection hm with hm1 hm2
  rw [List.map_cons,allN_cons] at h
  rw [List.map_cons,allC]
  match i,h with
  | 0,h=>
   simp only [List.getElem?_cons_zero,Option.some.injEq] at h ⊢
   subst h
   refine⟨_,rfl,?_⟩
   have h1:=hg g (by simp)
   rw [hm1] at h1
   exact nm_nodes h1 (hp p (by simp)).2
  | 1,h=>
   simp only [List.getElem?_cons_succ,List.getElem?_cons_zero,Option.some.injEq] at h ⊢
   subst h
   exact⟨_,rfl,(hp p (by simp)).1⟩
  | i+2,h=>
   simp only [List.getElem?_cons_succ] at h ⊢
   exact trees_rel G SP hm2 (fun q hq=>hg q (by simp [hq])) (fun q hq=>hp q (by simp [hq])) i t h
theorem trees_of {W:World} {ov:Value} {G:List (Nat×ByteArray)} {SP:List (Et×List Nd)} (hr:W.ownsRow 0 31 1 ov (2*SP.length) (allC G (SP.map (·.1)))) (hm:G.map (·.2)=SP.map (·.1.1)) (hg:∀ p∈G,W.heap[p.1]? = some (nmObj p.2))
  (hp:∀ p∈SP,NodesAt W (slC p.1.2) p.2∧p.1.1.size≤9223372036854775807):TreesAt W ov (allN (SP.map fun p=>(p.1.1,p.2))):=by
 obtain⟨ao,cap,rfl⟩:=row_slice hr
 have hl:(allN (SP.map fun p=>(p.1.1,p.2))).length=2*SP.length:=by rw [allN_len,List.length_map]
 refine⟨ao,cap,by rw [hl],by rw [hl]; exact row_le hr,fun i hi=>?_⟩
 have hi2:=hi
 rw [hl] at hi2
 obtain⟨g,c2,he⟩:=row_form hr (by omega)
 cases he
 obtain⟨vk,h1,h2⟩:=trees_rel G SP hm hg hp i _ (List.getElem?_eq_getElem hi)
 exact⟨g,0,vk,rfl,by rw [Nat.zero_add]; exact row_cell hr h1,h2⟩
theorem cells_two (w:World) (x y:Value) (t:TypeId) (f:Nat×Nat:=(0,0)):∀ j u,[x,y][j]? = some u→(w.alloc (.cells #[x,y] t f)).cell? ((⟨w.heap.size,0,none⟩:Addr).add j)=some u:=by
 intro j u h
 have e:(⟨w.heap.size,0,none⟩:Addr).add j=⟨w.heap.size,j,none⟩:=by unfold Addr.add; split <;> simp_all
 rw [e,cellOf (heap_alloc_at _),←h]
 simp
theorem cells_two2 (w:World) (O:Obj) (x y:Value) (t:TypeId) (f:Nat×Nat:=(0,0)):∀ j u,[x,y][j]? = some u→((w.alloc O).alloc (.cells #[x,y] t f)).cell? ((⟨w.heap.size+1,0,none⟩:Addr).add j)=some u:=by
 have h:=cells_two (w.alloc O) x y t f
 rw [show (w.alloc O).heap.size=w.heap.size+1 by simp] at h
 exact h
def StrsAt (w:World) (v:Value) (l:List ByteArray):Prop:=∃ base cap,v=.slice base l.length cap∧l.length≤cap∧∀ i (h:i<l.length),∃ b o,base=some ⟨b,o,none⟩∧w.cell? ⟨b,o+i,none⟩=some (.string (l[i]'h))
def badF:List ByteArray→Nat→Int
 | [],_=>-1
 | s::r,k=>if nameN s=0 then badF r (k+1) else k
theorem badF_any:∀ (l:List ByteArray) (k:Nat),(badF l k≥0)↔l.any (fun s=>decide (nameN s≠0))=true
 | [],k=>by simp [badF]
 | s::r,k=>by
  rw [badF,List.any_cons]
  by_cases h:nameN s=0
  ·rw [if_pos h,badF_any r]; simp [h]
  ·rw [if_neg h]; simp [h]
theorem bad1_walk (s:ByteArray) (w:World):Calls Tryz.prog 99 #[.string s] w fun e w'=>e=.returned (.bool (nameN s != 0))∧Ext [] w w':=by
 have H:=zz (fun w=>name_walk s w)
 generalize nameN s=z at *
 go_enter Tryz.func99,Tryz.ntmps99
 go_wp2_with fail
 refine (H.out _).mono ?_
 rintro e w' ⟨rfl,hx⟩
 have HX:=zz hx
 clear hx
 go_wp2_with fail
 go_ret
 exact⟨rfl,HX.out⟩
theorem idx_walk (v:Value) (l:List ByteArray) (w:World) (h:StrsAt w v l) (hl:l.length≤1048576) :
  Calls Tryz.prog 135 #[v,.func (.func 99) #[] #[]] w fun e w'=>e=.returned (.int .i64 (badF l 0))∧Ext [] w w':=by
 obtain⟨base,cap,rfl,-,hT⟩:=h
 obtain⟨n,hln⟩:∃ n,l.length=n:=⟨_,rfl⟩
 obtain⟨R,hR⟩:∃ R,badF l 0=R:=⟨_,rfl⟩
 have HH:=zz3 ⟨hT,hln,hR⟩
 rw [hR]
 rw [hln] at hl ⊢
 clear hT hln hR
 go_enter Tryz.func135,Tryz.ntmps135
 go_wp2_with fail
 go_loopg [4,5,8] n (fun g v4 v5 iv wr=>∃ i:Nat,g+i=n∧iv=.int .i64 i∧badF (l.drop i) i=R∧Ext [] w wr)
 case atStart=>exact⟨0,by omega,rfl,HH.out.2.2,Ext.refl _ _⟩
 case round=>
  obtain⟨i,hgi,rfl,hR,hx⟩:=hrel
  by_cases hlt:i<n
  ·obtain⟨g,rfl⟩:∃ g,gk=g+1:=⟨gk - 1,by omega⟩
   have hltz:(i:Int)<(n:Int):=by omega
   have hil:i<l.length:=by rw [HH.out.2.1]; exact hlt
   rw [drop_at l i hil,badF] at hR
   obtain⟨b,o,rfl,hc⟩:=HH.out.1 i hil
   have hc:=hx.cell hc
   generalize l[i]'hil=s at *
   have H:=zz (fun w=>bad1_walk s w)
   have HX:=zz2 ⟨hx,hR⟩
   clear hx hR
   generalize nameN s=z at *
   go_wp2_with fail
   refine (H.out _).mono ?_
   rintro ee w2 ⟨rfl,hx2⟩
   have HX2:=zz (HX.out.1.trans hx2)
   clear hx2 H hc
   by_cases he:z=0
   ·subst he
    go_wp2_with fail
    go_roundg g
    case measure=>omega
    case rel=>exact⟨i+1,by omega,by go_num,by simpa using HX.out.2,HX2.out⟩
   ·have heb:(z != 0)=true:=bne_iff_ne.2 he
    have hR:R=(i:Int):=by have:=HX.out.2; rw [if_neg he] at this; exact this.symm
    subst hR
    go_wp2_with fail
    go_ret
    exact⟨rfl,HX2.out⟩
  ·obtain rfl:gk=0:=by omega
   have hR0:R = -1:=by rw [←hR,List.drop_eq_nil_of_le (by rw [HH.out.2.1]; omega)]; rfl
   subst hR0
   have HX:=zz hx
   clear hx hR
   go_wp2_with fail
   go_ret
   exact⟨rfl,HX.out⟩
theorem cont_walk (v:Value) (l:List ByteArray) (w:World) (h:StrsAt w v l) (hl:l.length≤1048576) :
  Calls Tryz.prog 98 #[v,.func (.func 99) #[] #[]] w fun e w'=>e=.returned (.bool (l.any (fun s=>decide (nameN s≠0))))∧Ext [] w w':=by
 have H:=zz (idx_walk v l w h hl)
 have hb:=badF_any l 0
 obtain⟨z,hz⟩:∃ z,badF l 0=z:=⟨_,rfl⟩
 rw [hz] at H hb
 have hB:l.any (fun s=>decide (nameN s≠0))=decide (0≤z):=by
  rw [Bool.eq_iff_iff,←hb]; simp
 rw [hB]
 obtain⟨base,cap,rfl,-,-⟩:=h
 clear hz hb hB
 go_enter Tryz.func98,Tryz.ntmps98
 go_wp2_with fail
 refine H.out.mono ?_
 rintro ee w2 ⟨rfl,hx2⟩
 have HX2:=zz hx2
 clear hx2 H
 go_wp2_with fail
 go_ret
 exact⟨rfl,HX2.out⟩
def dictionN (names:List ByteArray) (ls:List (List Nd)):List Nd×Int:=
 if names.length≠ls.length∨names.any (fun s=>decide (nameN s≠0))=true then ([],2) else if firstN ls≠0 then ([],firstN ls) else dictN (names.zip ls)
theorem infoEntry:(Tryz.prog.info? 125).map (fun i=>(i.zero,i.size,i.bytes))=some (some (.agg #[.string ⟨#[]⟩,.slice none 0 0]),2,40):=by kernel_rfl
def endsN (l:List Nd):List Int:=match shapeN l with | some (E,_)=>E | none=>[]
def depsN (l:List Nd):List Int:=match shapeN l with | some (_,D)=>D | none=>[]
def isN (l:List Nd) (kind:Int):Bool:=decide (checkN l=0∧(ndAt l 0).kind=kind)
def depthN (l:List Nd):Int:=if checkN l=0 then Lib.maxOf (depsN l) else 0
structure Lt (l:List Nd):Prop where
 len:l.length≤9223372036854775807
 s:∀ x∈l,x.s.size≤1000000
theorem is_walk (v:Value) (l:List Nd) (kind:Int) (w:World) (h:NodesAt w v l) (hl:Lt l) :
  Calls Tryz.prog 162 #[v,.int .i64 kind] w fun e w'=>e=.returned (.bool (isN l kind))∧Ext [] w w':=by
 have HC:=zz (check_walk v l w h hl.len hl.s)
 obtain⟨c,hc⟩:∃ c,checkN l=c:=⟨_,rfl⟩
 rw [hc] at HC
 by_cases c0:c=0
 ·subst c0
  obtain⟨h0,-⟩:=check_zero hc
  obtain⟨base,cap,rfl,-,hN⟩:=h
  obtain⟨b,o,rfl,n1,-⟩:=node_in hN 0 h0
  rw [Nat.zero_mul,Nat.add_zero] at n1
  have hR:isN l kind=decide ((ndAt l ((0:Nat):Int)).kind=kind):=by rw [isN,hc]; simp
  rw [hR]
  have h0z:(0:Int)<(l.length:Int):=by omega
  obtain⟨k,hk⟩:∃ k,(ndAt l ((0:Nat):Int)).kind=k:=⟨_,rfl⟩
  rw [hk] at n1 ⊢
  have HN:=zz n1
  clear hR hc hN hk
  go_enter Tryz.func162,Tryz.ntmps162
  go_wp2_with fail
  refine HC.out.mono ?_
  rintro e w1 ⟨rfl,hx⟩
  have n2:=hx.cell n1
  have HX:=zz hx
  clear hx HC n1
  go_wp2_with fail
  go_ret
  refine⟨?_,HX.out⟩
  by_cases q:k=kind <;> simp [q]
 ·have hR:isN l kind=false:=by rw [isN,hc]; simp [c0]
  rw [hR]
  obtain⟨base,cap,rfl,-,-⟩:=h
  have hcb:(c==0)=false:=beq_eq_false_iff_ne.2 c0
  clear hR hc
  go_enter Tryz.func162,Tryz.ntmps162
  go_wp2_with fail
  refine HC.out.mono ?_
  rintro e w1 ⟨rfl,hx⟩
  have HX:=zz hx
  clear hx HC
  go_wp2_with fail
  go_ret
  exact⟨rfl,HX.out⟩
end Tr
end Go.Proofs.YtljachhmdogkdaaGreatDoor
