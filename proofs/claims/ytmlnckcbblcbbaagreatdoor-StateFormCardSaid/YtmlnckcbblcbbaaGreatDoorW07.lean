/- Parts of a proof, joined. -/
import Derived.Test.YtmlnckcbblcbbaaGreatDoorW06
import Derived.Shelf.Strings.OnBuilder
import Derived.Test.YtmlnckcbblcbbaaGreatDoorProg
import Derived.Lib.Mul64
set_option linter.all false
set_option maxRecDepth 100000
set_option maxHeartbeats 4000000
section
open Go Dem Go.Proofs
namespace Dem
variable {t:Th}
theorem Ke(ht:TT t)(nm Xr:az)(a b c d a' b' c' d':Int){lb lb':List bT}{lr Lr:List (List D)}(hlr:lr=lb.map bT.cells)(rN:Lr=lb'.map bT.cells)(up up':Bool)(hl:lb.length<1000000000)(hl':lb'.length<1000000000):
 FC 74 [.agg [ST nm,aA a,aA b,aA c,aA d,SL lr,BL up],.agg [ST Xr,aA a',aA b',aA c',aA d',SL Lr,BL up']] [] (.ret (cA (t _ λ_=>decide ((⟨nm,⟨a,b,c,d⟩,lb,up⟩:Node)=⟨Xr,⟨a',b',c',d'⟩,lb',up'⟩)))) []:=by
 refine cC ht Tryz.func74 (N:=31) ?_;cbv;have MR:lr.length=lb.length:=by rw[hlr,lgM]
 have acB:Lr.length=lb'.length:=by rw[rN,lgM]
 iterate 5 refine gI (by simp[ht]) ?_
 refine pI (by simp[ht]) ?_;iterate 5 refine gI (by simp[ht]) ?_
 refine pI (by simp[ht]) ?_;iterate 4 refine gI (by simp[ht]) ?_
 refine aT (λg0=>⟨by simp[ht]at g0 ⊢;exact g0,hY,P0 ht ‹_› ‹_› ‹_› ‹_›⟩) rfl rfl (λr1 ej=>?_);simp only[ht]at ej;cbv;refine pI (by simp[ht]) ?_;refine ak ?_;(simp[*];grind)
theorem P3(ht:TT t){l m:List Node}{es fs:List (List D)}(aD:es=l.map Node.cells)(vz:fs=m.map Node.cells)(hl:l.length<1000000000)(hm:m.length<1000000000)(hls:∀x∈l,x.labels.length<1000000000)(Vk:∀x∈m,x.labels.length<1000000000):
 FC 73 [SL es,SL fs,.fn 74 []] [] (.ret (cA (t _ λ_=>decide (l=m)))) []:=by
 refine cC ht Tryz.func73 (N:=32) ?_;cbv;have ay:es.length=l.length:=by rw[aD,lgM]
 have cY:fs.length=m.length:=by rw[vz,lgM]
 apply aj<;>intro h0
 .simp[ht,aa,ay,cY]at h0;cbv;refine ak ?_;(simp[ht];rintro rfl;simp_all;done)
 simp[ht,aa,ay,cY]at h0;cbv;obtain⟨J1,iB⟩:∃J1:Nat->Int->Prop,∀n i,J1 n i↔(∃k:Nat,i=k/\k+n=l.length/\l.length=m.length/\decide (l=m)=decide (l.drop k=m.drop k)):=⟨λn v=>match v with|i=>(∃k:Nat,i=k/\k+n=l.length/\l.length=m.length/\decide (l=m)=decide (l.drop k=m.drop k)),λ_ _=>Iff.rfl⟩;refine bw ⟨[1,2,15,16,17],[],[]⟩ (σ:=Int) (λv=>[(17,.d (.int .i64 (t _ λ_=>v)))]) (λv=>[]) J1 ?_;cbv;refine aC ⟨l.length,_,(iB _ _).2 ?_,by simp only[ht];rfl,?_⟩
 ·(simp only[aa];grind)
 rintro n i hj;replace hj:=(iB _ _).1 hj;obtain⟨k,rfl,j1,j2,j4⟩:=hj;cbv;apply aj<;>intro h2
 .simp[ht,aa,ay]at h2;cbv;refine eT ht aD (cT:=Node.aS t) (by(simp only[ht,aa];omega)) (by(simp only[ht,aa];omega)) (λ_=>rfl) (λ_=>(by(simp only[ht,Node.aS];done))) (λx3 oU=>?_);simp[ht,aa]at oU;rw[cu oU]at j4;have sx3:=hls _ (vag oU)
  cbv;refine eT ht vz (cT:=Node.aS t) (by(simp only[ht,aa];omega)) (by(simp only[ht,aa];omega)) (λ_=>rfl) (λ_=>(by(simp only[ht,Node.aS];done))) (λx4 vL=>?_);simp[ht,aa]at vL;rw[cu vL]at j4;have sx4:=Vk _ (vag vL)
  cbv;refine ar (Ke ht _ _ _ _ _ _ _ _ _ _ (lm ht rfl) (lm ht rfl) _ _ ‹_› ‹_›) hY (λr5 lp=>?_);simp only[ht]at lp;cbv;apply aj<;>intro h6
  .simp[ht]at h6;cbv;refine ak ?_;(simp[ht];rintro rfl;simp_all;done)
  simp[ht]at h6;cbv;refine bA _ rfl (n-1) ?_ ((iB _ _).2 ?_)
  .omega
  simp only[ht,aa];refine⟨k+1,aG (by omega),by omega,by omega,?_⟩;(simp_all[VO,pi];done)
 simp[ht,aa,ay]at h2;cbv;refine ak ?_;(simp[ht,j4,vah (show l.length<=k by omega),vah (show m.length<=k by omega)];done)
theorem Wp(ht:TT t){l l':List Node}{ps ps':List Place}{es es' qs Zf:List (List D)}(aD:es=l.map Node.cells)(MM:es'=l'.map Node.cells)(fX:qs=ps.map Place.cells)(Zg:Zf=ps'.map Place.cells)
 (hl:l.length<1000000000) (hl':l'.length<1000000000) (oB:ps.length<1000000000) (ag4:ps'.length<1000000000) (hls:∀x∈l,x.labels.length<1000000000) (ad0:∀x∈l',x.labels.length<1000000000):
 FC 29 [.agg [SL es,SL qs],.agg [SL es',SL Zf]] [] (.ret (cA (t _ λ_=>decide (l=l'/\ps=ps')))) []:=by
 refine cC ht Tryz.func29 (N:=17) ?_;cbv;have ay:es.length=l.length:=by rw[aD,lgM]
 have Wq:es'.length=l'.length:=by rw[MM,lgM]
 have cM:qs.length=ps.length:=by rw[fX,lgM]
 have Wr:Zf.length=ps'.length:=by rw[Zg,lgM]
 refine ar (P3 ht ‹_› ‹_› ‹_› ‹_› ‹_› ‹_›) hY (λr0 bM=>?_);simp only[ht]at bM;cbv;iterate 4 refine gI (by simp) ?_
 refine aT (λg1=>⟨by simp at g1 ⊢;exact g1,hY,MQ ht ‹_› ‹_› ‹_› ‹_›⟩) rfl rfl (λr2 dj=>?_);simp only[ht]at dj;cbv;refine pI (by simp) ?_;refine ak ?_;(simp[*];done)
theorem Kf(ht:TT t){l:List Node}{ps:List Place}{es qs:List (List D)}(aD:es=l.map Node.cells)(fX:qs=ps.map Place.cells)(hl:l.length<1000000000)(oB:ps.length<1000000000):
 FC 62 [.agg [SL es,SL qs]] [] (.ret (YS t (t _ λ_=>l.filterMap (vI l ps)))) []:=by
 refine cC ht Tryz.func62 (N:=38) ?_;cbv;have ay:es.length=l.length:=by rw[aD,lgM]
 have cM:qs.length=ps.length:=by rw[fX,lgM]
 obtain⟨J0,dZ⟩:∃J0:Nat->List (List D)×Int->Prop,∀n o i,J0 n (o,i)↔(∃(k:Nat) (rs:List cK),i=k/\k+n=l.length/\o=rs.map cK.cells/\rs.length<=k/\l.filterMap (vI l ps)=rs++(l.drop k).filterMap (vI l ps)):=⟨λn v=>match v with|(o,i)=>(∃(k:Nat) (rs:List cK),i=k/\k+n=l.length/\o=rs.map cK.cells/\rs.length<=k/\l.filterMap (vI l ps)=rs++(l.drop k).filterMap (vI l ps)),λ_ _ _=>Iff.rfl⟩;refine bw ⟨[1,3,9,10,11],[(3,6)],[]⟩ (σ:=List (List D)×Int) (λv=>[(3,.ow 1 6 (t _ λ_=>(v.1).length)),(11,.d (.int .i64 (t _ λ_=>v.2)))]) (λv=>[(1,.row 6 (t _ λ_=>v.1))]) J0 ?_;cbv;refine aC ⟨l.length,([],_),(dZ _ _ _).2 ?_,by simp only[ht];rfl,?_⟩
 .exact⟨0,[],rfl,by simp,rfl,by simp,by simp⟩
 rintro n ⟨o,i⟩ hj;replace hj:=(dZ _ _ _).1 hj;obtain⟨k,rs,rfl,j1,j2,j3,j4⟩:=hj;have vM:o.length=rs.length:=by rw[j2,lgM]
 cbv;apply aj<;>intro h1
 .simp[ht,aa,ay]at h1;cbv;refine eT ht aD (cT:=Node.aS t) (by(simp only[ht,aa];omega)) (by(simp only[ht,aa];omega)) (λ_=>rfl) (λ_=>(by(simp only[ht,Node.aS];done))) (λx2 jX=>?_);simp[ht,aa]at jX;rw[cu jX,List.filterMap_cons,vI]at j4;cbv;refine ar (GZ ht _ ‹_› ‹_› (by omega) (by omega)) hY (λr3 iR=>?_);simp only[ht]at iR;cbv;iterate 2 refine gI (by simp) ?_
  refine pI (by simp) ?_;apply aj<;>intro h4
  .simp[ht]at h4;cbv;refine⟨?_,?_⟩
   ·(simp only[ht,true_and];exact C6 j2 (λ_=>rfl) rfl (by omega) (by decide))
   cbv;refine bA (_,_) (by simp only[ht,<-vaa];rfl) (n-1) ?_ ((dZ _ _ _).2 ?_)
   .omega
   simp only[aa];refine⟨k+1,rs++[⟨(x2).name,(iG (x2).name l ps).1,(x2).labels⟩],aG (by omega),by omega,?_,by simp;omega,?_⟩
   ·(simp[cK.cells, *];done)
   (simp_all;done)
  simp[ht]at h4;cbv;refine bA (_,_) (by simp only[ht];rfl) (n-1) ?_ ((dZ _ _ _).2 ?_)
  .omega
  simp only[aa];exact⟨k+1,rs,aG (by omega),by omega,j2,by omega,by grind⟩
 simp[ht,aa,ay]at h1;cbv;refine ia hY (by simp[ht]) rfl rfl rfl ?_;(rw[vah (by omega)]at j4;simp[*];done)
theorem qw(ht:TT t)(s:az)(hs:s.length<9223372036854775807):FC 85 [ST s] [] (.ret (cA (t _ λ_=>eV s))) []:=by simp only[ht];exact Dy ht s hs rfl
theorem uW(ht:TT t){l:List bT}{es:List (List D)}(aD:es=l.map bT.cells)(hl:l.length<1000000000)(iC:∀p∈l,p.sm):FC 86 [SL es] [] (.ret (cA (t _ λ_=>kL l))) []:=by simp only[ht];exact Tk ht l (by omega) iC aD rfl
theorem Ws(ht:TT t)(jb:Int)(nd:az)(v1 v2 v3 v4:Int){l:List Node}{es qs:List (List D)}(aD:es=l.map Node.cells)(hl:l.length<1000000000){r:Bool}(hr:r=C5 l ⟨jb,nd,⟨v1,v2,v3,v4⟩⟩):
 FC 117 [.agg [aA jb,ST nd,aA v1,aA v2,aA v3,aA v4],.ptr 0 0] [.var [SL es,SL qs]] (.ret (BL r)) [.var [SL es,SL qs]]:=by
 refine kJ ht (aK:=[.var [SL es,SL qs]]) Tryz.func117 rfl rfl (N:=9) rfl rfl (n:=1) rfl rfl ?_;cbv;have ay:es.length=l.length:=by rw[aD,lgM]
 refine ar (Kc ht _ ‹_› (by omega)) hY (λr0 bM=>?_);simp only[ht]at bM;cbv;refine ak ?_;(simp[C5,fL, *];grind)
theorem Kg(ht:TT t)(ns qs:List (List D)){l:List (Place)}{es:List (List D)}(aD:es=l.map Place.cells)(f:Nat)(p:Place->Bool)(hl:l.length<9223372036854775807)
 (hf:∀x∈l,FC f [.agg [.d (.int .u64 x.bL),.d (.str x.node),.d (.int .u64 x.v.a),.d (.int .u64 x.v.b),.d (.int .u64 x.v.c),.d (.int .u64 x.v.d)],.ptr 0 0] [.var [SL ns,SL qs]] (.ret (BL (p x))) [.var [SL ns,SL qs]]) {r:Int} (hr:r=idxOf p l):FC 166 [SL es,.fn f [.ptr 0 0]] [.var [SL ns,SL qs]] (.ret (bf r)) [.var [SL ns,SL qs]]:=by
 have hel:es.length=l.length:=by rw[aD,lgM]
 refine kJ ht (aK:=[.var [SL ns,SL qs]]) Tryz.func166 rfl rfl (N:=19) rfl rfl (n:=1) rfl rfl ?_;cbv;refine bw ⟨[0,1,7,8],[],[]⟩ (σ:=Nat) (λk=>[(8,bf (t _ λ_=>(k:Int)))]) (λ_=>[]) (wL p l) ?_;cbv;refine aC ⟨l.length,0,.nil,by simp only[ht];rfl,λn k hj=>?_⟩;cbv;apply aj<;>intro h
 .simp only[ht,aa,vai]at h;have hk:k<es.length:=by omega
  obtain⟨x,hx,pM,px,hpx⟩:=hj.get (by omega);have iS:=hf x pM
  rw[<-hpx]at iS;obtain⟨jb,nd,⟨v1,v2,v3,v4⟩⟩:=x;cbv;refine jG [.int .u64 jb,.str nd,.int .u64 v1,.int .u64 v2,.int .u64 v3,.int .u64 v4] ?_ ?_ ?_
  .simp only[ht,aa];exact sE aD hk λ_=>rfl
  .simp[ht,aa,aD,hx]
  cbv;refine dO hY iS ?_;cbv;apply aj<;>intro hb
  .cbv;refine ak ?_;simp only[ht,aa,hr,hj.hit hx (hpx▸hb)]
  cbv;refine aC ⟨n-1,k+1,⟨hj.lt hx,hj.next hx (hpx▸hb)⟩,?_⟩;simp only[ht,aa,aG (show k<9223372036854775807 by omega)];rfl
 simp only[ht,aa,vap]at h;have hk:l.length<=k:=by omega
 clear h;cbv;refine ak ?_;rw[hr,hj.none hk]
theorem Kh(ht:TT t)(ns qs:List (List D)){l:List (Place)}{es:List (List D)}(aD:es=l.map Place.cells)(f:Nat)(p:Place->Bool)(hl:l.length<9223372036854775807)
 (hf:∀x∈l,FC f [.agg [.d (.int .u64 x.bL),.d (.str x.node),.d (.int .u64 x.v.a),.d (.int .u64 x.v.b),.d (.int .u64 x.v.c),.d (.int .u64 x.v.d)],.ptr 0 0] [.var [SL ns,SL qs]] (.ret (BL (p x))) [.var [SL ns,SL qs]]) {r:Bool} (hr:r=l.any p):FC 118 [SL es,.fn f [.ptr 0 0]] [.var [SL ns,SL qs]] (.ret (BL r)) [.var [SL ns,SL qs]]:=by
 obtain⟨k,hk⟩:∃k,k=idxOf p l:=⟨_,rfl⟩;refine kJ ht (aK:=[.var [SL ns,SL qs]]) Tryz.func118 rfl rfl (N:=9) rfl rfl (n:=1) rfl rfl ?_;cbv;refine dO hY (Kg ht ns qs aD f p hl hf hk) ?_;cbv;refine ak ?_;simp only[ht,hr,fL,hk]
theorem P4(ht:TT t){l:List Node}{ps:List Place}{es qs:List (List D)}(aD:es=l.map Node.cells)(fX:qs=ps.map Place.cells)(hl:l.length<1000000000)(oB:ps.length<1000000000){r:Bool}(hr:r=ps.any (C5 l)):
 FC 118 [SL qs,.fn 117 [.ptr 0 0]] [.var [SL es,SL qs]] (.ret (BL r)) [.var [SL es,SL qs]]:=
 Kh ht es qs fX 117 (C5 l) (by omega) (λx _=>Ws ht x.bL x.node x.v.a x.v.b x.v.c x.v.d aD hl rfl) hr
theorem Fu(ht:TT t){l:List Node}{ps:List Place}{es qs:List (List D)}(aD:es=l.map Node.cells)(fX:qs=ps.map Place.cells)(hl:l.length<1000000000)(oB:ps.length<1000000000)(iC:∀x∈l,x.sm):
 FC 51 [.agg [SL es,SL qs]] [] (.ret (cA (t _ λ_=>mQ ⟨l,ps⟩))) []:=by
 refine cC ht Tryz.func51 (N:=66) ?_;cbv;have ay:es.length=l.length:=by rw[aD,lgM]
 have cM:qs.length=ps.length:=by rw[fX,lgM]
 obtain⟨J0,dZ⟩:∃J0:Nat->Int->Prop,∀n i,J0 n i↔(∃k:Nat,i=k/\k+n=l.length/\kM l ps none l=kM l ps (qd l k) (l.drop k)):=⟨λn v=>match v with|i=>(∃k:Nat,i=k/\k+n=l.length/\kM l ps none l=kM l ps (qd l k) (l.drop k)),λ_ _=>Iff.rfl⟩;refine bw ⟨[1,9,10,11],[],[]⟩ (σ:=Int) (λv=>[(11,.d (.int .i64 (t _ λ_=>v)))]) (λv=>[]) J0 ?_;cbv;refine aC ⟨l.length,_,(dZ _ _).2 ?_,by simp only[ht];rfl,?_⟩
 .exact⟨0,rfl,by simp,by simp[qd]⟩
 rintro n i hj;replace hj:=(dZ _ _).1 hj;obtain⟨k,rfl,j1,j4⟩:=hj;cbv;apply aj<;>intro h1
 .simp[ht,aa,ay]at h1;cbv;refine eT ht aD (cT:=Node.aS t) (by(simp only[ht,aa];omega)) (by(simp only[ht,aa];omega)) (λ_=>rfl) (λ_=>(by(simp only[ht,Node.aS];done))) (λx2 jX=>?_);simp[ht,aa]at jX;simp only[cu jX,kM]at j4;first|obtain⟨s1,s2,s3⟩:=iC _ (vag jX)|skip
  cbv;refine ar (GZ ht _ ‹_› ‹_› (by omega) (by omega)) hY (λr3 iR=>?_);simp only[ht]at iR;cbv;refine bE [true,true,true,true,true,true,true,true,true,true,true,true,true,true,true,true,true,true,false,false,false,false,false,false,false,false,false,true,true,true] ?_;cbv;iterate 2 refine gI (by simp[ht]) ?_
  refine aT (λg4=>⟨by simp[ht]at g4 ⊢;exact g4,hY,qw ht _ ‹_›⟩) rfl rfl (λr5 lp=>?_);simp only[ht]at lp;cbv;refine gI (by simp[ht]) ?_;refine pI (by simp[ht]) ?_;iterate 2 refine gI (by simp[ht]) ?_
  refine aT (λg6=>⟨by simp[ht]at g6 ⊢;exact g6,hY,uW ht (lm ht rfl) ‹_› ‹_›⟩) rfl rfl (λr7 jU=>?_);simp only[ht]at jU;cbv;refine gI (by simp[ht]) ?_;refine pI (by simp[ht]) ?_;iterate 9 refine gI (by simp[ht]) ?_
  (refine JB ht aD (cT:=Node.aS t) (k-1) (λg=>by simp[ht,aa]at g ⊢;simp[g]) (λg=>by simp[ht,aa]at g;simp only[ht,aa];exact⟨yu (by omega) (by omega),by omega⟩) (λ_=>rfl) (λ_=>by simp only[ht,Node.aS]) (λy my=>?_);simp[ht,aa]at my);cbv;iterate 3 refine gI (by simp[ht]) ?_
  refine gI (by simp[ht,ah];intros;simp_all) ?_;refine pI (by simp[ht]) ?_;apply aj<;>intro h8
  .simp[ht,aa]at h8;cbv;refine ak ?_;(simp only[ht];rw[E7]at j4;grind [mQ,sle])
  simp[ht,aa]at h8;cbv;refine bA _ rfl (n-1) ?_ ((dZ _ _).2 ?_)
  .omega
  simp only[ht,aa];refine⟨k+1,aG (by omega),by omega,?_⟩;(rw[E7]at j4;simp only[qd,jX,vau];grind [sle])
 simp[ht,aa,ay]at h1;cbv;iterate 3 refine gI (by simp[ht]) ?_
 (obtain⟨r9,dR⟩:∃r,r=ps.any (C5 l):=⟨_,rfl⟩;refine YK [0] (λg=>⟨by simp[ht]at g ⊢;exact g,P4 ht aD fX hl oB dR⟩) rfl rfl rfl rfl ?_);cbv;refine gI (by simp[ht]) ?_;refine pI (by simp[ht]) ?_;refine ak ?_;(rw[vah (by omega),kM]at j4;simp[ht,aa,mQ,j4,dR,ay];congr 1;rw[decide_eq_decide];omega)
def Term.aS (t:Th) (x:Term):List D:=[.str x.key,.bool x.no,.sl (t _ λ_=>x.fk.map bp)]
def Term.sm (x:Term):Prop:=x.key.length<9223372036854775807/\x.fk.length<1000000000/\∀v∈x.fk,v.length<9223372036854775807
theorem Wt{x y:Term}:x=y↔x.key=y.key/\x.no=y.no/\x.fk=y.fk:=by cases x;cases y;simp
def prevStr(l:List az)(k:Nat):Option az:=match k with
 |0=>none|k+1=>l[k]?
theorem Tl(ht:TT t){l m:List az}{es fs:List (List D)}(aD:es=l.map bp)(vz:fs=m.map bp)(hl:l.length<1000000000)(hm:m.length<1000000000):
 FC 209 [SL es,SL fs] [] (.ret (cA (t _ λ_=>decide (l=m)))) []:=by
 refine cC ht Tryz.func209 (N:=26) ?_;cbv;have ay:es.length=l.length:=by rw[aD,lgM]
 have cY:fs.length=m.length:=by rw[vz,lgM]
 apply aj<;>intro h0
 .simp[ht,aa,ay,cY]at h0;cbv;refine ak ?_;(simp[ht];rintro rfl;simp_all;done)
 simp[ht,aa,ay,cY]at h0;cbv;obtain⟨J1,iB⟩:∃J1:Nat->Int->Prop,∀n i,J1 n i↔(∃k:Nat,i=k/\k+n=l.length/\l.length=m.length/\decide (l=m)=decide (l.drop k=m.drop k)):=⟨λn v=>match v with|i=>(∃k:Nat,i=k/\k+n=l.length/\l.length=m.length/\decide (l=m)=decide (l.drop k=m.drop k)),λ_ _=>Iff.rfl⟩;refine bw ⟨[0,1,12,13],[],[]⟩ (σ:=Int) (λv=>[(13,.d (.int .i64 (t _ λ_=>v)))]) (λv=>[]) J1 ?_;cbv;refine aC ⟨l.length,_,(iB _ _).2 ?_,by simp only[ht];rfl,?_⟩
 ·(simp only[aa];grind)
 rintro n i hj;replace hj:=(iB _ _).1 hj;obtain⟨k,rfl,j1,j2,j4⟩:=hj;cbv;apply aj<;>intro h2
 .simp[ht,aa,ay]at h2;cbv;refine bE [false,false,false,false,false,false,false,false,true] ?_;cbv;iterate 2 refine gI (by simp) ?_
  refine eT ht aD (cT:=fM t) (by(simp only[ht,aa];omega)) (by(simp only[ht,aa];omega)) (λ_=>rfl) (λ_=>rfl) (λx3 oU=>?_);simp[ht,aa]at oU;rw[cu oU]at j4;cbv;iterate 3 refine gI (by simp) ?_
  refine eT ht vz (cT:=fM t) (by(simp only[ht,aa];omega)) (by(simp only[ht,aa];omega)) (λ_=>rfl) (λ_=>rfl) (λx4 vL=>?_);simp[ht,aa]at vL;rw[cu vL]at j4;cbv;refine gI (by simp) ?_;apply aj<;>intro h5
  .simp[ht]at h5;cbv;refine ak ?_;(simp[ht];rintro rfl;simp_all;done)
  simp[ht]at h5;cbv;refine bA _ (by simp only[ht];rfl) (n-1) ?_ ((iB _ _).2 ?_)
  .omega
  simp only[aa];refine⟨k+1,aG (by omega),by omega,by omega,?_⟩;(simp[*];done)
 simp[ht,aa,ay]at h2;cbv;refine ak ?_;(simp[ht,j4,vah (show l.length<=k by omega),vah (show m.length<=k by omega)];done)
theorem Ki(ht:TT t)(k k':az)(n n':Bool){vs vs':List az}{vr vr':List (List D)}(vA:vr=vs.map bp)(ad2:vr'=vs'.map bp)(hl:vs.length<1000000000)(hl':vs'.length<1000000000):
 FC 180 [.agg [ST k,BL n,SL vr],.agg [ST k',BL n',SL vr']] [] (.ret (cA (t _ λ_=>decide ((⟨k,n,vs⟩:Term)=⟨k',n',vs'⟩)))) []:=by
 refine cC ht Tryz.func180 (N:=24) ?_;cbv;have lR:vr.length=vs.length:=by rw[vA,lgM]
 have acD:vr'.length=vs'.length:=by rw[ad2,lgM]
 iterate 5 refine gI (by simp[ht]) ?_
 refine pI (by simp[ht]) ?_;iterate 4 refine gI (by simp[ht]) ?_
 refine aT (λg0=>⟨by simp[ht]at g0 ⊢;exact g0,hY,Tl ht ‹_› ‹_› ‹_› ‹_›⟩) rfl rfl (λr1 ej=>?_);simp only[ht]at ej;cbv;refine pI (by simp[ht]) ?_;refine ak ?_;(simp[*];grind)
theorem P5(ht:TT t){l m:List Term}{es fs:List (List D)}(aD:es=l.map Term.cells)(vz:fs=m.map Term.cells)(hl:l.length<1000000000)(hm:m.length<1000000000)(hls:∀x∈l,x.fk.length<1000000000)(Vk:∀x∈m,x.fk.length<1000000000):
 FC 179 [SL es,SL fs,.fn 180 []] [] (.ret (cA (t _ λ_=>decide (l=m)))) []:=by
 refine cC ht Tryz.func179 (N:=32) ?_;cbv;have ay:es.length=l.length:=by rw[aD,lgM]
 have cY:fs.length=m.length:=by rw[vz,lgM]
 apply aj<;>intro h0
 .simp[ht,aa,ay,cY]at h0;cbv;refine ak ?_;(simp[ht];rintro rfl;simp_all;done)
 simp[ht,aa,ay,cY]at h0;cbv;obtain⟨J1,iB⟩:∃J1:Nat->Int->Prop,∀n i,J1 n i↔(∃k:Nat,i=k/\k+n=l.length/\l.length=m.length/\decide (l=m)=decide (l.drop k=m.drop k)):=⟨λn v=>match v with|i=>(∃k:Nat,i=k/\k+n=l.length/\l.length=m.length/\decide (l=m)=decide (l.drop k=m.drop k)),λ_ _=>Iff.rfl⟩;refine bw ⟨[1,2,15,16,17],[],[]⟩ (σ:=Int) (λv=>[(17,.d (.int .i64 (t _ λ_=>v)))]) (λv=>[]) J1 ?_;cbv;refine aC ⟨l.length,_,(iB _ _).2 ?_,by simp only[ht];rfl,?_⟩
 ·(simp only[aa];grind)
 rintro n i hj;replace hj:=(iB _ _).1 hj;obtain⟨k,rfl,j1,j2,j4⟩:=hj;cbv;apply aj<;>intro h2
 .simp[ht,aa,ay]at h2;cbv;refine eT ht aD (cT:=Term.aS t) (by(simp only[ht,aa];omega)) (by(simp only[ht,aa];omega)) (λ_=>rfl) (λ_=>(by(simp only[ht,Term.aS];rfl))) (λx3 oU=>?_);simp[ht,aa]at oU;rw[cu oU]at j4;have sx3:=hls _ (vag oU)
  cbv;refine eT ht vz (cT:=Term.aS t) (by(simp only[ht,aa];omega)) (by(simp only[ht,aa];omega)) (λ_=>rfl) (λ_=>(by(simp only[ht,Term.aS];rfl))) (λx4 vL=>?_);simp[ht,aa]at vL;rw[cu vL]at j4;have sx4:=Vk _ (vag vL)
  cbv;refine ar (Ki ht _ _ _ _ (lm ht rfl) (lm ht rfl) ‹_› ‹_›) hY (λr5 lp=>?_);simp only[ht]at lp;cbv;apply aj<;>intro h6
  .simp[ht]at h6;cbv;refine ak ?_;(simp[ht];rintro rfl;simp_all;done)
  simp[ht]at h6;cbv;refine bA _ (by simp only[ht];rfl) (n-1) ?_ ((iB _ _).2 ?_)
  .omega
  simp only[aa];refine⟨k+1,aG (by omega),by omega,by omega,?_⟩;(simp_all[Wt];done)
 simp[ht,aa,ay]at h2;cbv;refine ak ?_;(simp[ht,j4,vah (show l.length<=k by omega),vah (show m.length<=k by omega)];done)
theorem Tm(ht:TT t){l m:List Term}{es fs:List (List D)}(aD:es=l.map Term.cells)(vz:fs=m.map Term.cells)(hl:l.length<1000000000)(hm:m.length<1000000000)(hls:∀x∈l,x.fk.length<1000000000)(Vk:∀x∈m,x.fk.length<1000000000):
 FC 135 [SL es,SL fs] [] (.ret (cA (t _ λ_=>decide (l=m)))) []:=by
 refine cC ht Tryz.func135 (N:=8) ?_;cbv;have ay:es.length=l.length:=by rw[aD,lgM]
 have cY:fs.length=m.length:=by rw[vz,lgM]
 refine ar (P5 ht ‹_› ‹_› ‹_› ‹_› ‹_› ‹_›) hY (λr0 bM=>?_);simp only[ht]at bM;cbv;refine ak ?_;(simp[*];done)
theorem Zh(ht:TT t)(nm:az)(a b c d:Int){lb:List (List D)}(up:Bool)(Xr:az)(a' b' c' d':Int){lb':List (List D)}(up':Bool){r:Bool}(hr:r=!Op.bytesLess Xr nm):
 FC 89 [.agg [ST Xr,aA a',aA b',aA c',aA d',SL lb',BL up'],.ptr 0 0] [.var [ST nm,aA a,aA b,aA c,aA d,SL lb,BL up]] (.ret (BL r)) [.var [ST nm,aA a,aA b,aA c,aA d,SL lb,BL up]]:=by
 refine kJ ht (aK:=[.var [ST nm,aA a,aA b,aA c,aA d,SL lb,BL up]]) Tryz.func89 rfl rfl (N:=9) rfl rfl (n:=1) rfl rfl ?_;cbv;refine ak ?_;(simp only[ht,hr];done)
theorem MS(ht:TT t)(nm:az)(a b c d:Int)(lb:List (List D))(up:Bool){l:List (Node)}{es:List (List D)}(aD:es=l.map Node.cells)(f:Nat)(p:Node->Bool)(hl:l.length<9223372036854775807)
 (hf:∀x∈l,FC f [.agg [.d (.str x.name),.d (.int .u64 x.cap.a),.d (.int .u64 x.cap.b),.d (.int .u64 x.cap.c),.d (.int .u64 x.cap.d),.d (.sl (x.labels.map bT.cells)),.d (.bool x.up)],.ptr 0 0] [.var [ST nm,aA a,aA b,aA c,aA d,SL lb,BL up]] (.ret (BL (p x))) [.var [ST nm,aA a,aA b,aA c,aA d,SL lb,BL up]]) {r:Int} (hr:r=idxOf p l):FC 88 [SL es,.fn f [.ptr 0 0]] [.var [ST nm,aA a,aA b,aA c,aA d,SL lb,BL up]] (.ret (bf r)) [.var [ST nm,aA a,aA b,aA c,aA d,SL lb,BL up]]:=by
 have hel:es.length=l.length:=by rw[aD,lgM]
 refine kJ ht (aK:=[.var [ST nm,aA a,aA b,aA c,aA d,SL lb,BL up]]) Tryz.func88 rfl rfl (N:=19) rfl rfl (n:=1) rfl rfl ?_;cbv;refine bw ⟨[0,1,7,8],[],[]⟩ (σ:=Nat) (λk=>[(8,bf (t _ λ_=>(k:Int)))]) (λ_=>[]) (wL p l) ?_;cbv;refine aC ⟨l.length,0,.nil,by simp only[ht];rfl,λn k hj=>?_⟩;cbv;apply aj<;>intro h
 .simp only[ht,aa,vai]at h;have hk:k<es.length:=by omega
  obtain⟨x,hx,pM,px,hpx⟩:=hj.get (by omega);have iS:=hf x pM
  rw[<-hpx]at iS;obtain⟨Xr,⟨a',b',c',d'⟩,lb',up'⟩:=x;obtain⟨Lr,rN⟩:∃lr:List (List D),lr=lb'.map bT.cells:=⟨_,rfl⟩;simp only[<-rN]at iS;cbv;refine jG [.str Xr,.int .u64 a',.int .u64 b',.int .u64 c',.int .u64 d',.sl Lr,.bool up'] ?_ ?_ ?_
  .simp only[ht,aa];exact sE aD hk λ_=>rfl
  .simp[ht,aa,aD,hx,rN]
  cbv;refine dO hY iS ?_;cbv;apply aj<;>intro hb
  .cbv;refine ak ?_;simp only[ht,aa,hr,hj.hit hx (hpx▸hb)]
  cbv;refine aC ⟨n-1,k+1,⟨hj.lt hx,hj.next hx (hpx▸hb)⟩,?_⟩;simp only[ht,aa,aG (show k<9223372036854775807 by omega)];rfl
 simp only[ht,aa,vap]at h;have hk:l.length<=k:=by omega
 clear h;cbv;refine ak ?_;rw[hr,hj.none hk]
theorem vN(ht:TT t){l:List Node}{x:Node}{k:Nat}{i:Int}{lr:List (List D)}(hi:i=k)(hk:k<=l.length)(hl:l.length<1000000)(hlr:lr=x.labels.map bT.cells):
 FC 90 [.ow 0 7 (t _ λ_=>(l.map Node.cells).length),bf i,.cl [[.str x.name,.int .u64 x.cap.a,.int .u64 x.cap.b,.int .u64 x.cap.c,.int .u64 x.cap.d,.sl lr,.bool x.up]]] [.row 7 (t _ λ_=>l.map Node.cells)] (.ret (SL (t _ λ_=>(l.take k++x::l.drop k).map Node.cells))) [.dead]:=by
 simp only[ht];subst hi hlr;refine rE (args':=[.ow 0 7 (l.map Node.cells).length,bf k,SL [Node.cells x]]) ?_ (GX ht (by simp) (by simpa using hk) ?_ rfl (by simpa using hl) (by simp))
 .intro β w ok vs h;simp only[an]at h ⊢;obtain⟨u1,us1,rfl,h1,u2,RG,rfl,h2,u3,Zi,rfl,h3,h4⟩:=h;exact⟨u1,_,rfl,h1,u2,_,rfl,h2,u3,Zi,rfl,Ow h3,h4⟩
 intro r hr;obtain⟨y,_,rfl⟩:=List.mem_map.1 hr;rfl
theorem MT(ht:TT t){l:List Node}{ps:List Place}{es qs:List (List D)}(aD:es=l.map Node.cells)(fX:qs=ps.map Place.cells)(nm:az)(a b c d:Int){lb:List bT}{lr:List (List D)}(hlr:lr=lb.map bT.cells)(up:Bool)(hl:l.length<1000000000)(hn:nm.length<9223372036854775807)(hlb:lb.length<1000000000)(iC:∀p∈lb,p.sm):
 FC 34 [.agg [SL es,SL qs],.agg [ST nm,aA a,aA b,aA c,aA d,SL lr,BL up]] [] (.ret (SN t (t _ λ_=>sD ⟨l,ps⟩ ⟨nm,⟨a,b,c,d⟩,lb,up⟩))) []:=by
 refine cC ht Tryz.func34 (N:=51) ?_;cbv;have ay:es.length=l.length:=by rw[aD,lgM]
 have cM:qs.length=ps.length:=by rw[fX,lgM]
 have MR:lr.length=lb.length:=by rw[hlr,lgM]
 refine ar (qw ht _ ‹_›) hY (λr0 bM=>?_);simp only[ht]at bM;cbv;apply aj<;>intro h1
 .simp[ht]at h1;cbv;refine ak ?_;(simp only[ht,sD];grind)
 simp[ht]at h1;cbv;refine ar (uW ht ‹_› ‹_› ‹_›) hY (λr2 dj=>?_);simp only[ht]at dj;cbv;apply aj<;>intro h3
 .simp[ht]at h3;cbv;refine ak ?_;(simp only[ht,sD];grind)
 simp[ht]at h3;cbv;refine ar (Kc ht _ ‹_› (by omega)) hY (λr4 eY=>?_);simp only[ht]at eY;cbv;apply aj<;>intro h5
 .simp[ht]at h5;cbv;refine ak ?_;(simp only[ht,sD];grind)
 simp[ht]at h5;cbv;apply aj<;>intro h6
 .simp[ht,aa,ay]at h6;cbv;refine ak ?_;(simp only[ht,sD];grind)
 simp[ht,aa,ay]at h6;cbv;(obtain⟨r9,dR⟩:∃r,r=idxOf (λo:Node=>!Op.bytesLess o.name nm) l:=⟨_,rfl⟩;refine aW [1] hY rfl rfl (MS ht nm a b c d lr true aD 89 (λo:Node=>!Op.bytesLess o.name nm) (by omega) (λx _=>Zh ht nm a b c d true x.name x.cap.a x.cap.b x.cap.c x.cap.d x.up rfl) dR) (aH ?_);have ec:=dw dR;clear dR;rcases ec with⟨e1,e2,e3⟩|⟨i,x,hi,hil,e1,e2,e3,e4⟩)
 .cbv;apply aj<;>intro h7
  .simp[ht]at h7;cbv;refine bE [false,false,false,false,false,false,true,true,true] ?_;cbv;iterate 2 refine gI (by simp) ?_
   refine .inr (Ot hY (yO ht ‹_› ‹_›) hY rfl (.inr rfl) rfl ?_);cbv;iterate 3 refine gI (by simp) ?_
   refine aW [3] hY rfl rfl (vN ht (l:=l) (x:=⟨nm,⟨a,b,c,d⟩,lb,true⟩) (k:=pat l nm) (by(simp[ht,pat,e2,ay];done)) (by(simp[pat,e2];done)) (by simp only[aa]at*;omega) hlr) (aH ?_);cbv;refine ak ?_;(simp only[ht,sD];grind)
  simp[ht]at h7;omega
 cbv;apply aj<;>intro h8
 .simp[ht]at h8;(simp only[aa]at*;omega)
 simp[ht]at h8;cbv;refine bE [false,false,false,false,false,false,true,true,true] ?_;cbv;iterate 2 refine gI (by simp) ?_
 refine .inr (Ot hY (yO ht ‹_› ‹_›) hY rfl (.inr rfl) rfl ?_);cbv;iterate 3 refine gI (by simp) ?_
 refine aW [3] hY rfl rfl (vN ht (l:=l) (x:=⟨nm,⟨a,b,c,d⟩,lb,true⟩) (k:=pat l nm) (by(simp only[pat,e3];exact hi)) (by(simp only[pat,e3];omega)) (by simp only[aa]at*;omega) hlr) (aH ?_);cbv;refine ak ?_;(simp only[ht,sD];grind)
theorem Kj{l:List az}{k:Nat}{x:az}:GG (prevStr l k) x=(decide (k=0)||match l[k-1]? with|none=>true|some y=>!sle x y):=by
 cases k with
 |zero=>rfl|succ k=>simp only[prevStr,GG];cases h:l[k]?<;>simp[h]
theorem P6(ht:TT t)(k:az)(n:Bool){vs:List az}{vr:List (List D)}(vA:vr=vs.map bp)(hk:k.length<9223372036854775807)(hl:vs.length<1000000000)(hs:∀v∈vs,v.length<9223372036854775807):
 FC 148 [.agg [ST k,BL n,SL vr]] [] (.ret (cA (t _ λ_=>mright ⟨k,n,vs⟩))) []:=by
 refine cC ht Tryz.func148 (N:=40) ?_;cbv;have lR:vr.length=vs.length:=by rw[vA,lgM]
 obtain⟨J0,dZ⟩:∃J0:Nat->Int->Prop,∀n i,J0 n i↔(∃q:Nat,i=q/\q+n=vs.length/\AM none vs=AM (prevStr vs q) (vs.drop q)):=⟨λn v=>match v with|i=>(∃q:Nat,i=q/\q+n=vs.length/\AM none vs=AM (prevStr vs q) (vs.drop q)),λ_ _=>Iff.rfl⟩;refine bw ⟨[1,6,7,8],[],[]⟩ (σ:=Int) (λv=>[(8,.d (.int .i64 (t _ λ_=>v)))]) (λv=>[]) J0 ?_;cbv;refine aC ⟨vs.length,_,(dZ _ _).2 ?_,by simp only[ht];rfl,?_⟩
 .exact⟨0,rfl,by simp,by simp[prevStr]⟩
 rintro n i hj;replace hj:=(dZ _ _).1 hj;obtain⟨k,rfl,j1,j4⟩:=hj;cbv;apply aj<;>intro h1
 .simp[ht,aa,lR]at h1;cbv;refine eT ht vA (cT:=fM t) (by(simp only[ht,aa];omega)) (by(simp only[ht,aa];omega)) (λ_=>rfl) (λ_=>rfl) (λx2 jX=>?_);simp[ht,aa]at jX;simp only[cu jX,AM]at j4;have sx2:=hs _ (vag jX)
  cbv;refine ar (qw ht _ ‹_›) hY (λr3 iR=>?_);simp only[ht]at iR;cbv;iterate 8 refine gI (by simp[ht]) ?_
  (refine JB ht vA (cT:=fM t) (k-1) (λg=>by simp[ht,aa]at g ⊢;simp[g]) (λg=>by simp[ht,aa]at g;simp only[ht,aa];exact⟨yu (by omega) (by omega),by omega⟩) (λ_=>rfl) (λ_=>by simp only[fM]) (λy my=>?_);simp[ht,aa]at my);cbv;iterate 2 refine gI (by simp[ht]) ?_
  refine gI (by simp[ht,ah];intros;simp_all) ?_;refine pI (by simp[ht]) ?_;apply aj<;>intro h4
  .simp[ht,aa]at h4;cbv;refine ak ?_;(simp only[ht];rw[Kj]at j4;grind [mright,sle])
  simp[ht,aa]at h4;cbv;refine bA _ (by simp only[ht];rfl) (n-1) ?_ ((dZ _ _).2 ?_)
  .omega
  simp only[aa];refine⟨k+1,aG (by omega),by omega,?_⟩;(rw[Kj]at j4;simp only[prevStr];rw[jX];grind [sle])
 simp[ht,aa,lR]at h1;cbv;refine ar (qw ht _ ‹_›) hY (λr5 lp=>?_);simp only[ht]at lp;cbv;iterate 4 refine gI (by simp) ?_
 refine pI (by simp) ?_;refine ak ?_;(rw[vah (by omega),AM]at j4;have e:decide ((vs.length:Int)<=4)=decide (vs.length<=4):=(by rw[decide_eq_decide];omega);simp[ht,aa,mright,j4,lp,lR,e];done)
theorem P7(ht:TT t){l:List (Term)}{es:List (List D)}(aD:es=l.map Term.cells)(f:Nat)(p:Term->Bool)(hl:l.length<9223372036854775807)
 (hf:∀x∈l,FC f [.agg [ST x.key,BL x.no,SL (x.fk.map bp)]] [] (.ret (BL (p x))) []) {r:Int} (hr:r=idxOf p l):FC 189 [SL es,.fn f []] [] (.ret (bf r)) []:=by
 have hel:es.length=l.length:=by rw[aD,lgM]
 refine cC ht Tryz.func189 (N:=19) ?_;cbv;refine bw ⟨[0,1,7,8],[],[]⟩ (σ:=Nat) (λk=>[(8,bf (t _ λ_=>(k:Int)))]) (λ_=>[]) (wL p l) ?_;cbv;refine aC ⟨l.length,0,.nil,by simp only[ht];rfl,λn k hj=>?_⟩;cbv;apply aj<;>intro h
 .simp only[ht,aa,vai]at h;have hk:k<es.length:=by omega
  obtain⟨x,hx,pM,px,hpx⟩:=hj.get (by omega);have iS:=hf x pM
  rw[<-hpx]at iS;obtain⟨a,b,c⟩:=x;obtain⟨Lr,rN⟩:∃lr:List (List D),lr=c.map bp:=⟨_,rfl⟩;simp only[<-rN]at iS;cbv;refine jG [.str a,.bool b,.sl Lr] ?_ ?_ ?_
  .simp only[ht,aa];exact sE aD hk λ_=>rfl
  .simp[ht,aa,aD,hx,rN,Term.cells]
  cbv;refine dO hY iS ?_;cbv;apply aj<;>intro hb
  .cbv;refine ak ?_;simp only[ht,aa,hr,hj.hit hx (hpx▸hb)]
  cbv;refine aC ⟨n-1,k+1,⟨hj.lt hx,hj.next hx (hpx▸hb)⟩,?_⟩;simp only[ht,aa,aG (show k<9223372036854775807 by omega)];rfl
 simp only[ht,aa,vap]at h;have hk:l.length<=k:=by omega
 clear h;cbv;refine ak ?_;rw[hr,hj.none hk]
theorem P8(ht:TT t){l:List (Term)}{es:List (List D)}(aD:es=l.map Term.cells)(f:Nat)(p:Term->Bool)(hl:l.length<9223372036854775807)
 (hf:∀x∈l,FC f [.agg [ST x.key,BL x.no,SL (x.fk.map bp)]] [] (.ret (BL (p x))) []) {r:Bool} (hr:r=l.any p):FC 146 [SL es,.fn f []] [] (.ret (BL r)) []:=by
 obtain⟨k,hk⟩:∃k,k=idxOf p l:=⟨_,rfl⟩;refine cC ht Tryz.func146 (N:=9) ?_;cbv;refine dO hY (P7 ht aD f p hl hf hk) ?_;cbv;refine ak ?_;simp only[ht,hr,fL,hk]
theorem MU(ht:TT t)(k:az)(n:Bool){vs:List az}{vr:List (List D)}(vA:vr=vs.map bp)(hk:k.length<9223372036854775807)(hl:vs.length<1000000000)(hs:∀v∈vs,v.length<9223372036854775807):
 FC 147 [.agg [ST k,BL n,SL vr]] [] (.ret (cA (t _ λ_=>!mright ⟨k,n,vs⟩))) []:=by
 refine cC ht Tryz.func147 (N:=6) ?_;cbv;have lR:vr.length=vs.length:=by rw[vA,lgM]
 refine ar (P6 ht _ _ ‹_› ‹_› ‹_› ‹_›) hY (λr0 bM=>?_);simp only[ht]at bM;cbv;refine ak ?_;(simp[*];done)
theorem Kk(ht:TT t){l:List Term}{es:List (List D)}(aD:es=l.map Term.cells)(hl:l.length<1000000000)(iC:∀x∈l,x.sm):
 FC 146 [SL es,.fn 147 []] [] (.ret (cA (t _ λ_=>l.any λx=>!mright x))) []:=by
 simp only[ht];exact P8 ht aD _ _ (by omega) (λx hx=>by have h:=MU ht x.key x.no (vs:=x.fk) rfl (iC x hx).1 (iC x hx).2.1 (iC x hx).2.2;simp only[ht,cA]at h;exact h) rfl
theorem zY(ht:TT t){l:List Term}{es:List (List D)}(aD:es=l.map Term.cells)(hl:l.length<1000000000)(iC:∀x∈l,x.sm):
 FC 94 [SL es] [] (.ret (cA (t _ λ_=>pz l))) []:=by
 refine cC ht Tryz.func94 (N:=11) ?_;cbv;have ay:es.length=l.length:=by rw[aD,lgM]
 refine gI (by simp[ht]) ?_;refine aT (λg0=>⟨by simp[ht]at g0 ⊢;exact g0,hY,Kk ht ‹_› ‹_› ‹_›⟩) rfl rfl (λr1 ej=>?_);simp only[ht]at ej;cbv;refine gI (by simp[ht]) ?_;refine pI (by simp[ht]) ?_;refine ak ?_;(simp only[ht,aa,pz];grind)
def Zj(r:bD bT):AV:=.c5 [.agg [ST r.x.key,ST r.x.value],bf r.next,BL r.ok]
def OL(t:Th)(r:bD (List bT)):AV:=.c5 [SL (t _ λ_=>r.x.map bT.cells),bf r.next,BL r.ok]
theorem Tn(ht:TT t)(s:az)(p:Int)(hs:s.length<9223372036854775000)(hp:p<9223372036854775808):FC 205 [ST s,bf p] [] (.ret (Zj (t _ λ_=>iH s p))) []:=by
 refine cC ht Tryz.func205 (N:=27) ?_;cbv;refine ar (fW ht _ _ _ ‹_› ‹_› (by omega)) hY (λr0 bM=>?_);simp only[ht]at bM;have To:=dx (s:=s) (p:=p) (m:=32) hs
 (try rw[<-bM]at To);(try obtain⟨ad3,ad4,ad5⟩:=To);cbv;apply aj<;>intro h1
 .cbv;refine ar (fW ht _ _ _ ‹_› (by(refine Int.lt_of_le_of_lt ‹_› (by((try simp only[aa]at*);omega)))) (by omega)) hY (λr2 dj=>?_);simp only[ht]at dj;have abK:=dx (s:=s) (p:=p) (m:=32) hs
  (try rw[<-dj]at abK);(try obtain⟨ag5,ag6,ag7⟩:=abK);cbv;refine ak ?_;(simp only[ht,iH];grind)
 cbv;refine ak ?_;(simp only[ht,iH];grind)
theorem P9(ht:TT t)(s:az)(p most:Int)(hs:s.length<9223372036854775000)(hp:p<9223372036854775808)(hm:0<=most/\most<100000000):FC 204 [ST s,bf p,bf most,.fn 205 []] [] (.ret (OL t (t _ λ_=>gz s p most (iH s)))) []:=by
 have Wu:IntKind.u64.wrap most=most:=by rw[bW];omega
 refine cC ht Tryz.func204 (N:=51) ?_;cbv;refine ar (eF ht _ _ ‹_› ‹_›) hY (λr0 bM=>?_);simp only[ht]at bM;have gb:=eE (s:=s) (p:=p)
 rw[<-bM]at gb;cbv;iterate 4 refine gI (by simp[ht]) ?_
 refine pI (by simp[ht]) ?_;apply aj<;>intro h1
 .simp[ht,Wu]at h1;cbv;refine ak ?_;(rw[show gz s p most (iH s)=bD.py from by rw[gz,if_neg (by rw[<-bM];rintro⟨g1,g2⟩;simp_all;omega)]];simp[ht,bD.py];done)
 simp[ht,Wu]at h1;cbv;obtain⟨J2,MV⟩:∃J2:Nat->Int×List (List D)×Int->Prop,∀n a o i,J2 n (a,o,i)↔(∃(k:Nat) (rs:List bT),i=k/\k+n=r0.u.toNat/\o=rs.map bT.cells/\rs.length=k/\a<9223372036854775808/\gz s p most (iH s)=gK (iH s) n rs a):=⟨λn v=>match v with|(a,o,i)=>(∃(k:Nat) (rs:List bT),i=k/\k+n=r0.u.toNat/\o=rs.map bT.cells/\rs.length=k/\a<9223372036854775808/\gz s p most (iH s)=gK (iH s) n rs a),λ_ _ _ _=>Iff.rfl⟩;refine bw ⟨[0,1,3,8,30,31],[(8,2)],[]⟩ (σ:=Int×List (List D)×Int) (λv=>[(1,.d (.int .i64 (t _ λ_=>v.1))),(8,.ow 0 2 (t _ λ_=>(v.2.1).length)),(31,.d (.int .u64 (t _ λ_=>v.2.2)))]) (λv=>[(0,.row 2 (t _ λ_=>v.2.1))]) J2 ?_;cbv;refine aC ⟨r0.u.toNat,(_,[],_),(MV _ _ _ _).2 ?_,by simp only[ht];rfl,?_⟩
 ·(have g:=gb h1.1;exact⟨0,[],rfl,by omega,rfl,rfl,Int.lt_of_le_of_lt g.2.2.1 (by((try simp only[aa]at*);omega)),by rw[gz,if_pos (by rw[<-bM];exact h1),<-bM]⟩)
 rintro n ⟨a,o,i⟩ hj;replace hj:=(MV _ _ _ _).1 hj;obtain⟨k,rs,j1,j3,j2,j5,j6,j4⟩:=hj;have vM:o.length=rs.length:=by rw[j2,lgM]
 cbv;apply aj<;>intro h3
 .simp[ht]at h3;cbv;refine ar (Tn ht _ _ ‹_› (by(simp only[ht];omega))) hY (λr4 eY=>?_);simp only[ht]at eY;have Tp:=JE (s:=s) (p:=a) hs
  rw[<-eY]at Tp;obtain⟨m,rfl⟩:∃m,n=m+1:=⟨n-1,by((try simp only[aa]at*);omega)⟩;rw[wz eY]at j4;cbv;apply aj<;>intro h5
  .simp[ht]at h5;cbv;refine ak ?_;(simp only[ht];simp_all[bD.py];done)
  simp[ht]at h5;cbv;refine⟨?_,?_⟩
  ·(simp only[ht,true_and];exact C6 j2 (λ_=>rfl) rfl (by omega) (by decide))
  cbv;refine bA (_,_,_) (by simp only[ht,<-vaa];rfl) m ?_ ((MV _ _ _ _).2 ?_)
  .omega
  simp only[aa];exact⟨k+1,rs++[(r4).x],by rw[bW];((try simp only[aa]at*);omega),by omega,by rw[j2];simp,by simp;omega,Int.lt_of_le_of_lt Tp (by((try simp only[aa]at*);omega)),by rw[j4,if_pos ‹_›]⟩
 simp[ht]at h3;cbv;refine ia hY (by simp[ht]) rfl rfl rfl ?_;(have hn:n=0:=(by((try simp only[aa]at*);omega));rw[hn,gK]at j4;simp only[ht,j4,j2];done)
theorem Wv(ht:TT t)(s:az)(p:Int)(hs:s.length<9223372036854775000)(hp:p<9223372036854775808):FC 177 [ST s,bf p] [] (.ret (OL t (t _ λ_=>tJ s p))) []:=by
 refine cC ht Tryz.func177 (N:=23) ?_;cbv;refine aM (P9 ht _ _ _ ‹_› ‹_› (by omega)) hY (λr0 bM=>?_);simp only[ht]at bM;have Zk:=yw (s:=s) (p:=p) (m:=8) (get:=iH s)
 have ad6:=C8 (s:=s) (p:=p) (m:=8) (get:=iH s) (q:=bT.sm) (λp=>JF hs);rw[<-bM]at Zk ad6;cbv;refine gI (by simp[ht]) ?_;refine aT (λg1=>⟨by simp[ht]at g1 ⊢;exact g1,hY,uW ht (lm ht rfl) (by((try simp only[aa]at*);omega)) ‹_›⟩) rfl rfl (λr2 dj=>?_);simp only[ht]at dj;cbv;refine gI (by simp[ht]) ?_;refine pI (by simp[ht]) ?_;apply aj<;>intro h3
 .simp[ht]at h3;cbv;refine ak ?_;(simp only[ht,bD.py,tJ];grind)
 simp[ht]at h3;cbv;refine ak ?_;(simp only[ht,bD.py,tJ];grind)
def Zl(t:Th)(r:bD Node):AV:=.c5 [SK t r.x,bf r.next,BL r.ok]
def Ww(r:bD Place):AV:=.c5 [.agg [aA r.x.bL,ST r.x.node,aA r.x.v.a,aA r.x.v.b,aA r.x.v.c,aA r.x.v.d],bf r.next,BL r.ok]
def Wx(t:Th)(r:bD (List Node)):AV:=.c5 [SL (t _ λ_=>r.x.map Node.cells),bf r.next,BL r.ok]
def Tq(t:Th)(r:bD (List Place)):AV:=.c5 [SL (t _ λ_=>r.x.map Place.cells),bf r.next,BL r.ok]
def Tr(t:Th)(r:bD cR):AV:=.c5 [Jz t r.x,bf r.next,BL r.ok]
theorem Ts(ht:TT t)(s:az)(p:Int)(hs:s.length<9223372036854775000)(hp:p<9223372036854775808):FC 129 [ST s,bf p] [] (.ret (Zl t (t _ λ_=>gL s p))) []:=by
 refine cC ht Tryz.func129 (N:=58) ?_;cbv;refine ar (fW ht _ _ _ ‹_› ‹_› (by omega)) hY (λr0 bM=>?_);simp only[ht]at bM;have gr0:=(dx (s:=s) (p:=p) (m:=32) hs).2.1
 rw[<-bM]at gr0;cbv;apply aj<;>intro h1
 .simp[ht]at h1;cbv;refine ak ?_;(simp only[ht,gL,bD.UR,Node.zero,bz.zero];grind)
 simp[ht]at h1;cbv;refine ar (uV ht _ _ ‹_› (by(refine Int.lt_of_le_of_lt ‹_› (by((try simp only[aa]at*);omega))))) hY (λr2 dj=>?_);simp only[ht]at dj;have gr2:=rF (s:=s) (p:=r0.next)
 rw[<-dj]at gr2;cbv;apply aj<;>intro h3
 .simp[ht]at h3;cbv;refine ak ?_;(simp only[ht,gL,bD.UR,Node.zero,bz.zero];grind)
 simp[ht]at h3;cbv;refine aM (Wv ht _ _ ‹_› (by(refine Int.lt_of_le_of_lt ‹_› (by((try simp only[aa]at*);omega))))) hY (λr4 eY=>?_);simp only[ht]at eY;have gr4:(r4).next<=s.length:=by rw[eY];exact VQ hs
 cbv;apply aj<;>intro h5
 .simp[ht]at h5;cbv;refine ak ?_;(simp only[ht,gL,bD.UR,Node.zero,bz.zero];grind)
 simp[ht]at h5;cbv;refine ar (eF ht _ _ ‹_› (by(refine Int.lt_of_le_of_lt ‹_› (by((try simp only[aa]at*);omega))))) hY (λr6 jK=>?_);simp only[ht]at jK;cbv;iterate 2 refine gI (by simp) ?_
 refine pI (by simp) ?_;refine ak ?_;(simp only[ht,gL,bD.UR,Node.zero,bz.zero];grind)
theorem Tt(ht:TT t)(s:az)(p:Int)(hs:s.length<9223372036854775000)(hp:p<9223372036854775808):FC 131 [ST s,bf p] [] (.ret (Ww (t _ λ_=>jQ s p))) []:=by
 refine cC ht Tryz.func131 (N:=40) ?_;cbv;refine ar (eF ht _ _ ‹_› ‹_›) hY (λr0 bM=>?_);simp only[ht]at bM;have gr0:(r0).next<=s.length:=by rw[bM];exact Oy
 cbv;apply aj<;>intro h1
 .simp[ht]at h1;cbv;refine ak ?_;(simp only[ht,jQ,bD.YU,bz.zero];grind)
 simp[ht]at h1;cbv;refine ar (fW ht _ _ _ ‹_› (by(refine Int.lt_of_le_of_lt ‹_› (by((try simp only[aa]at*);omega)))) (by omega)) hY (λr2 dj=>?_);simp only[ht]at dj;have gr2:(r2).next<=s.length:=by rw[dj];exact(dx hs).2.1
 cbv;apply aj<;>intro h3
 .simp[ht]at h3;cbv;refine ak ?_;(simp only[ht,jQ,bD.YU,bz.zero];grind)
 simp[ht]at h3;cbv;refine ar (uV ht _ _ ‹_› (by(refine Int.lt_of_le_of_lt ‹_› (by((try simp only[aa]at*);omega))))) hY (λr4 eY=>?_);simp only[ht]at eY;cbv;refine ak ?_;(simp only[ht,jQ,bD.YU,bz.zero];grind)
theorem Qa(ht:TT t)(s:az)(p most:Int)(hs:s.length<9223372036854775000)(hp:p<9223372036854775808)(hm:0<=most/\most<100000000):FC 128 [ST s,bf p,bf most,.fn 129 []] [] (.ret (Wx t (t _ λ_=>gz s p most (gL s)))) []:=by
 have Wu:IntKind.u64.wrap most=most:=by rw[bW];omega
 refine cC ht Tryz.func128 (N:=51) ?_;cbv;refine ar (eF ht _ _ ‹_› ‹_›) hY (λr0 bM=>?_);simp only[ht]at bM;have gb:=eE (s:=s) (p:=p)
 rw[<-bM]at gb;cbv;iterate 4 refine gI (by simp[ht]) ?_
 refine pI (by simp[ht]) ?_;apply aj<;>intro h1
 .simp[ht,Wu]at h1;cbv;refine ak ?_;(rw[show gz s p most (gL s)=bD.py from by rw[gz,if_neg (by rw[<-bM];rintro⟨g1,g2⟩;simp_all;omega)]];simp[ht,bD.py];done)
 simp[ht,Wu]at h1;cbv;obtain⟨J2,MV⟩:∃J2:Nat->Int×List (List D)×Int->Prop,∀n a o i,J2 n (a,o,i)↔(∃(k:Nat) (rs:List Node),i=k/\k+n=r0.u.toNat/\o=rs.map Node.cells/\rs.length=k/\a<9223372036854775808/\gz s p most (gL s)=gK (gL s) n rs a):=⟨λn v=>match v with|(a,o,i)=>(∃(k:Nat) (rs:List Node),i=k/\k+n=r0.u.toNat/\o=rs.map Node.cells/\rs.length=k/\a<9223372036854775808/\gz s p most (gL s)=gK (gL s) n rs a),λ_ _ _ _=>Iff.rfl⟩;refine bw ⟨[0,1,3,8,30,31],[(8,7)],[]⟩ (σ:=Int×List (List D)×Int) (λv=>[(1,.d (.int .i64 (t _ λ_=>v.1))),(8,.ow 0 7 (t _ λ_=>(v.2.1).length)),(31,.d (.int .u64 (t _ λ_=>v.2.2)))]) (λv=>[(0,.row 7 (t _ λ_=>v.2.1))]) J2 ?_;cbv;refine aC ⟨r0.u.toNat,(_,[],_),(MV _ _ _ _).2 ?_,by simp only[ht];rfl,?_⟩
 ·(have g:=gb h1.1;exact⟨0,[],rfl,by omega,rfl,rfl,Int.lt_of_le_of_lt g.2.2.1 (by((try simp only[aa]at*);omega)),by rw[gz,if_pos (by rw[<-bM];exact h1),<-bM]⟩)
 rintro n ⟨a,o,i⟩ hj;replace hj:=(MV _ _ _ _).1 hj;obtain⟨k,rs,j1,j3,j2,j5,j6,j4⟩:=hj;have vM:o.length=rs.length:=by rw[j2,lgM]
 cbv;apply aj<;>intro h3
 .simp[ht]at h3;cbv;refine aM (Ts ht _ _ ‹_› (by(simp only[ht];omega))) hY (λr4 eY=>?_);simp only[ht]at eY;have Tp:=JH (s:=s) (p:=a)
  rw[<-eY]at Tp;obtain⟨m,rfl⟩:∃m,n=m+1:=⟨n-1,by((try simp only[aa]at*);omega)⟩;rw[wz eY]at j4;cbv;apply aj<;>intro h5
  .simp[ht]at h5;cbv;refine ak ?_;(simp only[ht];simp_all[bD.py];done)
  simp[ht]at h5;cbv;refine⟨?_,?_⟩
  ·(simp only[ht,true_and];exact C6 j2 (λ_=>rfl) rfl (by omega) (by decide))
  cbv;refine bA (_,_,_) (by simp only[ht,<-vaa];rfl) m ?_ ((MV _ _ _ _).2 ?_)
  .omega
  simp only[aa];exact⟨k+1,rs++[(r4).x],by rw[bW];((try simp only[aa]at*);omega),by omega,by rw[j2];simp,by simp;omega,Int.lt_of_le_of_lt Tp (by((try simp only[aa]at*);omega)),by rw[j4,if_pos ‹_›]⟩
 simp[ht]at h3;cbv;refine ia hY (by simp[ht]) rfl rfl rfl ?_;(have hn:n=0:=(by((try simp only[aa]at*);omega));rw[hn,gK]at j4;simp only[ht,j4,j2];done)
theorem MW(ht:TT t)(s:az)(p most:Int)(hs:s.length<9223372036854775000)(hp:p<9223372036854775808)(hm:0<=most/\most<100000000):FC 130 [ST s,bf p,bf most,.fn 131 []] [] (.ret (Tq t (t _ λ_=>gz s p most (jQ s)))) []:=by
 have Wu:IntKind.u64.wrap most=most:=by rw[bW];omega
 refine cC ht Tryz.func130 (N:=51) ?_;cbv;refine ar (eF ht _ _ ‹_› ‹_›) hY (λr0 bM=>?_);simp only[ht]at bM;have gb:=eE (s:=s) (p:=p)
 rw[<-bM]at gb;cbv;iterate 4 refine gI (by simp[ht]) ?_
 refine pI (by simp[ht]) ?_;apply aj<;>intro h1
 .simp[ht,Wu]at h1;cbv;refine ak ?_;(rw[show gz s p most (jQ s)=bD.py from by rw[gz,if_neg (by rw[<-bM];rintro⟨g1,g2⟩;simp_all;omega)]];simp[ht,bD.py];done)
 simp[ht,Wu]at h1;cbv;obtain⟨J2,MV⟩:∃J2:Nat->Int×List (List D)×Int->Prop,∀n a o i,J2 n (a,o,i)↔(∃(k:Nat) (rs:List Place),i=k/\k+n=r0.u.toNat/\o=rs.map Place.cells/\rs.length=k/\a<9223372036854775808/\gz s p most (jQ s)=gK (jQ s) n rs a):=⟨λn v=>match v with|(a,o,i)=>(∃(k:Nat) (rs:List Place),i=k/\k+n=r0.u.toNat/\o=rs.map Place.cells/\rs.length=k/\a<9223372036854775808/\gz s p most (jQ s)=gK (jQ s) n rs a),λ_ _ _ _=>Iff.rfl⟩;refine bw ⟨[0,1,3,8,30,31],[(8,6)],[]⟩ (σ:=Int×List (List D)×Int) (λv=>[(1,.d (.int .i64 (t _ λ_=>v.1))),(8,.ow 0 6 (t _ λ_=>(v.2.1).length)),(31,.d (.int .u64 (t _ λ_=>v.2.2)))]) (λv=>[(0,.row 6 (t _ λ_=>v.2.1))]) J2 ?_;cbv;refine aC ⟨r0.u.toNat,(_,[],_),(MV _ _ _ _).2 ?_,by simp only[ht];rfl,?_⟩
 ·(have g:=gb h1.1;exact⟨0,[],rfl,by omega,rfl,rfl,Int.lt_of_le_of_lt g.2.2.1 (by((try simp only[aa]at*);omega)),by rw[gz,if_pos (by rw[<-bM];exact h1),<-bM]⟩)
 rintro n ⟨a,o,i⟩ hj;replace hj:=(MV _ _ _ _).1 hj;obtain⟨k,rs,j1,j3,j2,j5,j6,j4⟩:=hj;have vM:o.length=rs.length:=by rw[j2,lgM]
 cbv;apply aj<;>intro h3
 .simp[ht]at h3;cbv;refine ar (Tt ht _ _ ‹_› (by(simp only[ht];omega))) hY (λr4 eY=>?_);simp only[ht]at eY;have Tp:=SP (s:=s) (p:=a)
  rw[<-eY]at Tp;obtain⟨m,rfl⟩:∃m,n=m+1:=⟨n-1,by((try simp only[aa]at*);omega)⟩;rw[wz eY]at j4;cbv;apply aj<;>intro h5
  .simp[ht]at h5;cbv;refine ak ?_;(simp only[ht];simp_all[bD.py];done)
  simp[ht]at h5;cbv;refine⟨?_,?_⟩
  ·(simp only[ht,true_and];exact C6 j2 (λ_=>rfl) rfl (by omega) (by decide))
  cbv;refine bA (_,_,_) (by simp only[ht,<-vaa];rfl) m ?_ ((MV _ _ _ _).2 ?_)
  .omega
  simp only[aa];exact⟨k+1,rs++[(r4).x],by rw[bW];((try simp only[aa]at*);omega),by omega,by rw[j2];simp,by simp;omega,Int.lt_of_le_of_lt Tp (by((try simp only[aa]at*);omega)),by rw[j4,if_pos ‹_›]⟩
 simp[ht]at h3;cbv;refine ia hY (by simp[ht]) rfl rfl rfl ?_;(have hn:n=0:=(by((try simp only[aa]at*);omega));rw[hn,gK]at j4;simp only[ht,j4,j2];done)
theorem G0(ht:TT t)(s:az)(p:Int)(hs:s.length<9223372036854775000)(hp:p<9223372036854775808):FC 68 [ST s,bf p] [] (.ret (Tr t (t _ λ_=>tK s p))) []:=by
 refine cC ht Tryz.func68 (N:=36) ?_;cbv;refine aM (Qa ht _ _ _ ‹_› ‹_› (by omega)) hY (λr0 bM=>?_);simp only[ht]at bM;have gr0:(r0).next<=s.length:=by rw[bM];exact Ox (λp=>JH)
 have lr0:((r0).x.length:Int)<=16:=by rw[bM];exact yw
 have sr0:∀x∈(r0).x,x.sm:=by rw[bM];exact C8 (λp=>SQ hs)
 cbv;apply aj<;>intro h1
 .simp[ht]at h1;cbv;refine ak ?_;(simp only[ht,tK,bD.C9];grind)
 simp[ht]at h1;cbv;refine aM (MW ht _ _ _ ‹_› (by(refine Int.lt_of_le_of_lt ‹_› (by((try simp only[aa]at*);omega)))) (by omega)) hY (λr2 dj=>?_);simp only[ht]at dj;have lr2:((r2).x.length:Int)<=256:=by rw[dj];exact yw
 cbv;refine gI (by simp[ht]) ?_;refine aT (λg3=>⟨by simp[ht]at g3 ⊢;exact g3,hY,Fu ht (lm ht rfl) (lm ht rfl) (by((try simp only[aa]at*);omega)) (by((try simp only[aa]at*);omega)) ‹_›⟩) rfl rfl (λr4 eY=>?_);simp only[ht]at eY;cbv;refine gI (by simp[ht]) ?_;refine pI (by simp[ht]) ?_;apply aj<;>intro h5
 .simp[ht]at h5;cbv;refine ak ?_;(simp only[ht,tK,bD.C9];grind)
 simp[ht]at h5;cbv;refine ak ?_;(simp only[ht,tK,bD.C9];grind)
theorem eI(ht:TT t)(s:az)(hs:s.length<9223372036854775000):FC 64 [ST s] [] (.ret (rD (t _ λ_=>aB s))) []:=by simp only[ht];exact MK ht s hs rfl
theorem uX(ht:TT t)(a b c d:Int)(hu:(⟨a,b,c,d⟩:bz).u):FC 65 [V4 a b c d] [] (.ret (rD (t _ λ_=>eZ ⟨a,b,c,d⟩))) []:=by
 obtain⟨ha,hb,hc,hd⟩:a<18446744073709551616/\b<18446744073709551616/\c<18446744073709551616/\d<18446744073709551616:=hu;have la:=bG a
 have lb:=bG b;have lc:=bG c
 have ld:=bG d;refine cC ht Tryz.func65 (N:=16) ?_;cbv;obtain⟨J0,dZ⟩:∃J0:Nat->List UInt8×Int->Prop,∀n o i,J0 n (o,i)↔(∃k:Nat,i=k/\k+n=4/\o=Bt ⟨a,b,c,d⟩ k):=⟨λn v=>match v with|(o,i)=>(∃k:Nat,i=k/\k+n=4/\o=Bt ⟨a,b,c,d⟩ k),λ_ _ _=>Iff.rfl⟩;refine bw ⟨[3,6,7],[],[]⟩ (σ:=List UInt8×Int) (λv=>[(3,.d (.str (t _ λ_=>v.1))),(7,.d (.int .i64 (v.2)))]) (λv=>[]) J0 ?_;cbv;refine aC ⟨4,(_,_),(dZ _ _ _).2 ?_,by simp only[ht];rfl,?_⟩
 .exact⟨0,rfl,rfl,rfl⟩
 rintro n ⟨o,i⟩ hj;replace hj:=(dZ _ _ _).1 hj;obtain⟨k,j1,j2,j3⟩:=hj;have hk:(i=0/\k=0)∨(i=1/\k=1)∨(i=2/\k=2)∨(i=3/\k=3)∨(i=4/\k=4):=by((try simp only[aa]at*);omega)
 rcases hk with⟨rfl,rfl⟩|⟨rfl,rfl⟩|⟨rfl,rfl⟩|⟨rfl,rfl⟩|⟨rfl,rfl⟩
 .cbv;apply aj<;>intro h1
  .simp[ht]at h1;cbv;refine⟨?_,?_⟩
   ·(simp[ht];done)
   cbv;refine ar (cZ ht _ ‹_›) hY (λr2 dj=>?_);simp only[ht]at dj;cbv;refine⟨?_,?_⟩
   ·(simp[Bt, *];omega)
   cbv;refine bA (_,_) (by simp only[ht];rfl) (n-1) ?_ ((dZ _ _ _).2 ?_)
   .omega
   simp only[aa];exact⟨1,by decide,by omega,by simp[Bt,bz.at_, *]⟩
  simp[ht]at h1
 .cbv;apply aj<;>intro h3
  .simp[ht]at h3;cbv;refine⟨?_,?_⟩
   ·(simp[ht];done)
   cbv;refine ar (cZ ht _ ‹_›) hY (λr4 eY=>?_);simp only[ht]at eY;cbv;refine⟨?_,?_⟩
   ·(simp[Bt,bz.at_, *];omega)
   cbv;refine bA (_,_) (by simp only[ht];rfl) (n-1) ?_ ((dZ _ _ _).2 ?_)
   .omega
   simp only[aa];exact⟨2,by decide,by omega,by simp[Bt,bz.at_, *]⟩
  simp[ht]at h3
 .cbv;apply aj<;>intro h5
  .simp[ht]at h5;cbv;refine⟨?_,?_⟩
   ·(simp[ht];done)
   cbv;refine ar (cZ ht _ ‹_›) hY (λr6 jK=>?_);simp only[ht]at jK;cbv;refine⟨?_,?_⟩
   ·(simp[Bt,bz.at_, *];omega)
   cbv;refine bA (_,_) (by simp only[ht];rfl) (n-1) ?_ ((dZ _ _ _).2 ?_)
   .omega
   simp only[aa];exact⟨3,by decide,by omega,by simp[Bt,bz.at_, *]⟩
  simp[ht]at h5
 .cbv;apply aj<;>intro h7
  .simp[ht]at h7;cbv;refine⟨?_,?_⟩
   ·(simp[ht];done)
   cbv;refine ar (cZ ht _ ‹_›) hY (λr8 tV=>?_);simp only[ht]at tV;cbv;refine⟨?_,?_⟩
   ·(simp[Bt,bz.at_, *];omega)
   cbv;refine bA (_,_) (by simp only[ht];rfl) (n-1) ?_ ((dZ _ _ _).2 ?_)
   .omega
   simp only[aa];exact⟨4,by decide,by omega,by simp[Bt,bz.at_, *]⟩
  simp[ht]at h7
 cbv;apply aj<;>intro h9
 .simp[ht]at h9
 simp[ht]at h9;cbv;refine ak ?_;(simp[ht,j3,eZ,Bt,bz.at_];done)
theorem OM(ht:TT t){l:List bT}{es:List (List D)}(aD:es=l.map bT.cells)(hl:l.length<1000000000)(iC:∀p∈l,p.sm)(hn:(pF l).length<9223372036854775000):FC 125 [SL es] [] (.ret (rD (t _ λ_=>pF l))) []:=by
 have Ep:IntKind.u64.wrap (es.length:Int)=l.length:=by rw[bW,aD,lgM];omega
 refine cC ht Tryz.func125 (N:=30) ?_;cbv;have ay:es.length=l.length:=by rw[aD,lgM]
 refine ar (uW ht ‹_› ‹_› ‹_›) hY (λr0 bM=>?_);simp only[ht]at bM;cbv;apply aj<;>intro h1
 .simp[ht]at h1;cbv;refine ak ?_;(simp only[ht,pF];grind)
 simp[ht]at h1;cbv;refine ar (cZ ht _ (by(simp only[ht];((try simp only[aa]at*);omega)))) hY (λr2 dj=>?_);simp only[ht]at dj;(try rw[Ep]at dj);cbv;obtain⟨J3,yP⟩:∃J3:Nat->List UInt8×Int->Prop,∀n o i,J3 n (o,i)↔(∃k:Nat,i=k/\k+n=l.length/\pF l=o++((l.drop k).map qg).flatten):=⟨λn v=>match v with|(o,i)=>(∃k:Nat,i=k/\k+n=l.length/\pF l=o++((l.drop k).map qg).flatten),λ_ _ _=>Iff.rfl⟩;refine bw ⟨[3,13,14,15],[],[]⟩ (σ:=List UInt8×Int) (λv=>[(3,.d (.str (t _ λ_=>v.1))),(15,.d (.int .i64 (t _ λ_=>v.2)))]) (λv=>[]) J3 ?_;cbv;refine aC ⟨l.length,(_,_),(yP _ _ _).2 ?_,by simp only[ht];rfl,?_⟩
 ·(simp only[aa,pF];grind)
 rintro n ⟨o,i⟩ hj;replace hj:=(yP _ _ _).1 hj;obtain⟨k,rfl,j1,j4⟩:=hj;cbv;apply aj<;>intro h4
 .simp[ht,aa,ay]at h4;cbv;refine eT ht aD (cT:=bT.aS t) (by(simp only[ht,aa];omega)) (by(simp only[ht,aa];omega)) (λ_=>rfl) (λ_=>rfl) (λx5 Qb=>?_);simp[ht,aa]at Qb;rw[mo Qb,qg]at j4;have pV:=vac List.length j4
  simp[aB]at pV;have iw:(x5).key.length<9223372036854775000:=by omega
  have hv1:(x5).value.length<9223372036854775000:=by omega
  cbv;refine bE [false,false,false,false,false,false,false,false,true,true] ?_;cbv;iterate 3 refine gI (by simp) ?_
  refine .inl ?_;refine aT (λg6=>⟨hY,hY,eI ht _ ‹_›⟩) rfl rfl (λr7 jU=>?_);simp only[ht]at jU;cbv;iterate 2 refine gI (by simp) ?_
  refine .inl ?_;refine aT (λg8=>⟨hY,hY,eI ht _ ‹_›⟩) rfl rfl (λr9 dR=>?_);simp only[ht]at dR;cbv;refine gI (by simp[ht];grind) ?_;refine⟨?_,?_⟩
  ·(simp[aB, *];((try simp only[aa]at*);omega))
  cbv;refine bA (_,_) (by simp only[ht];rfl) (n-1) ?_ ((yP _ _ _).2 ?_)
  .omega
  simp only[aa];exact⟨k+1,aG (by omega),by omega,by rw[j4];simp[*]⟩
 simp[ht,aa,ay]at h4;cbv;refine ak ?_;(rw[vah (by omega),List.map_nil,List.flatten_nil,List.append_nil]at j4;simp only[ht,j4];done)
theorem Wy(ht:TT t)(nm:az)(a b c d:Int){lb:List bT}{lr:List (List D)}(hlr:lr=lb.map bT.cells)(up:Bool)(hu:(⟨a,b,c,d⟩:bz).u)(hl:lb.length<1000000000)(iC:∀p∈lb,p.sm)(hn:(oC ⟨nm,⟨a,b,c,d⟩,lb,up⟩).length<9223372036854775000):
 FC 63 [.agg [ST nm,aA a,aA b,aA c,aA d,SL lr,BL up]] [] (.ret (rD (t _ λ_=>oC ⟨nm,⟨a,b,c,d⟩,lb,up⟩))) []:=by
 have hn2:=hn;simp only[oC,aB,vaa]at hn2;refine cC ht Tryz.func63 (N:=20) ?_;cbv;have MR:lr.length=lb.length:=by rw[hlr,lgM]
 apply aj<;>intro h0
 .cbv;refine bE [false,false,false,false,false,false,false,false,false,false,false,false,false,true,true] ?_;cbv;iterate 2 refine gI (by simp) ?_
  refine .inl ?_;refine aT (λg1=>⟨hY,hY,eI ht _ (by omega)⟩) rfl rfl (λr2 dj=>?_);simp only[ht]at dj;have Zm:(r2).length=(aF nm.length).length+nm.length:=by rw[dj,aB,vaa]
  cbv;iterate 2 refine gI (by simp) ?_
  refine .inl ?_;refine aT (λg3=>⟨hY,hY,uX ht _ _ _ _ ‹_›⟩) rfl rfl (λr4 eY=>?_);simp only[ht]at eY;have abL:(r4).length<=40:=by rw[eY];exact mH _
  cbv;refine gI (by simp[ht];omega) ?_;iterate 2 refine gI (by simp) ?_
  refine .inl ?_;refine aT (λg5=>⟨hY,hY,OM ht ‹_› ‹_› ‹_› (by omega)⟩) rfl rfl (λr6 jK=>?_);simp only[ht]at jK;have abM:(r6).length=(pF lb).length:=by rw[jK]
  cbv;refine gI (by simp[ht];omega) ?_;refine gI (by simp) ?_;refine .inl ?_;refine aT (λg7=>⟨hY,hY,cZ ht _ (by omega)⟩) rfl rfl (λr8 tV=>?_);simp only[ht]at tV;have abN:(r8).length<=10:=by rw[tV];exact bG _
  cbv;refine⟨?_,?_⟩
  ·(simp[ht];omega)
  cbv;refine ak ?_;(simp[oC, *];done)
 cbv;refine bE [false,false,false,false,false,false,false,false,false,false,false,false,false,true,true] ?_;cbv;iterate 2 refine gI (by simp) ?_
 refine .inl ?_;refine aT (λg9=>⟨hY,hY,eI ht _ (by omega)⟩) rfl rfl (λr10 Dz=>?_);simp only[ht]at Dz;have afE:(r10).length=(aF nm.length).length+nm.length:=by rw[Dz,aB,vaa]
 cbv;iterate 2 refine gI (by simp) ?_
 refine .inl ?_;refine aT (λg11=>⟨hY,hY,uX ht _ _ _ _ ‹_›⟩) rfl rfl (λZn qx=>?_);simp only[ht]at qx;have XY:(Zn).length<=40:=by rw[qx];exact mH _
 cbv;refine gI (by simp[ht];omega) ?_;iterate 2 refine gI (by simp) ?_
 refine .inl ?_;refine aT (λg13=>⟨hY,hY,OM ht ‹_› ‹_› ‹_› (by omega)⟩) rfl rfl (λZo qy=>?_);simp only[ht]at qy;have abO:(Zo).length=(pF lb).length:=by rw[qy]
 cbv;refine gI (by simp[ht];omega) ?_;refine gI (by simp) ?_;refine .inl ?_;refine aT (λg15=>⟨hY,hY,cZ ht _ (by omega)⟩) rfl rfl (λr16 G1=>?_);simp only[ht]at G1;have abP:(r16).length<=10:=by rw[G1];exact bG _
 cbv;refine⟨?_,?_⟩
 ·(simp[ht];omega)
 cbv;refine ak ?_;(simp[oC, *];done)
theorem Wz(ht:TT t){l:List Node}{ps:List Place}{es qs:List (List D)}(aD:es=l.map Node.cells)(fX:qs=ps.map Place.cells)(hl:l.length<1000000000)(oB:ps.length<1000000000)(iC:∀x∈l,x.sm)(hu:∀x∈l,x.cap.u)
 (hxu:∀x∈ps,x.v.u/\x.bL<18446744073709551616) (hn:(iy ⟨l,ps⟩).length<9223372036854775000):
 FC 21 [.agg [SL es,SL qs]] [] (.ret (rD (t _ λ_=>iy ⟨l,ps⟩))) []:=by
 have Ep:IntKind.u64.wrap (es.length:Int)=l.length:=by rw[bW,aD,lgM];omega
 have hqw:IntKind.u64.wrap (qs.length:Int)=ps.length:=by rw[bW,fX,lgM];omega
 refine cC ht Tryz.func21 (N:=54) ?_;cbv;have ay:es.length=l.length:=by rw[aD,lgM]
 have cM:qs.length=ps.length:=by rw[fX,lgM]
 refine ar (cZ ht _ (by(simp only[ht];((try simp only[aa]at*);omega)))) hY (λr0 bM=>?_);simp only[ht]at bM;(try rw[Ep]at bM);(try rw[hqw]at bM);have Zk:=vac List.length bM
 (try have eps:r0=aF (ps.length:Int):=bM);cbv;obtain⟨J1,iB⟩:∃J1:Nat->List UInt8×Int->Prop,∀n o i,J1 n (o,i)↔(∃k:Nat,i=k/\k+n=l.length/\iy ⟨l,ps⟩=o++((l.drop k).map oC).flatten++aF ps.length++(ps.map yy).flatten):=⟨λn v=>match v with|(o,i)=>(∃k:Nat,i=k/\k+n=l.length/\iy ⟨l,ps⟩=o++((l.drop k).map oC).flatten++aF ps.length++(ps.map yy).flatten),λ_ _ _=>Iff.rfl⟩;refine bw ⟨[1,3,14,15,16],[],[]⟩ (σ:=List UInt8×Int) (λv=>[(3,.d (.str (t _ λ_=>v.1))),(16,.d (.int .i64 (t _ λ_=>v.2)))]) (λv=>[]) J1 ?_;cbv;refine aC ⟨l.length,(_,_),(iB _ _ _).2 ?_,by simp only[ht];rfl,?_⟩
 .exact⟨0,rfl,by simp,by simp[iy, *]⟩
 rintro n ⟨o,i⟩ hj;replace hj:=(iB _ _ _).1 hj;obtain⟨k,rfl,j1,j4⟩:=hj;cbv;apply aj<;>intro h2
 .simp[ht,aa,ay]at h2;cbv;refine eT ht aD (cT:=Node.aS t) (by(simp only[ht,aa];omega)) (by(simp only[ht,aa];omega)) (λ_=>rfl) (λ_=>(by(simp only[ht,Node.aS];done))) (λx3 oU=>?_);simp[ht,aa]at oU;rw[mo oU]at j4;have pV:=vac List.length j4
  simp at pV;have hs1:=iC _ (vag oU)
  have XZ:=hu _ (vag oU);have hnp:(oC x3).length<9223372036854775000:=by omega
  obtain⟨nx,V8⟩:∃nx,nx=oC x3:=⟨_,rfl⟩;rw[<-V8]at pV j4;cbv;(refine ar (Wy ht _ _ _ _ _ (by simp only[ht]) _ XZ hs1.2.1 hs1.2.2 hnp) hY (λr9 dR=>?_);simp only[ht]at dR;have gl9:r9=nx:=dR.trans V8.symm;subst gl9);cbv;refine⟨?_,?_⟩
  ·(simp only[ht,aa]at*;omega)
  cbv;refine bA (_,_) (by simp only[ht];rfl) (n-1) ?_ ((iB _ _ _).2 ?_)
  .omega
  simp only[aa];exact⟨k+1,aG (by omega),by omega,by rw[j4];simp[*]⟩
 simp[ht,aa,ay]at h2;cbv;refine ar (cZ ht _ (by(simp only[ht];((try simp only[aa]at*);omega)))) hY (λr4 eY=>?_);simp only[ht]at eY;(try rw[Ep]at eY);(try rw[hqw]at eY);have abL:=vac List.length eY
 (try have eps:r4=aF (ps.length:Int):=eY);cbv;refine⟨?_,?_⟩
 ·(simp only[ht];grind)
 cbv;obtain⟨J5,Zp⟩:∃J5:Nat->List UInt8×Int->Prop,∀n o i,J5 n (o,i)↔(∃k:Nat,i=k/\k+n=ps.length/\iy ⟨l,ps⟩=o++((ps.drop k).map yy).flatten):=⟨λn v=>match v with|(o,i)=>(∃k:Nat,i=k/\k+n=ps.length/\iy ⟨l,ps⟩=o++((ps.drop k).map yy).flatten),λ_ _ _=>Iff.rfl⟩;refine bw ⟨[3,33,34,35],[],[]⟩ (σ:=List UInt8×Int) (λv=>[(3,.d (.str (t _ λ_=>v.1))),(35,.d (.int .i64 (t _ λ_=>v.2)))]) (λv=>[]) J5 ?_;cbv;refine aC ⟨ps.length,(_,_),(Zp _ _ _).2 ?_,by simp only[ht];rfl,?_⟩
 .exact⟨0,rfl,by simp,by rw[j4,vah (show l.length<=k by omega)];simp[eps]⟩
 rintro n ⟨o,i⟩ hj;replace hj:=(Zp _ _ _).1 hj;obtain⟨k,rfl,j1,j4⟩:=hj;cbv;apply aj<;>intro h6
 .simp[ht,aa,cM]at h6;cbv;refine eT ht fX (cT:=Place.aS t) (by(simp only[ht,aa];omega)) (by(simp only[ht,aa];omega)) (λ_=>rfl) (λ_=>rfl) (λx7 mx7=>?_);simp[ht,aa]at mx7;rw[mo mx7,yy]at j4;have pV:=vac List.length j4
  simp[aB]at pV;have XZ:=hxu _ (vag mx7)
  clear mx7;obtain⟨jb,nd,⟨v1,v2,v3,v4⟩⟩:=x7;simp only at XZ pV;cbv;refine bE [false,false,false,false,false,false,false,false,false,false,false,false,true,true] ?_;cbv;iterate 3 refine gI (by simp) ?_
  refine .inl ?_;refine aT (λg8=>⟨hY,hY,cZ ht _ (by omega)⟩) rfl rfl (λr9 dR=>?_);simp only[ht]at dR;(try rw[Ep]at dR);(try rw[hqw]at dR);have Zq:=vac List.length dR
  (try have eps:r9=aF (ps.length:Int):=dR);cbv;iterate 2 refine gI (by simp) ?_
  refine .inl ?_;refine aT (λg10=>⟨hY,hY,eI ht _ (by omega)⟩) rfl rfl (λWf mW=>?_);simp only[ht]at mW;have X1:=vac List.length mW
  simp only[aB,vaa]at X1;cbv;refine gI (by simp[ht];omega) ?_;iterate 2 refine gI (by simp) ?_
  refine .inl ?_;refine aT (λg12=>⟨hY,hY,uX ht _ _ _ _ (by(simp[*];done))⟩) rfl rfl (λr13 G2=>?_);simp only[ht]at G2;have afG:=vac List.length G2
  cbv;refine gI (by simp[ht];omega) ?_;refine⟨?_,?_⟩
  ·(simp[ht];omega)
  cbv;refine bA (_,_) (by simp only[ht];rfl) (n-1) ?_ ((Zp _ _ _).2 ?_)
  .omega
  simp only[aa];exact⟨k+1,aG (by omega),by omega,by rw[j4];simp[*]⟩
 simp[ht,aa,cM]at h6;cbv;refine ak ?_;(rw[vah (by omega)]at j4;simp only[ht];grind)
theorem WA(ht:TT t)(k:az)(no:Bool){vs:List az}{vr:List (List D)}(vA:vr=vs.map bp)(hl:vs.length<1000000000)(hn:(jR ⟨k,no,vs⟩).length<9223372036854775000):
 FC 126 [.agg [ST k,BL no,SL vr]] [] (.ret (rD (t _ λ_=>jR ⟨k,no,vs⟩))) []:=by
 have hw2:IntKind.i64.wrap (2*(vr.length:Int))=2*(vs.length:Int):=by rw[vA,lgM];exact wrap64 (by omega) (by omega)
 have hw3:IntKind.u64.wrap (2*(vs.length:Int))=2*(vs.length:Int):=by rw[bW];omega
 have hw4:IntKind.u64.wrap (IntKind.i64.wrap (2*(vs.length:Int)+1))=2*(vs.length:Int)+1:=by rw[wrap64 (by omega) (by omega),bW];omega
 have hn2:=hn;simp only[jR,aB,vaa]at hn2;refine cC ht Tryz.func126 (N:=35) ?_;cbv;have lR:vr.length=vs.length:=by rw[vA,lgM]
 apply aj<;>intro h0
 .cbv;refine ar (eI ht _ (by omega)) hY (λr1 ej=>?_);simp only[ht]at ej;have Zr:=vac List.length ej
  simp only[aB,vaa]at Zr;cbv;refine ar (cZ ht _ (by(simp only[ht,bW];omega))) hY (λr2 dj=>?_);simp only[ht]at dj;simp only[hw2,hw4]at dj;have Zm:(r2).length<=10:=by rw[dj];exact bG _
  cbv;refine⟨?_,?_⟩
  ·(simp only[ht,aa]at*;omega)
  cbv;obtain⟨J3,yP⟩:∃J3:Nat->List UInt8×Int->Prop,∀n o i,J3 n (o,i)↔(∃q:Nat,i=q/\q+n=vs.length/\jR ⟨k,no,vs⟩=o++((vs.drop q).map aB).flatten):=⟨λn v=>match v with|(o,i)=>(∃q:Nat,i=q/\q+n=vs.length/\jR ⟨k,no,vs⟩=o++((vs.drop q).map aB).flatten),λ_ _ _=>Iff.rfl⟩;refine bw ⟨[4,23,24,25],[],[]⟩ (σ:=List UInt8×Int) (λv=>[(4,.d (.str (t _ λ_=>v.1))),(25,.d (.int .i64 (t _ λ_=>v.2)))]) (λv=>[]) J3 ?_;cbv;refine aC ⟨vs.length,(_,_),(yP _ _ _).2 ?_,by simp only[ht];rfl,?_⟩
  .exact⟨0,rfl,by simp,by simp[jR, *]⟩
  rintro n ⟨o,i⟩ hj;replace hj:=(yP _ _ _).1 hj;obtain⟨q,rfl,j1,j4⟩:=hj;cbv;apply aj<;>intro h4
  .simp[ht,aa,lR]at h4;cbv;refine eT ht vA (cT:=fM t) (by(simp only[ht,aa];omega)) (by(simp only[ht,aa];omega)) (λ_=>rfl) (λ_=>rfl) (λx5 Qb=>?_);simp[ht,aa]at Qb;rw[mo Qb]at j4;have pV:=vac List.length j4
   simp[aB]at pV;cbv;refine ar (eI ht _ (by omega)) hY (λr6 jK=>?_);simp only[ht]at jK;have abM:=vac List.length jK
   simp only[aB,vaa]at abM;cbv;refine⟨?_,?_⟩
   ·(simp only[ht,aa]at*;omega)
   cbv;refine bA (_,_) (by simp only[ht];rfl) (n-1) ?_ ((yP _ _ _).2 ?_)
   .omega
   simp only[aa];exact⟨q+1,aG (by omega),by omega,by rw[j4];simp[*]⟩
  simp[ht,aa,lR]at h4;cbv;refine ak ?_;(rw[vah (by omega),List.map_nil,List.flatten_nil,List.append_nil]at j4;simp only[ht,j4];done)
 cbv;refine ar (eI ht _ (by omega)) hY (λr7 jU=>?_);simp only[ht]at jU;have Tu:=vac List.length jU
 simp only[aB,vaa]at Tu;cbv;refine ar (cZ ht _ (by(simp only[ht,bW];omega))) hY (λr8 tV=>?_);simp only[ht]at tV;simp only[hw2,hw3]at tV;have abN:(r8).length<=10:=by rw[tV];exact bG _
 cbv;refine⟨?_,?_⟩
 ·(simp only[ht,aa]at*;omega)
 cbv;obtain⟨J9,hJ9⟩:∃J9:Nat->List UInt8×Int->Prop,∀n o i,J9 n (o,i)↔(∃q:Nat,i=q/\q+n=vs.length/\jR ⟨k,no,vs⟩=o++((vs.drop q).map aB).flatten):=⟨λn v=>match v with|(o,i)=>(∃q:Nat,i=q/\q+n=vs.length/\jR ⟨k,no,vs⟩=o++((vs.drop q).map aB).flatten),λ_ _ _=>Iff.rfl⟩;refine bw ⟨[4,23,24,25],[],[]⟩ (σ:=List UInt8×Int) (λv=>[(4,.d (.str (t _ λ_=>v.1))),(25,.d (.int .i64 (t _ λ_=>v.2)))]) (λv=>[]) J9 ?_;cbv;refine aC ⟨vs.length,(_,_),(hJ9 _ _ _).2 ?_,by simp only[ht];rfl,?_⟩
 .exact⟨0,rfl,by simp,by simp[jR, *]⟩
 rintro n ⟨o,i⟩ hj;replace hj:=(hJ9 _ _ _).1 hj;obtain⟨q,rfl,j1,j4⟩:=hj;cbv;apply aj<;>intro h10
 .simp[ht,aa,lR]at h10;cbv;refine eT ht vA (cT:=fM t) (by(simp only[ht,aa];omega)) (by(simp only[ht,aa];omega)) (λ_=>rfl) (λ_=>rfl) (λx11 abR=>?_);simp[ht,aa]at abR;rw[mo abR]at j4;have pV:=vac List.length j4
  simp[aB]at pV;cbv;refine ar (eI ht _ (by omega)) hY (λZn qx=>?_);simp only[ht]at qx;have XY:=vac List.length qx
  simp only[aB,vaa]at XY;cbv;refine⟨?_,?_⟩
  ·(simp only[ht,aa]at*;omega)
  cbv;refine bA (_,_) (by simp only[ht];rfl) (n-1) ?_ ((hJ9 _ _ _).2 ?_)
  .omega
  simp only[aa];exact⟨q+1,aG (by omega),by omega,by rw[j4];simp[*]⟩
 simp[ht,aa,lR]at h10;cbv;refine ak ?_;(rw[vah (by omega),List.map_nil,List.flatten_nil,List.append_nil]at j4;simp only[ht,j4];done)
theorem WB(ht:TT t){l:List Term}{es:List (List D)}(aD:es=l.map Term.cells)(hl:l.length<1000000000)(iC:∀x∈l,x.sm)(hn:(yx l).length<9223372036854775000):
 FC 66 [SL es] [] (.ret (rD (t _ λ_=>yx l))) []:=by
 have Ep:IntKind.u64.wrap (es.length:Int)=l.length:=by rw[bW,aD,lgM];omega
 refine cC ht Tryz.func66 (N:=25) ?_;cbv;have ay:es.length=l.length:=by rw[aD,lgM]
 refine ar (zY ht ‹_› ‹_› ‹_›) hY (λr0 bM=>?_);simp only[ht]at bM;cbv;apply aj<;>intro h1
 .simp[ht]at h1;cbv;refine ak ?_;(simp_all[yx];done)
 simp[ht]at h1;cbv;refine ar (cZ ht _ (by(simp only[ht];((try simp only[aa]at*);omega)))) hY (λr2 dj=>?_);simp only[ht]at dj;(try rw[Ep]at dj);have Zm:=vac List.length dj
 cbv;obtain⟨J3,yP⟩:∃J3:Nat->List UInt8×Int->Prop,∀n o i,J3 n (o,i)↔(∃k:Nat,i=k/\k+n=l.length/\yx l=o++((l.drop k).map jR).flatten):=⟨λn v=>match v with|(o,i)=>(∃k:Nat,i=k/\k+n=l.length/\yx l=o++((l.drop k).map jR).flatten),λ_ _ _=>Iff.rfl⟩;refine bw ⟨[3,13,14,15],[],[]⟩ (σ:=List UInt8×Int) (λv=>[(3,.d (.str (t _ λ_=>v.1))),(15,.d (.int .i64 (t _ λ_=>v.2)))]) (λv=>[]) J3 ?_;cbv;refine aC ⟨l.length,(_,_),(yP _ _ _).2 ?_,by simp only[ht];rfl,?_⟩
 .exact⟨0,rfl,by simp,by simp_all[yx]⟩
 rintro n ⟨o,i⟩ hj;replace hj:=(yP _ _ _).1 hj;obtain⟨k,rfl,j1,j4⟩:=hj;cbv;apply aj<;>intro h4
 .simp[ht,aa,ay]at h4;cbv;refine eT ht aD (cT:=Term.aS t) (by(simp only[ht,aa];omega)) (by(simp only[ht,aa];omega)) (λ_=>rfl) (λ_=>(by(simp only[ht,Term.aS];rfl))) (λx5 Qb=>?_);simp[ht,aa]at Qb;rw[mo Qb]at j4;have pV:=vac List.length j4
  simp at pV;have hs1:=iC _ (vag Qb)
  have hnp:(jR x5).length<9223372036854775000:=by omega
  obtain⟨nx,V8⟩:∃nx,nx=jR x5:=⟨_,rfl⟩;rw[<-V8]at pV j4;cbv;(refine ar (WA ht _ _ (by simp only[ht]) hs1.2.1 hnp) hY (λr9 dR=>?_);simp only[ht]at dR;have gl9:r9=nx:=dR.trans V8.symm;subst gl9);cbv;refine⟨?_,?_⟩
  ·(simp only[ht,aa]at*;omega)
  cbv;refine bA (_,_) (by simp only[ht];rfl) (n-1) ?_ ((yP _ _ _).2 ?_)
  .omega
  simp only[aa];exact⟨k+1,aG (by omega),by omega,by rw[j4];simp[*]⟩
 simp[ht,aa,ay]at h4;cbv;refine ak ?_;(rw[vah (by omega),List.map_nil,List.flatten_nil,List.append_nil]at j4;simp only[ht,j4];done)
theorem uY{s:az}{p m n q:Int}(h:dP s p m=some (n,q)):0<=n/\n<=m/\0<=q/\q<=s.length:=by
 obtain⟨g1,g2,rfl,rfl⟩:=qt h;have:=eE g1
 omega
theorem qz{s:az}{p q:Int}{x:az}(hs:s.length<9223372036854775000)(h:fT s p=some (x,q)):0<=q/\q<=s.length/\x.length<=s.length:=by
 obtain⟨g1,rfl,rfl⟩:=Dx h;have:=dx (s:=s) (p:=p) (m:=32) hs
 omega
theorem A5{s:az}{n:Nat}{l L:List az}{p e:Int}(h:fw s (n+1) l p=some (L,e)):∃x q,fT s p=some (x,q)/\fw s n (l++[x]) q=some (L,e):=by
 rw[fw]at h;split at h
 .rename_i x q g;exact⟨x,q,g,h⟩
 cases h
theorem G3{s:az}{n:Nat}{l L:List az}{p e:Int}(h:fw s n l p=some (L,e)):n=0∨∃m x q,n=m+1/\fT s p=some (x,q)/\fw s m (l++[x]) q=some (L,e):=by
 cases n with
 |zero=>exact .inl rfl|succ m=>obtain⟨x,q,g1,g2⟩:=A5 h;exact .inr ⟨m,x,q,rfl,g1,g2⟩
theorem DA{s:az}{p e:Int}{x:Term}(h:kN s p=some (x,e)):∃q n r,fT s p=some (x.key,q)/\dP s q 9=some (n,r)/\x.no=decide (n%2=1)/\fw s (n.toNat / 2) [] r=some (x.fk,e):=by
 unfold kN at h;split at h
 .cases h
 rename_i k q g;split at h
 .cases h
 rename_i n r g2;split at h
 .cases h
 rename_i l e' g3;simp only[osI,vab]at h;obtain⟨rfl,rfl⟩:=h;exact⟨q,n,r,g,g2,rfl,g3⟩
theorem Kl{l:List az}{x:az}(h:l.length<1000000):((l.map bp).length+[bp x].length)*16<=140737488355328/\∀r,r∈l.map bp++[bp x]->r.length=1:=by
 refine⟨by simp;omega,?_⟩;intro r hr;rcases List.mem_append.1 hr with hr|hr
 .obtain⟨y,_,rfl⟩:=List.mem_map.1 hr;rfl
 rw[List.mem_singleton.1 hr];rfl
theorem ON(ht:TT t)(s:az){p e:Int}{k:az}{no:Bool}{vs:List az}{vr:List (List D)}(hs:s.length<9223372036854775000)(hp:p<9223372036854775808)(vA:vr=vs.map bp)(h:kN s p=some (⟨k,no,vs⟩,e)):
 FC 208 [.ptr 0 0] [.var [ST s,bf p]] (.ret (.agg [ST k,BL no,SL vr])) [.var [ST s,bf e]]:=by
 obtain⟨q,n0,r,g1,g2,g3,g4⟩:=DA h;simp only at g1 g3 g4;have b1:=qz hs g1
 have b2:=uY g2;have b3:(n0.tmod 2=1)↔n0%2=1:=by rw[Int.tmod_eq_emod_of_nonneg (by omega)]
 have b4:IntKind.i64.wrap (n0.tdiv 2)=(n0.toNat / 2:Nat):=by rw[Int.tdiv_eq_ediv_of_nonneg (by omega),bN (by omega) (by omega)];omega
 refine kJ ht (aK:=[.var [ST s,bf p]]) Tryz.func208 rfl rfl (N:=27) rfl rfl (n:=1) rfl rfl ?_;cbv;have lR:vr.length=vs.length:=by rw[vA,lgM]
 (refine aW [0] hY rfl rfl (BO ht s hs (by omega) g1) (aH ?_));cbv;(refine aW [0] hY rfl rfl (GV ht s hs (by((try simp only[aa]at*);omega)) (by decide) g2) (aH ?_));cbv;refine⟨?_,?_⟩
 ·(simp only[ht,aa]at*;omega)
 refine⟨?_,?_⟩
 ·(simp only[ht,aa]at*;omega)
 cbv;obtain⟨J0,dZ⟩:∃J0:Nat->Int×List (List D)×Int->Prop,∀n i o a,J0 n (i,o,a)↔(∃(c:Nat) (l:List az),i=c/\c+n=n0.toNat / 2/\o=l.map bp/\l.length=c/\0<=a/\a<=s.length/\fw s n l a=some (vs,e)):=⟨λn v=>match v with|(i,o,a)=>(∃(c:Nat) (l:List az),i=c/\c+n=n0.toNat / 2/\o=l.map bp/\l.length=c/\0<=a/\a<=s.length/\fw s n l a=some (vs,e)),λ_ _ _ _=>Iff.rfl⟩;refine bw ⟨[0,2,3,15,16],[],[(2,2,1)]⟩ (σ:=Int×List (List D)×Int) (λv=>[(16,.d (.int .i64 (t _ λ_=>v.1)))]) (λv=>[(3,.row 1 (t _ λ_=>v.2.1)),(2,.var [AV.d (D.str k),AV.d (D.bool (t Bool λx=>decide ((t Int λx=>Int.tmod n0 2)=1))),.ow 3 1 (t _ λ_=>(v.2.1).length)]),(0,.var [AV.d (D.str s),.d (.int .i64 (t _ λ_=>v.2.2))])]) J0 ?_;cbv;refine aC ⟨n0.toNat / 2,(_,[],_),(dZ _ _ _ _).2 ?_,by simp only[ht];rfl,?_⟩
 .exact⟨0,[],rfl,by omega,rfl,rfl,b2.2.2.1,b2.2.2.2,g4⟩
 rintro n ⟨i,o,a⟩ hj;replace hj:=(dZ _ _ _ _).1 hj;obtain⟨c,l,rfl,j1,rfl,j3,j4,j5,j6⟩:=hj;have hx:=G3 j6
 cbv;apply aj<;>intro h1
 .simp[ht,aa,b4]at h1;cbv;(obtain⟨m,x,a2,rfl,jx,jy⟩:=hx.resolve_left (by((try simp only[aa]at*);omega));have b5:=qz hs jx;apply yd [2] (.more 0 (.more 1 (.one 2 (.one 3 (.one 4 (.one 5 (.one 6 (.one 7 .done)))))) (.one 2 (.more 1 (.one 3 (.one 4 (.one 5 (.one 6 (.one 7 .done))))) (.one 3 (.more 1 (.one 4 (.one 5 (.one 6 (.one 7 .done)))) (.one 4 (.one 1 (.one 5 (.one 6 (.one 7 .done)))))))))) (.one 2 (.more 0 (.more 1 (.one 3 (.one 4 (.one 5 (.one 6 (.one 7 .done))))) (.one 3 (.more 1 (.one 4 (.one 5 (.one 6 (.one 7 .done)))) (.one 4 (.one 1 (.one 5 (.one 6 (.one 7 .done)))))))) (.one 3 (.more 0 (.more 1 (.one 4 (.one 5 (.one 6 (.one 7 .done)))) (.one 4 (.one 1 (.one 5 (.one 6 (.one 7 .done)))))) (.one 4 (.one 0 (.one 1 (.one 5 (.one 6 (.one 7 .done)))))))))));kernel_rfl;kernel_rfl;kernel_rfl;kernel_rfl;(next=>cbv;repeat (first|(refine aW [0] hY rfl rfl (BO ht s hs (by simp only[ht];((try simp only[aa]at*);omega)) (by simp only[ht];exact jx)) (aH ?_);cbv)|refine And.intro ?_ ?_|exact rfl|(simp only[ht,true_and];exact Kl (l:=l) (x:=x) (by omega))|exact True.intro)));cbv;refine bA (_,_,_) (by simp only[ht,<-vaa];rfl) m ?_ ((dZ _ _ _ _).2 ?_)
  .omega
  simp only[aa];exact⟨c+1,l++[x],aG (by omega),by omega,by simp,by simp;omega,b5.1,b5.2.1,jy⟩
 simp[ht,aa,b4]at h1;cbv;(have hn:n=0:=(by((try simp only[aa]at*);omega));subst hn;rw[fw]at j6;simp only[osI,vab]at j6;obtain⟨rfl,rfl⟩:=j6;exact ia hY (by simp[ht]) rfl (by simp only[ht];rfl) rfl (by simp only[ht];subst g3 vA;simp only[b3]))
theorem WC(ht:TT t)(s:az)(p a:Int)(ok:Bool)(n:Nat)(es:List (List D)):FDR 206 [.ptr 0 0,.ptr 1 0,.ptr 2 0] [.var [.ow 4 3 n],.var [bf a],.var [BL ok],.var [ST s,bf p],.row 3 es] (.ret (.c5 [])) [.var [.ow 4 3 n],.var [bf a],.var [BL ok],.var [ST s,bf p],.row 3 es]:=by refine Y9 ht (aK:=[.var [.ow 4 3 n],.var [bf a],.var [BL ok],.var [ST s,bf p],.row 3 es]) Tryz.func206 rfl rfl (N:=9) rfl rfl (n:=5) rfl rfl rfl ?_;cbv;refine p9 rfl ?_;cbv;exact SC hY rfl rfl
theorem A6{s:az}{n:Nat}{l L:List Term}{p e:Int}(h:fe s (n+1) l p=some (L,e)):∃x q,kN s p=some (x,q)/\fe s n (l++[x]) q=some (L,e):=by
 rw[fe]at h;split at h
 .rename_i x q g;exact⟨x,q,g,h⟩
 cases h
theorem G4{s:az}{n:Nat}{l L:List Term}{p e:Int}(h:fe s n l p=some (L,e)):n=0∨∃m x q,n=m+1/\kN s p=some (x,q)/\fe s m (l++[x]) q=some (L,e):=by
 cases n with
 |zero=>exact .inl rfl|succ m=>obtain⟨x,q,g1,g2⟩:=A6 h;exact .inr ⟨m,x,q,rfl,g1,g2⟩
theorem Fv{s:az}(hs:s.length<9223372036854775000):∀{n:Nat} {l L:List az} {p e:Int},fw s n l p=some (L,e)->0<=p->p<=s.length->0<=e/\e<=s.length
 |0,l,L,p,e,h,h1,h2=>by rw[fw]at h;simp only[osI,vab]at h;omega|n+1,l,L,p,e,h,h1,h2=>by
  obtain⟨x,q,g1,g2⟩:=A5 h;have:=qz hs g1
  exact Fv hs g2 this.1 this.2.1
theorem DB{s:az}{p e:Int}{x:Term}(hs:s.length<9223372036854775000)(h:kN s p=some (x,e)):0<=e/\e<=s.length:=by
 obtain⟨q,n,r,g1,g2,g3,g4⟩:=DA h;have b1:=qz hs g1
 have b2:=uY g2;exact Fv hs g4 b2.2.2.1 b2.2.2.2
theorem DC{s:az}{p e:Int}{L:List Term}(h:AN s p=some (L,e)):∃n q,dP s p 4=some (n,q)/\fe s n.toNat [] q=some (L,e)/\pz L=true:=by
 unfold AN at h;split at h
 .cases h
 rename_i n q g;split at h
 .cases h
 rename_i l e' g2;split at h
 .rename_i g3;simp only[osI,vab]at h;obtain⟨rfl,rfl⟩:=h;exact⟨n,q,g,g2,g3⟩
 cases h
theorem Fw{l:List Term}{k:az}{no:Bool}{vr:List (List D)}(h:l.length<1000000):((l.map Term.cells).length+[[D.str k,D.bool no,D.sl vr]].length)*48<=140737488355328/\∀r,r∈l.map Term.cells++[[D.str k,D.bool no,D.sl vr]]->r.length=3:=by
 refine⟨by simp;omega,?_⟩;intro r hr;rcases List.mem_append.1 hr with hr|hr
 .obtain⟨y,_,rfl⟩:=List.mem_map.1 hr;rfl
 rw[List.mem_singleton.1 hr];rfl
theorem Zs(ht:TT t)(s:az){p e:Int}{L:List Term}{es:List (List D)}(hs:s.length<9223372036854775000)(hp:p<9223372036854775808)(aD:es=L.map Term.cells)(iC:∀x∈L,x.sm)(h:AN s p=some (L,e)):
 FC 178 [ST s,bf p] [] (.ret (.c5 [SL es,bf e,BL true])) []:=by
 obtain⟨n0,q,g1,g2,g3⟩:=DC h;have b1:=uY g1
 refine Wg ht (aK:=[]) Tryz.func178 rfl rfl (N:=33) rfl rfl (n:=0) rfl rfl rfl ?_;cbv;have ay:es.length=L.length:=by rw[aD,lgM]
 (refine aW [3] hY rfl rfl (GV ht s hs (by omega) (by decide) g1) (aH ?_));cbv;obtain⟨J0,dZ⟩:∃J0:Nat->Int×List (List D)×Int->Prop,∀n i o a,J0 n (i,o,a)↔(∃(c:Nat) (l:List Term),i=c/\c+n=n0.toNat/\o=l.map Term.cells/\l.length=c/\0<=a/\a<=s.length/\fe s n l a=some (L,e)):=⟨λn v=>match v with|(i,o,a)=>(∃(c:Nat) (l:List Term),i=c/\c+n=n0.toNat/\o=l.map Term.cells/\l.length=c/\0<=a/\a<=s.length/\fe s n l a=some (L,e)),λ_ _ _ _=>Iff.rfl⟩;refine bw ⟨[4,5,6,7,14,15],[],[(0,0,3)]⟩ (σ:=Int×List (List D)×Int) (λv=>[(15,.d (.int .i64 (t _ λ_=>v.1)))]) (λv=>[(4,.row 3 (t _ λ_=>v.2.1)),(0,.var [.ow 4 3 (t _ λ_=>(v.2.1).length)]),(3,.var [AV.d (D.str s),.d (.int .i64 (t _ λ_=>v.2.2))])]) J0 ?_;cbv;refine aC ⟨n0.toNat,(_,[],_),(dZ _ _ _ _).2 ?_,by simp only[ht];rfl,?_⟩
 .exact⟨0,[],rfl,by omega,rfl,rfl,b1.2.2.1,b1.2.2.2,g2⟩
 rintro n ⟨i,o,a⟩ hj;replace hj:=(dZ _ _ _ _).1 hj;obtain⟨c,l,rfl,j1,rfl,j3,j4,j5,j6⟩:=hj;have hx:=G4 j6
 cbv;apply aj<;>intro h1
 .simp[ht,aa]at h1;cbv;(obtain⟨m,⟨k,no,vs⟩,a2,rfl,jx,jy⟩:=hx.resolve_left (by((try simp only[aa]at*);omega));have b5:=DB hs jx;obtain⟨vr,vA⟩:∃vr,vr=vs.map bp:=⟨_,rfl⟩;apply yd [1] (.more 0 (.one 1 (.one 2 (.one 3 (.one 4 (.one 5 .done))))) (.one 1 (.more 0 (.one 2 (.one 3 (.one 4 (.one 5 .done)))) (.one 2 (.more 0 (.one 3 (.one 4 (.one 5 .done))) (.one 3 (.one 0 (.one 4 (.one 5 .done)))))))));kernel_rfl;kernel_rfl;kernel_rfl;kernel_rfl;(next=>cbv;repeat (first|(refine aW [3] hY rfl rfl (ON ht s hs (by simp only[ht];((try simp only[aa]at*);omega)) vA (by simp only[ht];exact jx)) (aH ?_);cbv)|refine And.intro ?_ ?_|exact rfl|(simp only[ht,true_and];exact Fw (l:=l) (k:=k) (no:=no) (vr:=vr) (by omega))|exact True.intro)));cbv;refine bA (_,_,_) (by simp only[ht,<-vaa];rfl) m ?_ ((dZ _ _ _ _).2 ?_)
  .omega
  simp only[aa];exact⟨c+1,l++[⟨k,no,vs⟩],aG (by omega),by omega,by simp[Term.cells,vA],by simp;omega,b5.1,b5.2,jy⟩
 simp[ht,aa]at h1;cbv;(have hn:n=0:=(by((try simp only[aa]at*);omega));subst hn;rw[fe]at j6;simp only[osI,vab]at j6;refine ar (zY ht (l:=L) (by simp only[ht];rw[j6.1]) (by rw[<-j6.1];omega) iC) (by simp[ht]) (λr7 jU=>?_);simp only[ht,g3]at jU);cbv;apply aj<;>intro h2
 .simp[ht]at h2;(rw[jU]at h2;cases h2)
 simp[ht]at h2;cbv;(apply yd [1] (.more 0 (.one 1 (.more 2 (.more 3 (.more 4 (.one 5 (.one 6 (.one 7 .done))) (.one 5 (.one 4 (.one 6 (.one 7 .done))))) (.one 5 (.one 3 (.one 4 (.one 6 (.one 7 .done)))))) (.one 5 (.one 2 (.one 3 (.one 4 (.one 6 (.one 7 .done)))))))) (.one 1 (.more 0 (.more 2 (.more 3 (.more 4 (.one 5 (.one 6 (.one 7 .done))) (.one 5 (.one 4 (.one 6 (.one 7 .done))))) (.one 5 (.one 3 (.one 4 (.one 6 (.one 7 .done)))))) (.one 5 (.one 2 (.one 3 (.one 4 (.one 6 (.one 7 .done))))))) (.one 2 (.more 0 (.more 3 (.more 4 (.one 5 (.one 6 (.one 7 .done))) (.one 5 (.one 4 (.one 6 (.one 7 .done))))) (.one 5 (.one 3 (.one 4 (.one 6 (.one 7 .done)))))) (.one 3 (.more 0 (.more 4 (.one 5 (.one 6 (.one 7 .done))) (.one 5 (.one 4 (.one 6 (.one 7 .done))))) (.one 4 (.one 0 (.one 5 (.one 6 (.one 7 .done))))))))))));kernel_rfl;kernel_rfl;kernel_rfl;kernel_rfl;(next=>cbv;repeat (first|refine And.intro ?_ ?_|exact rfl)));cbv;(refine C2 (WC ht _ _ _ _ _ _) ?_);cbv;refine ia hY (by simp[ht]) rfl rfl rfl ?_;(simp[*];done)
theorem bH{s:az}{p u q:Int}(h:aV s p=⟨u,q,true⟩):0<=u/\u<18446744073709551616/\0<=q/\q<=s.length:=by have:=eE (s:=s) (p:=p) (by rw[h]);rw[h]at this;simp only at this;omega
def dS(s:az):Nat->List cw->Int->Option (List cw×Int)
 |0,l,p=>some (l,p)|n+1,l,p=>match aV s p with
  |⟨a,p1,true⟩=>match aV s p1 with
   |⟨b,p2,true⟩=>match aV s p2 with
    |⟨c,p3,true⟩=>dS s n (l++[⟨a,b,IntKind.i64.wrap c⟩]) p3|_=>none
   |_=>none
  |_=>none
def fB(s:az)(p:Int):Option (oq×Int):=
 match aV s p with
 |⟨f,p1,true⟩=>match aV s p1 with
  |⟨n,p2,true⟩=>match dS s n.toNat [] p2 with
   |some (l,e)=>some (⟨f,l⟩,e)|none=>none
  |_=>none
 |_=>none
theorem A7{s:az}{n:Nat}{l L:List cw}{p e:Int}(h:dS s (n+1) l p=some (L,e)):
 ∃a b c p1 p2 q,aV s p=⟨a,p1,true⟩/\aV s p1=⟨b,p2,true⟩/\aV s p2=⟨c,q,true⟩/\dS s n (l++[⟨a,b,IntKind.i64.wrap c⟩]) q=some (L,e):=by
 rw[dS]at h;split at h
 .rename_i a p1 e1;split at h
  .rename_i b p2 e2;split at h
   .rename_i c q e3;exact⟨a,b,c,p1,p2,q,e1,e2,e3,h⟩
   cases h
  cases h
 cases h
theorem G5{s:az}{n:Nat}{l L:List cw}{p e:Int}(h:dS s n l p=some (L,e)):n=0∨∃m a b c p1 p2 q,n=m+1/\aV s p=⟨a,p1,true⟩/\aV s p1=⟨b,p2,true⟩/\aV s p2=⟨c,q,true⟩/\dS s m (l++[⟨a,b,IntKind.i64.wrap c⟩]) q=some (L,e):=by
 cases n with
 |zero=>exact .inl rfl|succ m=>obtain⟨a,b,c,p1,p2,q,g⟩:=A7 h;exact .inr ⟨m,a,b,c,p1,p2,q,rfl,g⟩
theorem zZ{s:az}:∀{n:Nat} {l L:List cw} {p e:Int},dS s n l p=some (L,e)->0<=p->p<=s.length->0<=e/\e<=s.length/\L.length=l.length+n
 |0,l,L,p,e,h,h1,h2=>by rw[dS]at h;simp only[osI,vab]at h;obtain⟨rfl,rfl⟩:=h;omega
 |n+1,l,L,p,e,h,h1,h2=>by
  obtain⟨a,b,c,p1,p2,q,g1,g2,g3,g4⟩:=A7 h;have:=bH g3
  have:=zZ g4 this.2.2.1 this.2.2.2;simp only[vaa,List.length_singleton]at this;omega
theorem DD{s:az}{p e:Int}{f:Int}{l:List cw}(h:fB s p=some (⟨f,l⟩,e)):∃n p1 p2,aV s p=⟨f,p1,true⟩/\aV s p1=⟨n,p2,true⟩/\dS s n.toNat [] p2=some (l,e):=by
 unfold fB at h;split at h
 .rename_i f' p1 e1;split at h
  .rename_i n p2 e2;split at h
   .rename_i l' e' e3;simp only[osI,vab,oq.mk.injEq]at h;obtain⟨⟨rfl,rfl⟩,rfl⟩:=h;exact⟨n,p1,p2,e1,e2,e3⟩
   cases h
  cases h
 cases h
theorem mL{s:az}{p e:Int}{x:oq}(h:fB s p=some (x,e)):0<=e/\e<=s.length:=by
 obtain⟨f,l⟩:=x;obtain⟨n,p1,p2,g1,g2,g3⟩:=DD h;have b:=bH g2
 have:=zZ g3 b.2.2.1 b.2.2.2;omega
theorem Fx{l:List cw}{a b c:Int}(h:l.length<1000000):((l.map cw.cells).length+[[D.int .u64 a,D.int .u64 b,D.int .i64 c]].length)*24<=140737488355328/\∀r,r∈l.map cw.cells++[[D.int .u64 a,D.int .u64 b,D.int .i64 c]]->r.length=3:=by
 refine⟨by simp;omega,?_⟩;intro r hr;rcases List.mem_append.1 hr with hr|hr
 .obtain⟨y,_,rfl⟩:=List.mem_map.1 hr;rfl
 rw[List.mem_singleton.1 hr];rfl
theorem BP{F:Nat->List AV->List av->eP->List av->Prop}{T:Nat->Option TI}{G:Nat->Option (List D)}{N:Nat}{ops:List Oper}{i:Nat}{K:St->Prop}{Q:Ex->St->Prop}{s:St}(h:wj t F T G N ops i K Q s):wj t F T G N ops i K Q s:=h
theorem kT{k:Nat}(h:k<1000000):IntKind.u64.wrap ((k:Int)+1)=((k+1:Nat):Int):=by rw[bW];omega
theorem gC(ht:TT t)(s:az)(p q:Int):
 FC 69 [.ptr 0 0,bf q,BL true] [.var [ST s,bf p]] (.ret (.c5 [])) [.var [ST s,bf q]]:=by
 refine kJ ht (aK:=[.var [ST s,bf p]]) Tryz.func69 rfl rfl (N:=14) rfl rfl (n:=1) rfl rfl ?_;cbv;apply aj<;>intro h0
 .simp[ht]at h0
 simp[ht]at h0;cbv;refine ak ?_;rfl
theorem bI(ht:TT t)(s:az){p n q:Int}(hs:s.length<9223372036854775000)(hp:p<9223372036854775808)(h:aV s p=⟨n,q,true⟩):
 FC 67 [.ptr 0 0] [.var [ST s,bf p]] (.ret (aA n)) [.var [ST s,bf q]]:=by
 refine kJ ht (aK:=[.var [ST s,bf p]]) Tryz.func67 rfl rfl (N:=24) rfl rfl (n:=1) rfl rfl ?_;cbv;refine bE [false,false,false,false,false,false,false,false,true,true,false,false,false,false,false,true] ?_;cbv;iterate 8 refine gI (by simp) ?_
 refine ar (eF ht _ _ ‹_› ‹_›) hY (λr0 bM=>?_);simp only[ht]at bM;(rw[h]at bM;subst bM);cbv;iterate 5 refine gI (by simp) ?_
 (refine aW [0] hY rfl rfl (gC ht s p q) (aH ?_));cbv;refine ak ?_;rfl
theorem jg(ht:TT t)(s:az){p e f:Int}{l:List cw}{nr:List (List D)}(hs:s.length<9223372036854775000)(hp:p<9223372036854775808)(hl:l.length<1000000)(Zt:nr=l.map cw.cells)(h:fB s p=some (⟨f,l⟩,e)):
 FC 72 [.ptr 0 0] [.var [ST s,bf p]] (.ret (.agg [aA f,SL nr])) [.var [ST s,bf e]]:=by
 obtain⟨n0,p1,p2,g1,g2,g3⟩:=DD h;have b1:=bH g1
 have b2:=bH g2;have b3:=zZ g3 b2.2.2.1 b2.2.2.2
 simp only[List.length_nil,Nat.zero_add]at b3;refine kJ ht (aK:=[.var [ST s,bf p]]) Tryz.func72 rfl rfl (N:=30) rfl rfl (n:=1) rfl rfl ?_;cbv;have G6:nr.length=l.length:=by rw[Zt,lgM]
 (refine aW [0] hY rfl rfl (bI ht s hs (by omega) g1) (aH ?_));cbv;(refine aW [0] hY rfl rfl (bI ht s hs (by((try simp only[aa]at*);omega)) g2) (aH ?_));cbv;obtain⟨J0,dZ⟩:∃J0:Nat->Int×List (List D)×Int->Prop,∀n i o a,J0 n (i,o,a)↔(∃(c:Nat) (k:List cw),i=c/\c+n=n0.toNat/\o=k.map cw.cells/\k.length=c/\0<=a/\a<=s.length/\dS s n k a=some (l,e)):=⟨λn v=>match v with|(i,o,a)=>(∃(c:Nat) (k:List cw),i=c/\c+n=n0.toNat/\o=k.map cw.cells/\k.length=c/\0<=a/\a<=s.length/\dS s n k a=some (l,e)),λ_ _ _ _=>Iff.rfl⟩;refine bw ⟨[0,2,3,10,11],[],[(2,1,3)]⟩ (σ:=Int×List (List D)×Int) (λv=>[(11,.d (.int .u64 (t _ λ_=>v.1)))]) (λv=>[(3,.row 3 (t _ λ_=>v.2.1)),(2,.var [AV.d (D.int IntKind.u64 f),.ow 3 3 (t _ λ_=>(v.2.1).length)]),(0,.var [AV.d (D.str s),.d (.int .i64 (t _ λ_=>v.2.2))])]) J0 ?_;cbv;refine aC ⟨n0.toNat,(_,[],_),(dZ _ _ _ _).2 ?_,by simp only[ht];rfl,?_⟩
 .exact⟨0,[],rfl,by omega,rfl,rfl,b2.2.2.1,b2.2.2.2,g3⟩
 rintro n ⟨i,o,a⟩ hj;replace hj:=(dZ _ _ _ _).1 hj;obtain⟨c,k,rfl,j1,rfl,j3,j4,j5,j6⟩:=hj;have hx:=G5 j6
 cbv;apply aj<;>intro h1
 .simp[ht,aa]at h1;cbv;((obtain⟨m,u1,u2,u3,q1,q2,q3,rfl,y1,y2,y3,jy⟩:=hx.resolve_left (by((try simp only[aa]at*);omega));have d1:=bH y1;have d2:=bH y2;have d3:=bH y3;refine aW [0] hY rfl rfl (bI ht s hs (by simp only[ht];((try simp only[aa]at*);omega)) (by simp only[ht];exact y1)) (aH ?_)));cbv;(refine aW [0] hY rfl rfl (bI ht s hs (by((try simp only[aa]at*);omega)) y2) (aH ?_));cbv;(apply Ol (aZ 12 1 [(0,0)]::aZ 12 4 [(0,2)]::aZ 12 8 [(0,3)]::aZ 12 16 [(0,4)]::aZ 12 3 [(1,1)]::aZ 12 5 [(1,2),(2,0)]::aZ 12 9 [(1,3),(3,0)]::aZ 12 12 [(2,3),(3,2)]::aZ 12 17 [(1,4),(4,0)]::aZ 12 20 [(2,4),(4,2)]::aZ 12 24 [(3,4),(4,3)]::aZ 12 48 [(4,5)]::aZ 12 7 [(5,2),(6,1)]::aZ 12 11 [(5,3),(7,1)]::aZ 12 13 [(6,3),(7,2),(8,0)]::aZ 12 19 [(5,4),(9,1)]::aZ 12 21 [(6,4),(9,2),(10,0)]::aZ 12 25 [(7,4),(9,3),(11,0)]::aZ 12 28 [(8,4),(10,3),(11,2)]::aZ 12 49 [(9,5),(12,0)]::aZ 12 52 [(10,5),(12,2)]::aZ 12 56 [(11,5),(12,3)]::aZ 12 112 [(12,6)]::aZ 12 15 [(13,3),(14,2),(15,1)]::aZ 12 23 [(13,4),(16,2),(17,1)]::aZ 12 27 [(14,4),(16,3),(18,1)]::aZ 12 29 [(15,4),(17,3),(18,2),(19,0)]::aZ 12 51 [(16,5),(20,1)]::aZ 12 53 [(17,5),(20,2),(21,0)]::aZ 12 57 [(18,5),(20,3),(22,0)]::aZ 12 60 [(19,5),(21,3),(22,2)]::aZ 12 113 [(20,6),(23,0)]::aZ 12 116 [(21,6),(23,2)]::aZ 12 120 [(22,6),(23,3)]::aZ 12 31 [(24,4),(25,3),(26,2),(27,1)]::aZ 12 55 [(25,5),(28,2),(29,1)]::aZ 12 59 [(26,5),(28,3),(30,1)]::aZ 12 61 [(27,5),(29,3),(30,2),(31,0)]::aZ 12 115 [(28,6),(32,1)]::aZ 12 117 [(29,6),(32,2),(33,0)]::aZ 12 121 [(30,6),(32,3),(34,0)]::aZ 12 124 [(31,6),(33,3),(34,2)]::aZ 12 63 [(35,5),(36,3),(37,2),(38,1)]::aZ 12 119 [(36,6),(39,2),(40,1)]::aZ 12 123 [(37,6),(39,3),(41,1)]::aZ 12 125 [(38,6),(40,3),(41,2),(42,0)]::aZ 12 252 [(42,7)]::aZ 12 127 [(43,6),(44,3),(45,2),(46,1)]::aZ 12 253 [(46,7),(47,0)]::aZ 12 508 [(47,8)]::aZ 12 255 [(48,7),(49,1)]::aZ 12 509 [(49,8),(50,0)]::aZ 12 511 [(51,8),(52,1)]::aZ 12 1023 [(53,9)]::aZ 12 2047 [(54,10)]::aZ 12 4095 [(55,11)]::[]) (_::_::_::_::_::_::_::_::_::_::_::_::_::_::_::_::_::_::_::_::_::_::_::_::_::_::_::_::_::_::_::_::_::_::_::_::_::_::_::_::_::_::_::_::_::_::_::_::_::_::_::_::_::_::_::_::_::[]);kernel_rfl;(next=>refine Mb.mk rfl ?_;repeat (first|((with_reducible apply vq.cons);exact rfl)|(with_reducible exact vq.nil)|((with_reducible apply BP);focus (cbv;first|done|(refine aW [0] hY rfl rfl (bI ht s hs (by((try simp only[aa]at*);omega)) y3) (aH ?_);cbv;done)|(refine And.intro ?_ ?_;(next=>(simp only[ht,true_and];exact Fx (l:=k) (by omega)));exact rfl)))|(apply p8.cons;exact rfl)|exact p8.nil));(next=>exact rfl));cbv;refine bA (_,_,_) (by simp only[ht,<-vaa];rfl) m ?_ ((dZ _ _ _ _).2 ?_)
  .omega
  simp only[aa];exact⟨c+1,k++[⟨u1,u2,IntKind.i64.wrap u3⟩],kT (by omega),by omega,by simp[cw.cells],by simp;omega,d3.2.2.1,d3.2.2.2,jy⟩
 simp[ht,aa]at h1;cbv;(have hn:n=0:=(by((try simp only[aa]at*);omega));subst hn;rw[dS]at j6;simp only[osI,vab]at j6;obtain⟨rfl,rfl⟩:=j6;exact ia hY (by simp[ht]) rfl (by simp only[ht];rfl) rfl (by simp only[ht];subst Zt;rfl))
theorem Km(ht:TT t)(s:az){z:Int}(hz:z=47):FC 235 [ST s,.d (.int .u8 z)] [] (.ret (ol (t _ λ_=>(s.count 47:Nat)))) []:=by subst hz;refine fcX Tryz.func235 (by kernel_rfl) (by kernel_rfl) (by kernel_rfl) (e:=Extern.BytealgCount.count) (by kernel_rfl) ?_;intro β w vs ok h;simp only[an,ai,aP]at h;obtain⟨_,_,rfl,rfl,_,_,rfl,rfl,rfl⟩:=h;refine⟨_,Lib.run_countString _ _ _,?_⟩;simp[ol,ai,aP,Lib.countByte,ht]
theorem Bx(ht:TT t)(s:az){z:Int}(hz:z=47):FC 242 [ST s,.d (.int .u8 z)] [] (.ret (ol (t _ λ_=>Lib.indexByte s 47))) []:=by subst hz;refine fcX Tryz.func242 (by kernel_rfl) (by kernel_rfl) (by kernel_rfl) (e:=Extern.BytealgIndexByte.indexByte) (by kernel_rfl) ?_;intro β w vs ok h;simp only[an,ai,aP]at h;obtain⟨_,_,rfl,rfl,_,_,rfl,rfl,rfl⟩:=h;refine⟨_,Lib.run_indexByteString _ _ _,?_⟩;simp[ol,ai,aP,ht]
theorem Tv(ht:TT t)(s:az):FC 226 [ST s,ST [47]] [] (.ret (ol (t _ λ_=>(s.count 47:Nat)))) []:=by
 refine cC ht Tryz.func226 (N:=34) ?_;cbv;apply aj<;>intro h0
 .simp[ht]at h0
 simp[ht]at h0;cbv;apply aj<;>intro h1
 .simp[ht]at h1;cbv;refine⟨?_,?_⟩
  ·(simp[ht];done)
  cbv;refine ar (Km ht _ (lm ht rfl)) hY (λr2 dj=>?_);simp only[ht]at dj;cbv;refine ak ?_;(simp[*];done)
 simp[ht]at h1
theorem G7(ht:TT t)(s:az){z:Int}(hz:z=47):FC 238 [ST s,.d (.int .u8 z)] [] (.ret (ol (t _ λ_=>Lib.indexByte s 47))) []:=by refine cC ht Tryz.func238 (N:=8) ?_;cbv;refine ar (Bx ht _ ‹_›) hY (λr0 bM=>?_);simp only[ht]at bM;cbv;refine ak ?_;(simp[*];done)
theorem MX(ht:TT t)(s:az):FC 236 [ST s,ST [47]] [] (.ret (ol (t _ λ_=>Lib.indexByte s 47))) []:=by
 refine cC ht Tryz.func236 (N:=143) ?_;cbv;iterate 3 refine gI (by simp[ht]) ?_
 refine pI (by simp[ht]) ?_;apply aj<;>intro h0
 .simp[ht]at h0;cbv;refine ak ?_;(subst h0;(try simp only[ht]);rfl)
 simp[ht]at h0;cbv;apply aj<;>intro h1
 .simp[ht]at h1;cbv;refine⟨?_,?_⟩
  ·(simp[ht];done)
  cbv;refine ar (G7 ht _ (lm ht rfl)) hY (λr2 dj=>?_);simp only[ht]at dj;cbv;refine ak ?_;(simp[*];done)
 simp[ht]at h1
theorem Tw(ht:TT t)(s:az):FC 227 [ST s,ST [47]] [] (.ret (ol (t _ λ_=>Lib.indexByte s 47))) []:=by refine cC ht Tryz.func227 (N:=8) ?_;cbv;refine ar (MX ht _) hY (λr0 bM=>?_);simp only[ht]at bM;cbv;refine ak ?_;(simp[*];done)
theorem Zu{pre:List az}{m k:Nat}{x:az}{u:List (List D)}(h:pre.length=k)(hk:k<=m)(hu:u=(pre++List.replicate (m+1-k) []).map bp):
 u.set k (bP (u.getD k []) 0 [D.str x])=((pre++[x])++List.replicate (m-k) []).map bp:=by
 obtain⟨d,rfl⟩:∃d,m=k+d:=⟨m-k,by omega⟩;have e:k+d+1-k=d+1:=by omega
 rw[hu,e,Nat.add_sub_cancel_left,List.replicate_succ];simp[bP,<-h,bp]
theorem Tx{pre:List az}{m k:Nat}{x:az}{V:List (List D)}(hV:V=((pre++[x])++List.replicate (m-k) []).map bp)(h:pre.length=k)(hk:k<=m)(hm:m<1000000000001):
 m+1=V.length/\(b9 V.length none (some (IntKind.i64.wrap ((k:Int)+1)))/\∀r∈V,r.length=1)/\gZ V none (some (IntKind.i64.wrap ((k:Int)+1)))=(pre++[x]).map bp:=by
 have e:IntKind.i64.wrap ((k:Int)+1)=((k+1:Nat):Int):=by rw[wrap64 (by omega) (by omega)];omega
 have hl:V.length=m+1:=by rw[hV];simp[h];omega
 refine⟨hl.symm,⟨?_,?_⟩,?_⟩
 .rw[e,hl];simp only[b9];omega
 .intro r hr;rw[hV]at hr;obtain⟨y,_,rfl⟩:=List.mem_map.1 hr;rfl
 rw[e,hV];simp only[gZ,vak];rw[List.map_append,List.take_append_of_le_length (by simp[h]),vao (by simp[h])]
theorem Kn(ht:TT t)(s:az)(hs:s.length<1000000000000):FC 216 [ST s,ST [47],bf 0,bf (-1)] [] (.ret (JA t (t _ λ_=>cm 47 s))) []:=by
 obtain⟨m,hm⟩:∃m,m=s.count 47:=⟨_,rfl⟩;have Vk:m<=s.length:=by rw[hm];exact List.count_le_length
 have hmin:∀r:Int,r=(m:Nat)->min (IntKind.i64.wrap (r+1)) (IntKind.i64.wrap ((s.length:Int)+1))=((m+1:Nat):Int):=λr hr=>by rw[hr,wrap64 (by omega) (by omega),wrap64 (by omega) (by omega)];omega
 have hmv:IntKind.i64.wrap (m:Int)=(m:Int):=wrap64 (by omega) (by omega);have Wu:IntKind.i64.wrap (((m+1:Nat):Int)-1)=(m:Int):=by rw[wrap64 (by omega) (by omega)];omega
 refine cC ht Tryz.func216 (N:=66) ?_;cbv;apply aj<;>intro h0
 .simp[ht]at h0
 simp[ht]at h0;cbv;apply aj<;>intro h1
 .simp[ht]at h1
 simp[ht]at h1;cbv;apply aj<;>intro h2
 .simp[ht]at h2;cbv;refine ar (Tv ht _) hY (λr3 iR=>?_);simp only[ht]at iR;(rw[<-hm]at iR;replace hmin:=hmin _ iR);cbv;refine⟨?_,?_⟩
  ·(simp only[ht,aa];grind)
  cbv;obtain⟨J4,HS⟩:∃J4:Nat->List UInt8×Int×List (List D)->Prop,∀n s2 i u,J4 n (s2,i,u)↔(∃(k:Nat) (pre:List az),i=k/\pre.length=k/\cm 47 s=pre++cm 47 s2/\k+s2.count 47=m/\k+n=m/\u=(pre++List.replicate (m+1-k) []).map bp/\s2.length<=s.length):=⟨λn v=>match v with|(s2,i,u)=>(∃(k:Nat) (pre:List az),i=k/\pre.length=k/\cm 47 s=pre++cm 47 s2/\k+s2.count 47=m/\k+n=m/\u=(pre++List.replicate (m+1-k) []).map bp/\s2.length<=s.length),λ_ _ _ _=>Iff.rfl⟩;refine bw ⟨[0,1,2,3,9,10],[],[]⟩ (σ:=List UInt8×Int×List (List D)) (λv=>[(0,.d (.str (t _ λ_=>v.1))),(10,.d (.int .i64 (t _ λ_=>v.2.1)))]) (λv=>[(0,.row 1 (t _ λ_=>v.2.2))]) J4 ?_;cbv;refine aC ⟨m,(_,_,_),(HS _ _ _ _).2 ?_,by simp only[ht];rfl,?_⟩
  .exact⟨0,[],rfl,rfl,rfl,by omega,by omega,by simp only[hmin];simp,by omega⟩
  rintro n ⟨s2,i,u⟩ hj;replace hj:=(HS _ _ _ _).1 hj;obtain⟨k,pre,rfl,j1,j2,j3,j4,j5,j6⟩:=hj;have Zv:=λx=>Zu (x:=x) j1 (show k<=m by omega) j5
  cbv;apply aj<;>intro h5
  .simp[ht,aa,hmin,hmv]at h5;cbv;refine ar (Tw ht _) hY (λr6 jK=>?_);simp only[ht]at jK;cbv;apply aj<;>intro h7
   .simp[ht]at h7;cbv;refine⟨?_,?_⟩
    ·(exfalso;have q:=GJ jK h7;omega)
    refine⟨?_,?_⟩
    ·(exfalso;have q:=GJ jK h7;omega)
    refine⟨?_,?_⟩
    ·(exfalso;have q:=GJ jK h7;omega)
    cbv;refine ak ?_;(exfalso;have q:=GJ jK h7;omega)
   simp[ht]at h7;cbv;refine⟨?_,?_⟩
   ·(obtain⟨j,e1,e2,e3,e4⟩:=GK jK h7;simp only[ht,e1];simp[b9];rw[wrap64 (by omega) (by omega)];omega)
   refine⟨?_,?_⟩
   ·(simp only[ht,aa]at*;omega)
   refine⟨?_,?_⟩
   ·(simp only[ht,aa];grind)
   refine⟨?_,?_⟩
   ·(obtain⟨j,e1,e2,e3,e4⟩:=GK jK h7;simp only[ht,e1];simp[b9];rw[wrap64 (by omega) (by omega)];omega)
   cbv;refine bA (_,_,_) (by simp only[ht];rfl) (n-1) ?_ ((HS _ _ _ _).2 ?_)
   .omega
   simp only[aa];(obtain⟨j,e1,e2,e3,e4⟩:=GK jK h7;subst e1;have ew:IntKind.i64.wrap ((j:Int)+([47]:az).length)=((j+1:Nat):Int):=(by simp;rw[wrap64 (by omega) (by omega)]);have ez:IntKind.i64.wrap ((j:Int)+0)=(j:Nat):=(by rw[wrap64 (by omega) (by omega)];omega);rw[ew,ez];simp only[gZ,vak];exact⟨k+1,pre++[s2.take j],aG (by omega),by simp[j1],by rw[j2,e3];simp,by omega,by omega,by rw[Zv];simp,by simp;omega⟩)
  simp[ht,aa,hmin,hmv]at h5;cbv;refine⟨?_,?_⟩
  ·(simp only[ht,aa]at*;omega)
  refine⟨?_,?_⟩
  ·(simp only[ht,aa];grind)
  refine⟨?_,?_⟩
  ·(have q:=Tx (Zv s2) j1 (by omega) (by omega);simp only[ht,vak,hmin];exact⟨q.1,q.2.1⟩)
  cbv;refine ak ?_;(have q:=Tx (Zv s2) j1 (by omega) (by omega);simp only[ht,vak];rw[q.2.2,j2,Db (by omega)])
 simp[ht]at h2
theorem Ty(ht:TT t)(s:az)(hs:s.length<1000000000000):FC 190 [ST s,ST [47]] [] (.ret (JA t (t _ λ_=>cm 47 s))) []:=by refine cC ht Tryz.func190 (N:=8) ?_;cbv;refine aM (Kn ht _ ‹_›) hY (λr0 bM=>?_);simp only[ht]at bM;cbv;refine ak ?_;(simp[*];done)
end Dem
end
section
namespace Go.Proofs
open Go.Shelf
def Tryz.A8:Go.Shelf.Ren:=⟨λ|156=>151|165=>192|166=>193|169=>194|240=>217|241=>218|276=>228|277=>229|n=>n,λ|31=>56|9=>9|3=>3|4=>4|0=>0|20=>20|72=>270|76=>274|70=>268|37=>135|75=>273|127=>295|164=>306|5=>5|80=>78|n=>n,λ|n=>n⟩
theorem Tryz.OO:Go.Proofs.Lays.n156 Tryz.prog Tryz.A8:={
 mixed:=by kernel_rfl
 f156:=Tryz.func151.trans (congrArg some (by kernel_rfl))
 f165:=Tryz.func192.trans (congrArg some (by kernel_rfl))
 f166:=Tryz.func193.trans (congrArg some (by kernel_rfl))
 f169:=Tryz.func194.trans (congrArg some (by kernel_rfl))
 f240:=Tryz.func217.trans (congrArg some (by kernel_rfl))
 f241:=Tryz.func218.trans (congrArg some (by kernel_rfl))
 f276:=Tryz.func228.trans (congrArg some (by kernel_rfl))
 f277:=Tryz.func229.trans (congrArg some (by kernel_rfl))
 t0:=Tryz.underlying0
 a0:=Tryz.isAgg0
 z0:=Tryz.sizeOf0
 v0:=Tryz.zeroValue0
 t3:=Tryz.underlying3
 a3:=Tryz.isAgg3
 z3:=Tryz.sizeOf3
 v3:=Tryz.zeroValue3
 t4:=Tryz.underlying4
 a4:=Tryz.isAgg4
 z4:=Tryz.sizeOf4
 v4:=Tryz.zeroValue4
 t9:=Tryz.underlying9
 a9:=Tryz.isAgg9
 z9:=Tryz.sizeOf9
 v9:=Tryz.zeroValue9
 t20:=Tryz.underlying20
 a20:=Tryz.isAgg20
 z20:=Tryz.sizeOf20
 v20:=Tryz.zeroValue20
 t31:=Tryz.underlying56
 a31:=Tryz.isAgg56
 z31:=Tryz.sizeOf56
 v31:=Tryz.zeroValue56
 t37:=Tryz.underlying135
 a37:=Tryz.isAgg135
 z37:=Tryz.sizeOf135
 v37:=Tryz.zeroValue135
 t70:=Tryz.underlying268
 a70:=Tryz.isAgg268
 z70:=Tryz.sizeOf268
 v70:=Tryz.zeroValue268
 t72:=Tryz.underlying270
 a72:=Tryz.isAgg270
 z72:=Tryz.sizeOf270
 v72:=Tryz.zeroValue270
 t75:=Tryz.underlying273
 a75:=Tryz.isAgg273
 z75:=Tryz.sizeOf273
 v75:=Tryz.zeroValue273
 t76:=Tryz.underlying274
 a76:=Tryz.isAgg274
 z76:=Tryz.sizeOf274
 v76:=Tryz.zeroValue274
 t127:=Tryz.underlying295
 a127:=Tryz.isAgg295
 z127:=Tryz.sizeOf295
 v127:=Tryz.zeroValue295
 t164:=Tryz.underlying306
 a164:=Tryz.isAgg306
 z164:=Tryz.sizeOf306
 v164:=Tryz.zeroValue306}
theorem Tryz.oV:Builder.Extra Tryz.prog Tryz.A8:={
 sizeBuilder:=by kernel_rfl
 liesBuilder:=by kernel_rfl
 t5:=Tryz.underlying5
 a5:=Tryz.isAgg5
 z5:=Tryz.sizeOf5
 v5:=Tryz.zeroValue5
 infoByte:=by kernel_rfl
 cellsByte:=by kernel_rfl
 sizeByte:=by kernel_rfl
 neB5:=by decide}
open Go.RowKit in
theorem Tryz.strings_Join_none (a:Option Addr) (c:Nat) (sep:ByteArray) (w:World):
 Calls Tryz.prog 151 #[.slice a 0 c,.string sep] w λe w'=>e=.returned (.string ⟨#[]⟩)/\w'=w:=Any.strings_Join_none Tryz.OO Tryz.oV a c sep w
open Go.RowKit in
theorem Tryz.strings_Join (bk o c:Nat) (xs:List ByteArray) (sep:ByteArray) (w:World) (hcells:∀(j:Nat) x,xs[j]?=some x->w.cell? ⟨bk,o+j,none⟩=some (.string x)) (hbk:bk<w.heap.size) (hN:xs.length<=140737488355328) (hcap:xs.length<=c) (hlen:(Lib.join (xs.map (·.data.toList)) sep.data.toList).length<=140737488355328):
 Calls Tryz.prog 151 #[.slice (some ⟨bk,o,none⟩) xs.length c,.string sep] w λe w'=>e=.returned (.string ⟨(Lib.join (xs.map (·.data.toList)) sep.data.toList).toArray⟩)/\Below w.heap.size w w':=Any.strings_Join Tryz.OO Tryz.oV bk o c xs sep w hcells hbk hN hcap hlen
end Go.Proofs
end
section
open Go Dem Go.Proofs
namespace Dem
variable {t:Th}
theorem Fy{w:World}{ok:Nat->Prop}{blk sz:Nat}:∀{l:List az} {off:Nat},ax w ok blk sz (l.map bp) off->∀(j:Nat) x,(l.map λs=>(⟨s.toArray⟩:ByteArray))[j]?=some x->w.cell? ⟨blk,off+j,none⟩=some (.string x)
 |[],_,_,j,x,hx=>by simp at hx|s::l,off,h,j,x,hx=>by
  simp only[List.map_cons,ax,bg,aP,and_true]at h;obtain⟨rfl,⟨u,hu,rfl⟩,h3⟩:=h;cases j with
  |zero=>simp at hx;subst hx;exact hu|succ j=>have:=Fy h3 j x (by simpa using hx);rw[show off+(j+1)=off+[D.str s].length+j by simp;omega];exact this
theorem Fz{β:Nat->Nat}{w w':World}(hb:RowKit.Below w.heap.size w w'):Ext β [] w β [] w':=
 ⟨hb.os,hb.tape,hb.output,hb.size,λk hk _=>hb.block k hk,λk c e f hk=>⟨c,by rw[hb.block k (Array.getElem?_eq_some_iff.1 hk).1];exact hk,rfl⟩,λi h=>by obtain⟨b,h1,_⟩:=h;simp at h1,λi b h=>by simp at h⟩
theorem OP(ht:TT t){l:List az}{es:List (List D)}(aD:es=l.map bp)(hl:l.length<1000000000)(hlen:(fU l).length<=140737488355328):FC 151 [SL es,ST [47]] [] (.ret (rD (t _ λ_=>fU l))) []:=by
 simp only[ht];subst aD;intro β w vs X cx hx;simp only[an,ai,aP]at hx;obtain⟨_,_,rfl,⟨base,cap,rfl,hcap,h1⟩,_,_,rfl,rfl,rfl⟩:=hx;rcases h1 with h1|⟨blk,off,sz,rfl,hok,hrows⟩
 .have hl0:l=[]:=by simpa using h1
  subst hl0;refine .inl ⟨enters_of Tryz.func151 (by kernel_rfl) rfl _ _,(Tryz.strings_Join_none base cap ⟨#[47]⟩ w).mono ?_⟩;rintro e w' ⟨rfl,rfl⟩;exact⟨β,Ext.refl _ _ _,cx,by simp[eH,rD,ai,aP,fU,Lib.join_nil]⟩
 have hx:((l.map λs=>(⟨s.toArray⟩:ByteArray)).map (·.data.toList))=l:=by simp[Function.comp_def]
 have hn:(l.map λs=>(⟨s.toArray⟩:ByteArray)).length=(l.map bp).length:=by simp
 have key:=Tryz.strings_Join blk off cap (l.map λs=>(⟨s.toArray⟩:ByteArray)) ⟨#[47]⟩ w (Fy hrows) hok.1 (by simp;omega) (by simpa using hcap) (by rw[hx];exact hlen);rw[hx,hn]at key;refine .inl ⟨enters_of Tryz.func151 (by kernel_rfl) rfl _ _,key.mono ?_⟩;rintro e w' ⟨rfl,hb⟩;exact⟨β,Fz hb,cx.step (Fz hb) (λi b h=>by simp at h) (λi j bi bj hi=>by simp at hi),by simp[eH,rD,ai,aP,fU]⟩
theorem Tz(ht:TT t){l:List (az)}{es:List (List D)}(aD:es=l.map bp)(f:Nat)(p:az->Bool)(hl:l.length<9223372036854775807)
 (hf:∀x∈l,FC f [.d (.str x)] [] (.ret (BL (p x))) []) {r:Int} (hr:r=idxOf p l):FC 149 [SL es,.fn f []] [] (.ret (bf r)) []:=by
 have hel:es.length=l.length:=by rw[aD,lgM]
 refine cC ht Tryz.func149 (N:=19) ?_;cbv;refine bw ⟨[0,1,7,8],[],[]⟩ (σ:=Nat) (λk=>[(8,bf (t _ λ_=>(k:Int)))]) (λ_=>[]) (wL p l) ?_;cbv;refine aC ⟨l.length,0,.nil,by simp only[ht];rfl,λn k hj=>?_⟩;cbv;apply aj<;>intro h
 .simp only[ht,aa,vai]at h;have hk:k<es.length:=by omega
  obtain⟨x,hx,pM,px,hpx⟩:=hj.get (by omega);have iS:=hf x pM
  rw[<-hpx]at iS;skip;cbv;refine jG [.str x] ?_ ?_ ?_
  .simp only[ht,aa];exact sE aD hk λ_=>rfl
  .simp[ht,aa,aD,hx]
  cbv;refine dO hY iS ?_;cbv;apply aj<;>intro hb
  .cbv;refine ak ?_;simp only[ht,aa,hr,hj.hit hx (hpx▸hb)]
  cbv;refine aC ⟨n-1,k+1,⟨hj.lt hx,hj.next hx (hpx▸hb)⟩,?_⟩;simp only[ht,aa,aG (show k<9223372036854775807 by omega)];rfl
 simp only[ht,aa,vap]at h;have hk:l.length<=k:=by omega
 clear h;cbv;refine ak ?_;rw[hr,hj.none hk]
theorem TA(ht:TT t){l:List (az)}{es:List (List D)}(aD:es=l.map bp)(f:Nat)(p:az->Bool)(hl:l.length<9223372036854775807)
 (hf:∀x∈l,FC f [.d (.str x)] [] (.ret (BL (p x))) []) {r:Bool} (hr:r=l.any p):FC 95 [SL es,.fn f []] [] (.ret (BL r)) []:=by
 obtain⟨k,hk⟩:∃k,k=idxOf p l:=⟨_,rfl⟩;refine cC ht Tryz.func95 (N:=9) ?_;cbv;refine dO hY (Tz ht aD f p hl hf hk) ?_;cbv;refine ak ?_;simp only[ht,hr,fL,hk]
theorem MY(ht:TT t)(s:az)(hs:s.length<9223372036854775807):FC 191 [ST s] [] (.ret (cA (t _ λ_=>!eV s))) []:=by refine cC ht Tryz.func191 (N:=6) ?_;cbv;refine ar (qw ht _ ‹_›) hY (λr0 bM=>?_);simp only[ht]at bM;cbv;refine ak ?_;(simp[*];done)
theorem yQ:∀(s:az),∀x∈cm 47 s,x.length<=s.length
 |[],x,hx=>by simp[cm]at hx;subst hx;exact vad _|c::s,x,hx=>by
  have ih:=yQ s;unfold cm at hx;split at hx
  .rcases List.mem_cons.1 hx with rfl|hx
   .simp
   exact Nat.le_trans (ih x hx) (by simp)
  split at hx
  .rename_i h r e;rw[e]at ih;rcases List.mem_cons.1 hx with rfl|hx
   .have:=ih h (by simp);simp;omega
   exact Nat.le_trans (ih x (by simp[hx])) (by simp)
  simp at hx;subst hx;simp
theorem Qd(ht:TT t){l:List az}{es:List (List D)}(aD:es=l.map bp)(hl:l.length<9223372036854775807)(hw:∀x∈l,x.length<9223372036854775807):
 FC 95 [SL es,.fn 191 []] [] (.ret (cA (t _ λ_=>l.any λn=>!eV n))) []:=by
 simp only[ht];exact TA ht aD _ _ hl (λx hx=>by have h:=MY ht x (hw x hx);simp only[ht,cA]at h;exact h) rfl
theorem yR(ht:TT t)(s:az)(hs:s.length<1000000000000):FC 150 [ST s] [] (.ret (JA t (t _ λ_=>parts s))) []:=by
 have Yl:=rG 47 s;have hsc:s.count 47<=s.length:=List.count_le_length
 have iC:∀x∈cm 47 s,x.length<9223372036854775807:=λx hx=>Nat.lt_of_le_of_lt (yQ s x hx) (by omega);refine cC ht Tryz.func150 (N:=14) ?_;cbv;refine aM (Ty ht _ ‹_›) hY (λr0 bM=>?_);simp only[ht]at bM;have hr0:(r0).length<1000000000001:=by rw[bM];omega
 have hs0:∀x∈r0,x.length<9223372036854775807:=by rw[bM];exact iC
 cbv;refine gI (by simp[ht]) ?_;refine aT (λg1=>⟨by simp[ht]at g1 ⊢;exact g1,hY,Qd ht (lm ht rfl) (by omega) ‹_›⟩) rfl rfl (λr2 dj=>?_);simp only[ht]at dj;cbv;refine pI (by simp[ht]) ?_;apply aj<;>intro h3
 .simp[ht,aa]at h3;cbv;refine ak ?_;(simp only[ht,parts];grind)
 simp[ht,aa]at h3;cbv;refine ak ?_;(simp only[ht,parts];grind)
def Ko{α:Type}[DecidableEq α](a:α)(l:List α):Int:=idxOf (λx=>decide (a=x)) l
theorem G8{α:Type}[DecidableEq α]{a x:α}{l:List α}{k:Nat}(hx:l[k]?=some x)(h:a=x)(h3:∀i<k,∀y,l[i]?=some y->a≠y):Ko a l=k:=by simp only[Ko,idxOf];rw[yp hx (by simpa using h) (λi hi y hy=>by simpa using h3 i hi y hy)]
theorem G9{α:Type}[DecidableEq α]{a:α}{l:List α}{k:Nat}(hk:l.length<=k)(h3:∀i<k,∀y,l[i]?=some y->a≠y):Ko a l=-1:=by
 simp only[Ko,idxOf];rw[C3];intro i y hy;have:i<l.length:=(List.getElem?_eq_some_iff.1 hy).1
 simpa using h3 i (by omega) y hy
theorem z6{α:Type}{a x:α}{l:List α}{k:Nat}(h3:∀i<k,∀y,l[i]?=some y->a≠y)(hx:l[k]?=some x)(h:a≠x):∀i<k+1,∀y,l[i]?=some y->a≠y:=by
 intro i hi y hy;rcases Nat.lt_or_ge i k with h1|h1
 .exact h3 i h1 y hy
 have:i=k:=by omega
 subst this;rw[hx]at hy;cases hy;exact h
theorem DE{α:Type}[DecidableEq α](a:α)(l:List α):0<=Ko a l↔a∈l:=by have h:=fL (λx=>decide (a=x)) l;rw[Bool.eq_iff_iff]at h;simp at h;exact h.symm
theorem Kq(ht:TT t)(a:az){l:List az}{es:List (List D)}(aD:es=l.map bp)(hl:l.length<1000000000):
 FC 188 [SL es,ST a] [] (.ret (ol (t _ λ_=>Ko a l))) []:=by
 refine cC ht Tryz.func188 (N:=19) ?_;cbv;have ay:es.length=l.length:=by rw[aD,lgM]
 obtain⟨J0,dZ⟩:∃J0:Nat->Int->Prop,∀n i,J0 n i↔(∃k:Nat,i=k/\k+n=l.length/\∀i<k,∀y,l[i]?=some y->a≠y):=⟨λn v=>match v with|i=>(∃k:Nat,i=k/\k+n=l.length/\∀i<k,∀y,l[i]?=some y->a≠y),λ_ _=>Iff.rfl⟩;refine bw ⟨[0,1,7,8],[],[]⟩ (σ:=Int) (λv=>[(8,.d (.int .i64 (t _ λ_=>v)))]) (λv=>[]) J0 ?_;cbv;refine aC ⟨l.length,_,(dZ _ _).2 ?_,by simp only[ht];rfl,?_⟩
 .exact⟨0,rfl,by simp,λi hi=>by omega⟩
 rintro n i hj;replace hj:=(dZ _ _).1 hj;obtain⟨k,rfl,j1,j4⟩:=hj;cbv;apply aj<;>intro h1
 .simp[ht,aa,ay]at h1;cbv;refine eT ht aD (cT:=fM t) (by(simp only[ht,aa];omega)) (by(simp only[ht,aa];omega)) (λ_=>rfl) (λ_=>rfl) (λx2 jX=>?_);simp[ht,aa]at jX;cbv;apply aj<;>intro h3
  .simp[ht]at h3;cbv;refine ak ?_;(simp only[ht];rw[G8 ‹_› ‹_› j4];done)
  simp[ht]at h3;cbv;refine bA _ (by simp only[ht];rfl) (n-1) ?_ ((dZ _ _).2 ?_)
  .omega
  simp only[aa];exact⟨k+1,aG (by omega),by omega,z6 j4 ‹_› ‹_›⟩
 simp[ht,aa,ay]at h1;cbv;refine ak ?_;(simp only[ht];rw[G9 (by omega) j4];done)
theorem Qe(ht:TT t)(a:az){l:List az}{es:List (List D)}(aD:es=l.map bp)(hl:l.length<1000000000):
 FC 145 [SL es,ST a] [] (.ret (cA (t _ λ_=>l.contains a))) []:=by
 refine cC ht Tryz.func145 (N:=9) ?_;cbv;have ay:es.length=l.length:=by rw[aD,lgM]
 refine ar (Kq ht _ ‹_› ‹_›) hY (λr0 bM=>?_);simp only[ht]at bM;cbv;refine ak ?_;(simp[ht,bM,DE];done)
theorem Zw(ht:TT t)(s:az)(hs:s.length<1000000000000):FC 96 [ST s] [] (.ret (JA t (t _ λ_=>om s))) []:=by
 have hp:=lF s;refine cC ht Tryz.func96 (N:=22) ?_;cbv;refine aM (yR ht _ ‹_›) hY (λr0 bM=>?_);simp only[ht]at bM;have hrl:(r0).length=(parts s).length:=by rw[bM]
 cbv;obtain⟨J1,iB⟩:∃J1:Nat->List (List D)×Int->Prop,∀n u i,J1 n (u,i)↔(∃k:Nat,i=k/\k+n=(parts s).length/\u=((om s).take k).map bp):=⟨λn v=>match v with|(u,i)=>(∃k:Nat,i=k/\k+n=(parts s).length/\u=((om s).take k).map bp),λ_ _ _=>Iff.rfl⟩;refine bw ⟨[0,3,7,8],[(3,1)],[]⟩ (σ:=List (List D)×Int) (λv=>[(3,.ow 0 1 (t _ λ_=>(v.1).length)),(8,.d (.int .i64 (t _ λ_=>v.2)))]) (λv=>[(0,.row 1 (t _ λ_=>v.1))]) J1 ?_;cbv;refine aC ⟨(parts s).length,([],_),(iB _ _ _).2 ?_,by simp only[ht];rfl,?_⟩
 .exact⟨0,rfl,by simp,rfl⟩
 rintro n ⟨u,i⟩ hj;replace hj:=(iB _ _ _).1 hj;obtain⟨k,rfl,j1,j4⟩:=hj;cbv;apply aj<;>intro h2
 .simp[ht,aa]at h2;cbv;refine aM (yR ht _ ‹_›) hY (λr3 iR=>?_);simp only[ht]at iR;have hrl:(r3).length=(parts s).length:=by rw[iR]
  cbv;refine⟨?_,?_⟩
  ·(simp only[ht];refine⟨?_,λr hr=>by obtain⟨y,_,rfl⟩:=List.mem_map.1 hr;rfl⟩;rw[aG (by omega)];simp only[b9];rw[lgM];omega)
  cbv;(refine ar (OP ht (l:=r3.take (k+1)) (by simp only[ht,gZ];rw[aG (by omega),List.map_take];rfl) (by simp;omega) (by rw[iR];exact Nat.le_trans (Fc s (k+1)) (by omega))) hY (λr4 eY=>?_);simp only[ht]at eY;rw[iR]at eY);cbv;refine⟨?_,?_⟩
  ·(simp only[ht];grind)
  cbv;refine bA (_,_) (by simp only[ht,<-vaa];rfl) (n-1) ?_ ((iB _ _ _).2 ?_)
  .omega
  simp only[aa];exact⟨k+1,aG (by omega),by omega,by rw[Fe (by omega),j4,<-eY];simp⟩
 simp[ht,aa]at h2;cbv;refine ia hY (by simp[ht]) rfl rfl rfl ?_;(simp[ht,j4,vao (show(om s).length<=k by rw[iX];omega)];done)
theorem DF(ht:TT t)(a b:az)(hs:b.length<1000000000000):FC 93 [ST a,ST b] [] (.ret (cA (t _ λ_=>oo a b))) []:=by
 have hp:=lF b;have hl:=iX b
 refine cC ht Tryz.func93 (N:=9) ?_;cbv;refine aM (Zw ht _ ‹_›) hY (λr0 bM=>?_);simp only[ht]at bM;have hr0:(r0).length<1000000000:=by rw[bM];omega
 cbv;refine ar (Qe ht _ (lm ht rfl) ‹_›) hY (λr1 ej=>?_);simp only[ht]at ej;cbv;refine ak ?_;(simp[oo, *];done)
theorem WD(x y:Nat)(hx:x<18446744073709551616)(hy:y<18446744073709551616):PF x y=if(x*y / 18446744073709551616=0)then(((x*y:Nat):Int),true)else(0,false):=by
 unfold PF;simp only[vak];by_cases h:x*y<18446744073709551616
 .rw[if_pos h,if_pos (Nat.div_eq_of_lt h)]
 rw[if_neg h,if_neg (by have:=Nat.div_le_div_right (c:=18446744073709551616) (Nat.le_of_not_lt h);simp at this;omega)]
theorem WE(x:Nat):x &&& 4294967295=x%4294967296:=by have:=Nat.and_two_pow_sub_one_eq_mod x 32;simpa using this
theorem TB(x:Nat)(hx:x<18446744073709551616):IntKind.u64.wrap ((BitVec.ofInt IntKind.u64.bits (x:Int) &&& BitVec.ofInt IntKind.u64.bits 4294967295).toNat:Int)=((x%4294967296:Nat):Int):=by
 have e1:BitVec.ofInt IntKind.u64.bits (x:Int)=BitVec.ofNat 64 x:=by simp[IntKind.bits]
 have e2:BitVec.ofInt IntKind.u64.bits 4294967295=BitVec.ofNat 64 4294967295:=by rfl
 rw[e1,e2];have:(BitVec.ofNat 64 x &&& BitVec.ofNat 64 4294967295).toNat=x%4294967296:=by rw[BitVec.toNat_and,BitVec.toNat_ofNat,BitVec.toNat_ofNat,Nat.mod_eq_of_lt (a:=x) (by simpa using hx),Nat.mod_eq_of_lt (a:=4294967295) (by decide),WE]
 have h2:x%4294967296<18446744073709551616:=by omega
 rw[bW];show(((BitVec.ofNat 64 x &&& BitVec.ofNat 64 4294967295).toNat:Nat):Int)%18446744073709551616=_
 rw[this];omega
theorem OQ(x:Nat):(x:Int).fdiv (2^(min (32:Int).toNat IntKind.u64.bits))=((x / 4294967296:Nat):Int):=by show(x:Int).fdiv (2^32)=_;rw[Int.fdiv_eq_ediv_of_nonneg _ (by decide)];norm_cast
theorem He{n:Nat}(h:n<18446744073709551616):IntKind.u64.wrap (n:Int)=n:=by rw[bW];omega
theorem WG(ht:TT t)(x y:Nat)(hx:x<18446744073709551616)(hy:y<18446744073709551616){a b:Int}(ha:a=x)(hb:b=y):
 FC 196 [aA a,aA b] [] (.ret (.c5 [aA (t _ λ_=>((x*y / 18446744073709551616:Nat):Int)),aA (t _ λ_=>IntKind.u64.wrap ((x*y:Nat):Int))])) []:=by
 obtain⟨k1,k2,k3,k4⟩:=Lib.mul64_hi x y hx hy;refine cC ht Tryz.func196 (N:=51) ?_;cbv;refine⟨by simp[ht],by simp[ht],by simp[ht],by simp[ht],by simp[ht],?_⟩;refine ak ?_;simp only[ht,aa];subst ha hb;have b1:x / 4294967296<=4294967295:=by omega
 have b2:y / 4294967296<=4294967295:=by omega
 have b3:x%4294967296<=4294967295:=by omega
 have b4:y%4294967296<=4294967295:=by omega
 have m1:=Lib.half_mul_le b1 b2;have m2:=Lib.half_mul_le b1 b4
 have m3:=Lib.half_mul_le b3 b2;have m4:=Lib.half_mul_le b3 b4
 have k5:x / 4294967296*(y / 4294967296)+(x / 4294967296*(y%4294967296)+x%4294967296*(y%4294967296) / 4294967296) / 4294967296<18446744073709551616:=by omega
 have k6:x*y / 18446744073709551616<18446744073709551616:=by rw[Nat.div_lt_iff_lt_mul (by decide)];exact Nat.mul_lt_mul'' hx hy
 simp only[OQ,TB x hx,TB y hy,<-Int.natCast_mul];rw[He k1,He (n:=x / 4294967296*(y%4294967296)) (by omega),He (n:=x%4294967296*(y / 4294967296)) (by omega),He (n:=x / 4294967296*(y / 4294967296)) (by omega)];simp only[OQ,<-Int.natCast_add];rw[He k2,TB _ k2];simp only[OQ,<-Int.natCast_add];rw[He k5,He k3];simp only[OQ,<-Int.natCast_add];rw[k4,He k6]
theorem Qf(ht:TT t)(x y:Int)(hx:0<=x/\x<18446744073709551616)(hy:0<=y/\y<18446744073709551616){r:Int}{ok:Bool}(h:(r,ok)=PF x y):
 FC 159 [aA x,aA y] [] (.ret (.c5 [aA r,BL ok])) []:=by
 obtain⟨a,rfl⟩:=Int.eq_ofNat_of_zero_le hx.1;obtain⟨b,rfl⟩:=Int.eq_ofNat_of_zero_le hy.1;have ha:a<18446744073709551616:=by omega
 have hb:b<18446744073709551616:=by omega
 rw[WD a b ha hb]at h;have hw:a*b / 18446744073709551616=0->IntKind.u64.wrap ((a*b:Nat):Int)=((a*b:Nat):Int):=λe=>by
  refine He ?_;rcases Nat.lt_or_ge (a*b) 18446744073709551616 with h1|h1
  .exact h1
  have:=Nat.div_le_div_right (c:=18446744073709551616) h1;simp at this;omega
 obtain⟨w,hw2⟩:∃w,w=IntKind.u64.wrap ((a*b:Nat):Int):=⟨_,rfl⟩;obtain⟨z,hz⟩:∃z,z=a*b / 18446744073709551616:=⟨_,rfl⟩;have hc:=WG ht a b ha hb rfl rfl
 rw[<-hw2,<-hz]at hc;rw[<-hw2,<-hz]at hw;rw[<-hz]at h;obtain⟨x,hx0⟩:∃x:Int,x=a:=⟨_,rfl⟩;obtain⟨y,hy0⟩:∃y:Int,y=b:=⟨_,rfl⟩;rw[<-hx0,<-hy0]at hc ⊢;refine cC ht Tryz.func159 (N:=17) ?_;cbv;refine iW hY hc hY rfl rfl ?_;cbv;apply aj<;>intro hc
 .cbv;refine ak ?_;simp only[ht,aa,Bool.not_eq_true',vap]at hc;rw[if_neg (by omega)]at h;cases h;rfl
 cbv;refine ak ?_;simp only[ht,aa,Bool.not_eq_false',vai]at hc;have hz0:z=0:=by omega
 rw[if_pos hz0]at h;cases h;simp only[ht,hw hz0]
theorem TC(ht:TT t)(m x y:Int)(hx:0<=x/\x<18446744073709551616)(hm:0<=m/\m<18446744073709551616){r:Int}{ok:Bool}(h:(r,ok)=PF x m):
 FC 158 [aA x,aA y,.ptr 0 0] [.var [aA m]] (.ret (.c5 [aA r,BL ok])) [.var [aA m]]:=by
 refine kJ ht (aK:=[.var [aA m]]) Tryz.func158 rfl rfl (N:=12) rfl rfl (n:=1) rfl rfl ?_;cbv;refine iW hY (Qf ht x m hx hm h) hY rfl rfl ?_;cbv;exact ak rfl
theorem WH(ht:TT t)(m:Int)(a0 a1 a2 a3 b0 b1 b2 b3:Int)(op:Int->Int->Int×Bool)(F:Nat)(hop:∀(x y r:Int) (ok:Bool),(r,ok)=op x y->0<=x/\x<18446744073709551616->FC F [.d (.int .u64 x),.d (.int .u64 y),.ptr 0 0] [.var [aA m]] (.ret (.c5 [.d (.int .u64 r),.d (.bool ok)])) [.var [aA m]])
 (u0:0<=a0/\a0<18446744073709551616) (u1:0<=a1/\a1<18446744073709551616) (u2:0<=a2/\a2<18446744073709551616) (u3:0<=a3/\a3<18446744073709551616)
 {r0 r1 r2 r3:Int} {ok:Bool} (h:(⟨r0,r1,r2,r3⟩,ok)=both op ⟨a0,a1,a2,a3⟩ ⟨b0,b1,b2,b3⟩):
 FC 157 [.agg [.d (.int .u64 a0),.d (.int .u64 a1),.d (.int .u64 a2),.d (.int .u64 a3)],.agg [.d (.int .u64 b0),.d (.int .u64 b1),.d (.int .u64 b2),.d (.int .u64 b3)],.fn F [.ptr 0 0]] [.var [aA m]]
  (.ret (.c5 [.agg [.d (.int .u64 r0),.d (.int .u64 r1),.d (.int .u64 r2),.d (.int .u64 r3)],.d (.bool ok)])) [.var [aA m]]:=by
 obtain⟨⟨s0,k0⟩,e0⟩:∃s,s=op a0 b0:=⟨_,rfl⟩
 obtain⟨⟨s1,k1⟩,e1⟩:∃s,s=op a1 b1:=⟨_,rfl⟩
 obtain⟨⟨s2,k2⟩,e2⟩:∃s,s=op a2 b2:=⟨_,rfl⟩
 obtain⟨⟨s3,k3⟩,e3⟩:∃s,s=op a3 b3:=⟨_,rfl⟩
 have h0:(k0&&k1&&k2&&k3)=false->r0=0/\r1=0/\r2=0/\r3=0/\ok=false:=by intro hk;simp only[both,<-e0,<-e1,<-e2,<-e3]at h;rw[if_neg (by rw[hk];simp)]at h;cases h;exact⟨rfl,rfl,rfl,rfl,rfl⟩
 have h1:(k0&&k1&&k2&&k3)=true->r0=s0/\r1=s1/\r2=s2/\r3=s3/\ok=true:=by intro hk;simp only[both,<-e0,<-e1,<-e2,<-e3]at h;rw[if_pos hk]at h;cases h;exact⟨rfl,rfl,rfl,rfl,rfl⟩
 clear h
 have fin:∀{B:List av},(k0&&k1&&k2&&k3)=false->zJ 1 True (AV.c5 [.agg [.d (.int .u64 0),.d (.int .u64 0),.d (.int .u64 0),.d (.int .u64 0)],.d (.bool false)]) (.var [aA m]::B) (some (True,AV.c5 [.agg [.d (.int .u64 0),.d (.int .u64 0),.d (.int .u64 0),.d (.int .u64 0)],.d (.bool false)]))
  (.ret (.c5 [.agg [.d (.int .u64 r0),.d (.int .u64 r1),.d (.int .u64 r2),.d (.int .u64 r3)],.d (.bool ok)])) [.var [aA m]]:=by
  intro bx hk;obtain⟨rfl,rfl,rfl,rfl,rfl⟩:=h0 hk;exact ak rfl
 refine kJ ht (aK:=[.var [aA m]]) Tryz.func157 rfl rfl (N:=34) rfl rfl (n:=1) rfl rfl ?_
 cbv
 refine bw ⟨[2,3,4,6,12,13],[],[]⟩ (σ:=Nat) (λj=>[(13,.d (.int .i64 j))]) (λj=>[(1,.var [.d (.int .u64 (bif Nat.blt 0 j then s0 else a0)),.d (.int .u64 (bif Nat.blt 1 j then s1 else a1)),.d (.int .u64 (bif Nat.blt 2 j then s2 else a2)),.d (.int .u64 (bif Nat.blt 3 j then s3 else a3))])])
  (λn j=>n+j=4/\(0<j->k0=true)/\(1<j->k1=true)/\(2<j->k2=true)/\(3<j->k3=true)) ?_
 cbv
 refine aC ⟨4,0,⟨rfl,by omega,by omega,by omega,by omega⟩,rfl,?_⟩
 rintro n j ⟨hn,g0,g1,g2,g3⟩
 have hj:j=0∨j=1∨j=2∨j=3∨j=4:=by omega
 rcases hj with rfl|rfl|rfl|rfl|rfl
 .cbv;refine oe (by simp[ht]) ?_;cbv;refine⟨by simp[ht],by simp[ht],aW [0] hY rfl rfl (hop _ _ _ _ e0 u0) (aH ?_)⟩;cbv;apply aj<;>intro hc
  .simp only[ht,Bool.not_eq_true']at hc;cbv;exact fin (by simp[hc])
  simp only[ht,Bool.not_eq_false']at hc;cbv;refine⟨by simp[ht],?_⟩;refine aC ⟨3-0,0+1,⟨⟨by omega,by omega,by simp_all,by simp_all,by simp_all,by simp_all⟩,?_⟩⟩;simp only[ht];rfl
 .cbv;refine oe (by simp[ht]) ?_;cbv;refine⟨by simp[ht],by simp[ht],aW [0] hY rfl rfl (hop _ _ _ _ e1 u1) (aH ?_)⟩;cbv;apply aj<;>intro hc
  .simp only[ht,Bool.not_eq_true']at hc;cbv;exact fin (by simp[hc])
  simp only[ht,Bool.not_eq_false']at hc;cbv;refine⟨by simp[ht],?_⟩;refine aC ⟨3-1,1+1,⟨⟨by omega,by omega,by simp_all,by simp_all,by simp_all,by simp_all⟩,?_⟩⟩;simp only[ht];rfl
 .cbv;refine oe (by simp[ht]) ?_;cbv;refine⟨by simp[ht],by simp[ht],aW [0] hY rfl rfl (hop _ _ _ _ e2 u2) (aH ?_)⟩;cbv;apply aj<;>intro hc
  .simp only[ht,Bool.not_eq_true']at hc;cbv;exact fin (by simp[hc])
  simp only[ht,Bool.not_eq_false']at hc;cbv;refine⟨by simp[ht],?_⟩;refine aC ⟨3-2,2+1,⟨⟨by omega,by omega,by simp_all,by simp_all,by simp_all,by simp_all⟩,?_⟩⟩;simp only[ht];rfl
 .cbv;refine oe (by simp[ht]) ?_;cbv;refine⟨by simp[ht],by simp[ht],aW [0] hY rfl rfl (hop _ _ _ _ e3 u3) (aH ?_)⟩;cbv;apply aj<;>intro hc
  .simp only[ht,Bool.not_eq_true']at hc;cbv;exact fin (by simp[hc])
  simp only[ht,Bool.not_eq_false']at hc;cbv;refine⟨by simp[ht],?_⟩;refine aC ⟨3-3,3+1,⟨⟨by omega,by omega,by simp_all,by simp_all,by simp_all,by simp_all⟩,?_⟩⟩;simp only[ht];rfl
 cbv
 refine p9 (by simp[ht]) ?_
 cbv
 obtain⟨rfl,rfl,rfl,rfl,rfl⟩:=h1 (by simp[g0,g1,g2,g3])
 exact ak rfl
theorem Qg(ht:TT t)(a0 a1 a2 a3 n:Int)(hu:(⟨a0,a1,a2,a3⟩:bz).u')(hn:0<=n/\n<18446744073709551616):
 FC 107 [V4 a0 a1 a2 a3,aA n] [] (.ret (EVB (t _ λ_=>Mo ⟨a0,a1,a2,a3⟩ n))) []:=by
 obtain⟨⟨⟨r0,r1,r2,r3⟩,ok⟩,h⟩:∃r,r=Mo ⟨a0,a1,a2,a3⟩ n:=⟨_,rfl⟩;rw[<-h];obtain⟨u0,u1,u2,u3⟩:=hu;refine cC ht Tryz.func107 (N:=12) ?_;cbv;refine aW [1] hY rfl rfl (WH ht n a0 a1 a2 a3 0 0 0 0 (λx _=>PF x n) 158 (λx y r ok e hx=>TC ht n x y hx hn e) u0 u1 u2 u3 h) (aH ?_);cbv;refine ak ?_;simp only[ht]
def Ask.sm (x:Ask):Prop:=x.path.length<1000000000000/\x.iI.u'/\x.cj.length<1000000000/\∀m∈x.cj,m.sm
theorem Zx{x y:Ask}:x=y↔x.path=y.path/\x.iI=y.iI/\x.count=y.count/\x.prio=y.prio/\x.dX=y.dX/\x.cj=y.cj:=by cases x;cases y;simp
theorem uZ(ht:TT t)(p:az)(a b c d n pr tk:Int){sl:List Term}(sr:List (List D))(hu:(⟨a,b,c,d⟩:bz).u'):
 FC 42 [.agg [ST p,aA a,aA b,aA c,aA d,bf n,bf pr,bf tk,SL sr]] [] (.ret (EVB (t _ λ_=>eC ⟨p,⟨a,b,c,d⟩,n,pr,tk,sl⟩))) []:=by
 refine cC ht Tryz.func42 (N:=12) ?_;cbv;(refine ar (Qg ht a b c d _ hu (by simp only[ht];rw[bW];omega)) hY (λr9 dR=>?_);simp only[ht,bW]at dR);cbv;refine ak ?_;(simp[eC, *];done)
theorem MZ(ht:TT t)(n a b:Int):FC 92 [bf n,bf a,bf b] [] (.ret (cA (t _ λ_=>Rm n a b))) []:=by
 refine cC ht Tryz.func92 (N:=15) ?_;cbv;iterate 3 refine gI (by simp[ht]) ?_
 refine pI (by simp[ht]) ?_;refine ak ?_;(simp[ht,Rm];done)
theorem qA(ht:TT t)(p:az)(a b c d n pr tk:Int){sl:List Term}{sr:List (List D)}(X2:sr=sl.map Term.cells)(iC:(⟨p,⟨a,b,c,d⟩,n,pr,tk,sl⟩:Ask).sm):
 FC 35 [.agg [ST p,aA a,aA b,aA c,aA d,bf n,bf pr,bf tk,SL sr]] [] (.ret (ol (t _ λ_=>c8 ⟨p,⟨a,b,c,d⟩,n,pr,tk,sl⟩))) []:=by
 obtain⟨h1,h2,h3,h4⟩:=iC;simp only at h1 h2 h3 h4;refine cC ht Tryz.func35 (N:=46) ?_;cbv;have fC:sr.length=sl.length:=by rw[X2,lgM]
 (refine ar (uZ ht p a b c d n pr tk (sl:=sl) sr h2) hY (λr9 dR=>?_);simp only[ht]at dR);cbv;refine ar (DF ht _ _ ‹_›) hY (λr0 bM=>?_);simp only[ht]at bM;cbv;apply aj<;>intro h1
 .simp[ht]at h1;cbv;refine ak ?_;(simp only[ht,c8];grind)
 simp[ht]at h1;cbv;refine ar (MZ ht _ _ _) hY (λr2 dj=>?_);simp only[ht]at dj;cbv;iterate 3 refine gI (by simp[ht]) ?_
 refine aT (λg3=>⟨by simp[ht]at g3 ⊢;exact g3,hY,MZ ht _ _ _⟩) rfl rfl (λr4 eY=>?_);simp only[ht]at eY;cbv;refine gI (by simp[ht]) ?_;refine pI (by simp[ht]) ?_;iterate 3 refine gI (by simp[ht]) ?_
 refine aT (λg5=>⟨by simp[ht]at g5 ⊢;exact g5,hY,MZ ht _ _ _⟩) rfl rfl (λr6 jK=>?_);simp only[ht]at jK;cbv;refine gI (by simp[ht]) ?_;refine pI (by simp[ht]) ?_;apply aj<;>intro h7
 .simp[ht]at h7;cbv;refine ak ?_;(simp only[ht,c8];grind)
 simp[ht]at h7;cbv;refine ar (zY ht ‹_› ‹_› ‹_›) hY (λr8 tV=>?_);simp only[ht]at tV;cbv;apply aj<;>intro h9
 .simp[ht]at h9;cbv;refine ak ?_;(simp only[ht,c8];grind)
 simp[ht]at h9;cbv;apply aj<;>intro h10
 .simp[ht]at h10;cbv;refine ak ?_;(simp only[ht,c8];grind)
 simp[ht]at h10;cbv;refine ak ?_;(simp only[ht,c8];grind)
theorem TD(ht:TT t)(p p':az)(a b c d n pr tk a' b' c' d' n' pr' Rl:Int){sl sZ:List Term}{sr sr':List (List D)}(X2:sr=sl.map Term.cells)(aed:sr'=sZ.map Term.cells)
 (hl:sl.length<1000000000) (hl':sZ.length<1000000000) (hs:∀x∈sl,x.fk.length<1000000000) (hs':∀x∈sZ,x.fk.length<1000000000):
 FC 76 [.agg [ST p,aA a,aA b,aA c,aA d,bf n,bf pr,bf tk,SL sr],.agg [ST p',aA a',aA b',aA c',aA d',bf n',bf pr',bf Rl,SL sr']] [] (.ret (cA (t _ λ_=>decide ((⟨p,⟨a,b,c,d⟩,n,pr,tk,sl⟩:Ask)=⟨p',⟨a',b',c',d'⟩,n',pr',Rl,sZ⟩)))) []:=by
 refine cC ht Tryz.func76 (N:=47) ?_;cbv;have fC:sr.length=sl.length:=by rw[X2,lgM]
 have acH:sr'.length=sZ.length:=by rw[aed,lgM]
 iterate 5 refine gI (by simp[ht]) ?_
 refine pI (by simp[ht]) ?_;iterate 5 refine gI (by simp[ht]) ?_
 refine pI (by simp[ht]) ?_;iterate 5 refine gI (by simp[ht]) ?_
 refine pI (by simp[ht]) ?_;iterate 5 refine gI (by simp[ht]) ?_
 refine pI (by simp[ht]) ?_;iterate 4 refine gI (by simp[ht]) ?_
 refine aT (λg0=>⟨by simp[ht]at g0 ⊢;exact g0,hY,Tm ht ‹_› ‹_› ‹_› ‹_› ‹_› ‹_›⟩) rfl rfl (λr1 ej=>?_);simp only[ht]at ej;cbv;refine pI (by simp[ht]) ?_;refine ak ?_;(simp[*];grind)
def tZ(s:az)(p:Int):Option (Ask×Int):=
 match aI s p 98 with
 |⟨path,p1,true⟩=>match fc s p1 with
  |⟨v,p2,true⟩=>match aV s p2 with
   |⟨n,p3,true⟩=>match aV s p3 with
    |⟨pr,p4,true⟩=>match aV s p4 with
     |⟨tk,p5,true⟩=>match AN s p5 with
      |some (sl,e)=>if n<=100/\pr<=100/\tk<=100/\c8 ⟨path,v,n,pr,tk,sl⟩=0 then some (⟨path,v,n,pr,tk,sl⟩,e)else none|none=>none
     |_=>none
    |_=>none
   |_=>none
  |_=>none
 |_=>none
theorem DG{s:az}{p e:Int}{x:Ask}(h:tZ s p=some (x,e)):∃p1 p2 p3 p4 p5,aI s p 98=⟨x.path,p1,true⟩/\fc s p1=⟨x.iI,p2,true⟩/\aV s p2=⟨x.count,p3,true⟩/\aV s p3=⟨x.prio,p4,true⟩/\aV s p4=⟨x.dX,p5,true⟩/\
 AN s p5=some (x.cj,e)/\x.count<=100/\x.prio<=100/\x.dX<=100/\c8 x=0:=by
 unfold tZ at h;split at h
 .rename_i path p1 e1;split at h
  .rename_i v p2 e2;split at h
   .rename_i n p3 e3;split at h
    .rename_i pr p4 e4;split at h
     .rename_i tk p5 e5;split at h
      .rename_i sl e' e6;split at h
       .rename_i g;simp only[osI,vab]at h;obtain⟨rfl,rfl⟩:=h;exact⟨p1,p2,p3,p4,p5,e1,e2,e3,e4,e5,e6,g.1,g.2.1,g.2.2.1,g.2.2.2⟩
       cases h
      cases h
     cases h
    cases h
   cases h
  cases h
 cases h
theorem Kr{F:Nat->List AV->List av->eP->List av->Prop}{T:Nat->Option TI}{G:Nat->Option (List D)}{N:Nat}{ops:List Oper}{Q:Ex->St->Prop}{S:List St}{k:Nat}{l:List Nd}(h:∀Q:Ex->St->Prop,vq t F T G N ops Q S k l):vq t F T G N ops Q S k l:=h Q
theorem M0(ht:TT t)(s:az){p e a b c d n pr tk:Int}{path:az}{sl:List Term}{sr:List (List D)}(hs:s.length<9223372036854775000)(hp:p<9223372036854775808)(X2:sr=sl.map Term.cells)
 (iC:(⟨path,⟨a,b,c,d⟩,n,pr,tk,sl⟩:Ask).sm) (h:tZ s p=some (⟨path,⟨a,b,c,d⟩,n,pr,tk,sl⟩,e)):
 FC 133 [ST s,bf p] [] (.ret (.c5 [.agg [ST path,aA a,aA b,aA c,aA d,bf n,bf pr,bf tk,SL sr],bf e,BL true])) []:=by
 obtain⟨p1,p2,p3,p4,p5,e0,e1,e2,e3,e4,e5,l1,l2,l3,ec⟩:=DG h;simp only at e0 e1 e2 e3 e4 e5 l1 l2 l3;have b0:=dx (s:=s) (p:=p) (m:=98) hs
 rw[e0]at b0;simp only at b0;have b1:=rF (s:=s) (p:=p1)
 rw[e1]at b1;simp only at b1;have b2:=bH e2
 have b3:=bH e3;have b4:=bH e4
 have w1:IntKind.i64.wrap n=n:=by rw[bN (by omega) (by omega)]
 have w2:IntKind.i64.wrap pr=pr:=by rw[bN (by omega) (by omega)]
 have w3:IntKind.i64.wrap tk=tk:=by rw[bN (by omega) (by omega)]
 refine cC ht Tryz.func133 (N:=83) ?_;cbv;have fC:sr.length=sl.length:=by rw[X2,lgM]
 refine ar (fW ht _ _ _ ‹_› ‹_› (by omega)) hY (λr0 bM=>?_);simp only[ht]at bM;(rw[e0]at bM;subst bM);cbv;apply aj<;>intro h1
 .simp[ht,aa,fC]at h1
 simp[ht,aa,fC]at h1;cbv;refine ar (uV ht _ _ ‹_› (by((try simp only[aa]at*);omega))) hY (λr2 dj=>?_);simp only[ht]at dj;(rw[e1]at dj;subst dj);cbv;apply aj<;>intro h3
 .simp[ht,aa,fC]at h3
 simp[ht,aa,fC]at h3;cbv;obtain⟨J4,HS⟩:∃J4:Nat->Int×Int×Int×Int×Int->Prop,∀m a0 i x0 x1 x2,J4 m (a0,i,x0,x1,x2)↔((i=0/\m=3/\a0=p2/\x0=0/\x1=0/\x2=0)∨(i=1/\m=2/\a0=p3/\x0=n/\x1=0/\x2=0)∨(i=2/\m=1/\a0=p4/\x0=n/\x1=pr/\x2=0)∨(i=3/\m=0/\a0=p5/\x0=n/\x1=pr/\x2=tk)):=⟨λm v=>match v with|(a0,i,x0,x1,x2)=>((i=0/\m=3/\a0=p2/\x0=0/\x1=0/\x2=0)∨(i=1/\m=2/\a0=p3/\x0=n/\x1=0/\x2=0)∨(i=2/\m=1/\a0=p4/\x0=n/\x1=pr/\x2=0)∨(i=3/\m=0/\a0=p5/\x0=n/\x1=pr/\x2=tk)),λ_ _ _ _ _ _=>Iff.rfl⟩;refine bw ⟨[0,1,4,7,31],[],[]⟩ (σ:=Int×Int×Int×Int×Int) (λv=>[(1,.d (.int .i64 (t _ λ_=>v.1))),(31,.d (.int .i64 (v.2.1)))]) (λv=>[(0,.var [AV.d (D.str path),AV.d (D.int IntKind.u64 a),AV.d (D.int IntKind.u64 b),AV.d (D.int IntKind.u64 c),AV.d (D.int IntKind.u64 d),AV.d (D.int IntKind.i64 0),AV.d (D.int IntKind.i64 0),AV.d (D.int IntKind.i64 0),AV.cl []]),(1,.var [.d (.int .u64 (t _ λ_=>v.2.2.1)),.d (.int .u64 (t _ λ_=>v.2.2.2.1)),.d (.int .u64 (t _ λ_=>v.2.2.2.2))])]) J4 ?_;cbv;refine aC ⟨3,(_,_,_,_,_),(HS _ _ _ _ _ _).2 ?_,by simp only[ht];rfl,?_⟩
 .exact .inl ⟨rfl,rfl,rfl,rfl,rfl,rfl⟩
 rintro m ⟨a0,i,x0,x1,x2⟩ hj;replace hj:=(HS _ _ _ _ _ _).1 hj;(rcases hj with⟨rfl,jm,rfl,rfl,rfl,rfl⟩|⟨rfl,jm,rfl,rfl,rfl,rfl⟩|⟨rfl,jm,rfl,rfl,rfl,rfl⟩|⟨rfl,jm,rfl,rfl,rfl,rfl⟩)
 .cbv;apply aj<;>intro h5
  .simp[ht,aa,fC]at h5;cbv;refine ar (eF ht _ _ ‹_› (by(simp only[ht];((try simp only[aa]at*);omega)))) hY (λr6 jK=>?_);simp only[ht]at jK;((rw[e2]at jK;subst jK));cbv;refine⟨?_,?_⟩
   ·(simp only[ht,aa]at*;omega)
   iterate 4 refine gI (by simp[ht,ah]) ?_
   refine pI (by simp[ht,ah]) ?_;apply aj<;>intro h7
   .simp[ht,aa,fC]at h7;omega
   simp[ht,aa,fC]at h7;cbv;refine bA (_,_,_,_,_) (by simp only[ht];rfl) (m-1) ?_ ((HS _ _ _ _ _ _).2 ?_)
   .omega
   simp only[ht,aa];exact .inr (.inl ⟨by rw[bN (by decide) (by decide)];rfl,by omega,hY,hY,hY,hY⟩)
  simp[ht,aa,fC]at h5
 .cbv;apply aj<;>intro h8
  .simp[ht,aa,fC]at h8;cbv;refine ar (eF ht _ _ ‹_› (by(simp only[ht];((try simp only[aa]at*);omega)))) hY (λr9 dR=>?_);simp only[ht]at dR;((rw[e3]at dR;subst dR));cbv;refine⟨?_,?_⟩
   ·(simp only[ht,aa]at*;omega)
   iterate 4 refine gI (by simp[ht,ah]) ?_
   refine pI (by simp[ht,ah]) ?_;apply aj<;>intro h10
   .simp[ht,aa,fC]at h10;omega
   simp[ht,aa,fC]at h10;cbv;refine bA (_,_,_,_,_) (by simp only[ht];rfl) (m-1) ?_ ((HS _ _ _ _ _ _).2 ?_)
   .omega
   simp only[ht,aa];exact .inr (.inr (.inl ⟨by rw[bN (by decide) (by decide)];rfl,by omega,hY,hY,hY,hY⟩))
  simp[ht,aa,fC]at h8
 .cbv;apply aj<;>intro h11
  .simp[ht,aa,fC]at h11;cbv;refine ar (eF ht _ _ ‹_› (by(simp only[ht];((try simp only[aa]at*);omega)))) hY (λZn qx=>?_);simp only[ht]at qx;((rw[e4]at qx;subst qx));cbv;refine⟨?_,?_⟩
   ·(simp only[ht,aa]at*;omega)
   iterate 4 refine gI (by simp[ht,ah]) ?_
   refine pI (by simp[ht,ah]) ?_;apply aj<;>intro OH
   .simp[ht,aa,fC]at OH;omega
   simp[ht,aa,fC]at OH;cbv;refine bA (_,_,_,_,_) (by simp only[ht];rfl) (m-1) ?_ ((HS _ _ _ _ _ _).2 ?_)
   .omega
   simp only[ht,aa];exact .inr (.inr (.inr ⟨by rw[bN (by decide) (by decide)];rfl,by omega,hY,hY,hY,hY⟩))
  simp[ht,aa,fC]at h11
 cbv;apply aj<;>intro X3
 .simp[ht,aa,fC]at X3
 simp[ht,aa,fC]at X3;cbv;(apply Ol (aZ 15 1 [(0,0)]::aZ 15 8 [(0,3)]::aZ 15 64 [(0,6)]::aZ 15 3 [(1,1)]::aZ 15 9 [(1,3),(2,0)]::aZ 15 24 [(2,4)]::aZ 15 65 [(1,6),(3,0)]::aZ 15 72 [(2,6),(3,3)]::aZ 15 192 [(3,7)]::aZ 15 7 [(4,2)]::aZ 15 11 [(4,3),(5,1)]::aZ 15 25 [(5,4),(6,0)]::aZ 15 56 [(6,5)]::aZ 15 67 [(4,6),(7,1)]::aZ 15 73 [(5,6),(7,3),(8,0)]::aZ 15 88 [(6,6),(8,4)]::aZ 15 193 [(7,7),(9,0)]::aZ 15 200 [(8,7),(9,3)]::aZ 15 448 [(9,8)]::aZ 15 15 [(10,3),(11,2)]::aZ 15 27 [(11,4),(12,1)]::aZ 15 57 [(12,5),(13,0)]::aZ 15 71 [(10,6),(14,2)]::aZ 15 75 [(11,6),(14,3),(15,1)]::aZ 15 89 [(12,6),(15,4),(16,0)]::aZ 15 120 [(13,6),(16,5)]::aZ 15 195 [(14,7),(17,1)]::aZ 15 201 [(15,7),(17,3),(18,0)]::aZ 15 216 [(16,7),(18,4)]::aZ 15 449 [(17,8),(19,0)]::aZ 15 456 [(18,8),(19,3)]::aZ 15 519 [(10,9)]::aZ 15 31 [(20,4),(21,2)]::aZ 15 59 [(21,5),(22,1)]::aZ 15 79 [(20,6),(23,3),(24,2)]::aZ 15 91 [(21,6),(24,4),(25,1)]::aZ 15 121 [(22,6),(25,5),(26,0)]::aZ 15 199 [(23,7),(27,2)]::aZ 15 203 [(24,7),(27,3),(28,1)]::aZ 15 217 [(25,7),(28,4),(29,0)]::aZ 15 248 [(26,7),(29,5)]::aZ 15 451 [(27,8),(30,1)]::aZ 15 457 [(28,8),(30,3),(31,0)]::aZ 15 472 [(29,8),(31,4)]::aZ 15 527 [(20,9),(32,3)]::aZ 15 583 [(23,9),(32,6)]::aZ 15 1543 [(32,10)]::aZ 15 63 [(33,5),(34,2)]::aZ 15 95 [(33,6),(35,4),(36,2)]::aZ 15 123 [(34,6),(36,5),(37,1)]::aZ 15 207 [(35,7),(38,3),(39,2)]::aZ 15 219 [(36,7),(39,4),(40,1)]::aZ 15 249 [(37,7),(40,5),(41,0)]::aZ 15 455 [(38,8),(42,2)]::aZ 15 459 [(39,8),(42,3),(43,1)]::aZ 15 473 [(40,8),(43,4),(44,0)]::aZ 15 504 [(41,8),(44,5)]::aZ 15 543 [(33,9),(45,4)]::aZ 15 591 [(35,9),(45,6),(46,3)]::aZ 15 711 [(38,9),(46,7)]::aZ 15 1551 [(45,10),(47,3)]::aZ 15 1607 [(46,10),(47,6)]::aZ 15 127 [(48,6),(49,5),(50,2)]::aZ 15 223 [(49,7),(51,4),(52,2)]::aZ 15 251 [(50,7),(52,5),(53,1)]::aZ 15 463 [(51,8),(54,3),(55,2)]::aZ 15 475 [(52,8),(55,4),(56,1)]::aZ 15 505 [(53,8),(56,5),(57,0)]::aZ 15 575 [(48,9),(58,5)]::aZ 15 607 [(49,9),(58,6),(59,4)]::aZ 15 719 [(51,9),(59,7),(60,3)]::aZ 15 967 [(54,9),(60,8)]::aZ 15 1567 [(58,10),(61,4)]::aZ 15 1615 [(59,10),(61,6),(62,3)]::aZ 15 1735 [(60,10),(62,7)]::aZ 15 255 [(63,7),(64,5),(65,2)]::aZ 15 479 [(64,8),(66,4),(67,2)]::aZ 15 507 [(65,8),(67,5),(68,1)]::aZ 15 639 [(63,9),(69,6),(70,5)]::aZ 15 735 [(64,9),(70,7),(71,4)]::aZ 15 975 [(66,9),(71,8),(72,3)]::aZ 15 1599 [(69,10),(73,5)]::aZ 15 1631 [(70,10),(73,6),(74,4)]::aZ 15 1743 [(71,10),(74,7),(75,3)]::aZ 15 1991 [(72,10),(75,8)]::aZ 15 511 [(76,8),(77,5),(78,2)]::aZ 15 767 [(76,9),(79,7),(80,5)]::aZ 15 991 [(77,9),(80,8),(81,4)]::aZ 15 1663 [(79,10),(82,6),(83,5)]::aZ 15 1759 [(80,10),(83,7),(84,4)]::aZ 15 1999 [(81,10),(84,8),(85,3)]::aZ 15 3647 [(82,11)]::aZ 15 1023 [(86,9),(87,8),(88,5)]::aZ 15 1791 [(87,10),(89,7),(90,5)]::aZ 15 2015 [(88,10),(90,8),(91,4)]::aZ 15 3711 [(89,11),(92,6)]::aZ 15 7743 [(92,12)]::aZ 15 2047 [(93,10),(94,8),(95,5)]::aZ 15 3839 [(94,11),(96,7)]::aZ 15 7807 [(96,12),(97,6)]::aZ 15 4095 [(98,11),(99,8)]::aZ 15 7935 [(99,12),(100,7)]::aZ 15 8191 [(101,12),(102,8)]::aZ 15 16383 [(103,13)]::aZ 15 32767 [(104,14)]::[]) (_::_::_::_::_::_::_::_::_::_::_::_::_::_::_::_::_::_::_::_::_::_::_::_::_::_::_::_::_::_::_::_::_::_::_::_::_::_::_::_::_::_::_::_::_::_::_::_::_::_::_::_::_::_::_::_::_::_::_::_::_::_::_::_::_::_::_::_::_::_::_::_::_::_::_::_::_::_::_::_::_::_::_::_::_::_::_::_::_::_::_::_::_::_::_::_::_::_::_::_::_::_::_::_::_::_::[]);kernel_rfl;(next=>refine Mb.mk rfl (Kr λQ=>?_);repeat (first|((with_reducible apply vq.cons);exact rfl)|(with_reducible exact vq.nil)|((with_reducible apply BP);focus (cbv;first|done|(refine And.intro ?_ ?_;(next=>simp[ht]);(first|exact rfl|exact True.intro))))|(apply p8.cons;exact rfl)|exact p8.nil));(next=>exact rfl));cbv;(refine yl hY (Zs ht s hs (by simp only[ht];((try simp only[aa]at*);omega)) X2 iC.2.2.2 (by simp only[ht];exact e5)) hY rfl rfl rfl ?_);cbv;refine gI (by simp[ht,ah]) ?_;refine aT (λg15=>⟨(by(simp[ht];done)),by simp[ht],qA ht _ _ _ _ _ _ _ _ ‹_› ‹_›⟩) rfl rfl (λr16 G1=>?_);simp only[ht]at G1;(simp only[ht,w1,w2,w3,ec]at G1;subst G1);cbv;refine gI (by simp[ht,ah]) ?_;refine pI (by simp[ht,ah]) ?_;apply aj<;>intro h17
 .simp[ht,aa,fC]at h17
 simp[ht,aa,fC]at h17;cbv;(exact ia hY (by simp[ht]) rfl rfl rfl (by simp only[ht,w1,w2,w3]))
def FA(s:az)(p:Int):Option (Jb×Int):=
 match aV s p with
 |⟨i,p1,true⟩=>match tZ s p1 with
  |some (x,p2)=>match aV s p2 with
   |⟨f,e,true⟩=>if 0<f/\f<9223372036854775808 then some (⟨i,x,true,f⟩,e)else none|_=>none
  |none=>none
 |_=>none
theorem z7{s:az}{p e:Int}{j:Jb}(h:FA s p=some (j,e)):∃p1 p2,aV s p=⟨j.id,p1,true⟩/\tZ s p1=some (j.x,p2)/\aV s p2=⟨j.left,e,true⟩/\j.runs=true/\0<j.left/\j.left<9223372036854775808:=by
 unfold FA at h;split at h
 .rename_i i p1 e1;split at h
  .rename_i x p2 e2;split at h
   .rename_i f q e3;split at h
    .rename_i g;simp only[osI,vab]at h;obtain⟨rfl,rfl⟩:=h;exact⟨p1,p2,e1,e2,e3,rfl,g.1,g.2⟩
    cases h
   cases h
  cases h
 cases h
theorem WI{s:az}{p e:Int}{l:List Term}(hs:s.length<9223372036854775000)(h:AN s p=some (l,e)):0<=e/\e<=s.length:=by
 obtain⟨n,q,g1,g2,g3⟩:=DC h;have b:=uY g1
 have:∀(n:Nat) (l L:List Term) (p e:Int),fe s n l p=some (L,e)->0<=p->p<=s.length->0<=e/\e<=s.length:=by
  intro n;induction n with
  |zero=>intro l L p e h h1 h2;rw[fe]at h;simp only[osI,vab]at h;omega|succ n ih=>
   intro l L p e h h1 h2;obtain⟨x,q,g1,g2⟩:=A6 h;have:=DB hs g1
   exact ih _ _ _ _ g2 this.1 this.2
 exact this _ _ _ _ _ g2 b.2.2.1 b.2.2.2
theorem Hf{s:az}{p e:Int}{x:Ask}(hs:s.length<9223372036854775000)(h:tZ s p=some (x,e)):0<=e/\e<=s.length:=by obtain⟨p1,p2,p3,p4,p5,e0,e1,e2,e3,e4,e5,_⟩:=DG h;exact WI hs e5
theorem OR{s:az}{p e:Int}{j:Jb}(h:FA s p=some (j,e)):0<=e/\e<=s.length:=by obtain⟨p1,p2,g1,g2,g3,_⟩:=z7 h;exact(bH g3).2.2
theorem WJ(ht:TT t)(s:az){p e:Int}(ji ja jb jc jd jn jp jt jf:Int)(jq:az)(jr:Bool){iv:List Term}{oE:List (List D)}(gS:oE=iv.map Term.cells)(hs:s.length<9223372036854775000)(hp:p<9223372036854775808)(iC:(⟨jq,⟨ja,jb,jc,jd⟩,jn,jp,jt,iv⟩:Ask).sm)(h:FA s p=some (⟨ji,⟨jq,⟨ja,jb,jc,jd⟩,jn,jp,jt,iv⟩,jr,jf⟩,e)):
 FC 71 [.ptr 0 0] [.var [ST s,bf p]] (.ret (.agg [aA ji,ST jq,aA ja,aA jb,aA jc,aA jd,bf jn,bf jp,bf jt,SL oE,BL jr,bf jf])) [.var [ST s,bf e]]:=by
 obtain⟨p1,p2,g1,g2,g3,g4,g5,g6⟩:=z7 h;simp only at g1 g2 g3 g4 g5 g6;have b1:=bH g1
 have b2:=Hf hs g2;have b3:=bH g3
 have hw:IntKind.i64.wrap jf=jf:=by rw[bN (by omega) (by omega)]
 subst g4;refine kJ ht (aK:=[.var [ST s,bf p]]) Tryz.func71 rfl rfl (N:=38) rfl rfl (n:=1) rfl rfl ?_;cbv;have rO:oE.length=iv.length:=by rw[gS,lgM]
 (refine aW [0] hY rfl rfl (bI ht s hs (by omega) g1) (aH ?_));cbv;refine mV [0,4] [0,4,9,10,11,12] [false,false,false,false,false,false,false,false,false,false,false,false,false,false,true,true,true] ?_;cbv;iterate 8 refine gI (by simp) ?_
 refine .inl ?_;(refine og (λg9=>⟨by simp,by simp,M0 ht s hs (by((try simp only[aa]at*);omega)) gS iC g2⟩) rfl rfl rfl ?_);cbv;iterate 4 refine gI (by simp) ?_
 (refine aW [0] hY rfl rfl (gC ht s _ _) (aH ?_));cbv;(apply yd [1] (.more 0 (.one 1 (.more 2 (.more 3 (.one 4 (.one 5 (.one 6 (.one 7 .done)))) (.one 4 (.more 3 (.one 5 (.one 6 (.one 7 .done))) (.one 5 (.one 3 (.one 6 (.one 7 .done))))))) (.one 4 (.one 2 (.more 3 (.one 5 (.one 6 (.one 7 .done))) (.one 5 (.one 3 (.one 6 (.one 7 .done))))))))) (.one 1 (.more 0 (.more 2 (.more 3 (.one 4 (.one 5 (.one 6 (.one 7 .done)))) (.one 4 (.more 3 (.one 5 (.one 6 (.one 7 .done))) (.one 5 (.one 3 (.one 6 (.one 7 .done))))))) (.one 4 (.one 2 (.more 3 (.one 5 (.one 6 (.one 7 .done))) (.one 5 (.one 3 (.one 6 (.one 7 .done)))))))) (.one 2 (.more 0 (.more 3 (.one 4 (.one 5 (.one 6 (.one 7 .done)))) (.one 4 (.more 3 (.one 5 (.one 6 (.one 7 .done))) (.one 5 (.one 3 (.one 6 (.one 7 .done))))))) (.one 3 (.one 0 (.one 4 (.one 5 (.one 6 (.one 7 .done)))))))))));kernel_rfl;kernel_rfl;kernel_rfl;kernel_rfl;(next=>cbv;repeat (first|(refine aW [0] hY rfl rfl (bI ht s hs (by((try simp only[aa]at*);omega)) g3) (aH ?_);cbv)|refine And.intro ?_ ?_|exact rfl|exact True.intro)));cbv;(exact ia hY (by simp) rfl rfl rfl (by simp only[ht,hw];simp;omega))
end Dem
end
