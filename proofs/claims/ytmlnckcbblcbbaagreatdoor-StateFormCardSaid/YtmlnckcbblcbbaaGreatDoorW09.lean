/- Parts of a proof, joined. -/
import Derived.Test.YtmlnckcbblcbbaaGreatDoorW08
import Derived.Maps.RangeWalk
set_option linter.all false
set_option maxRecDepth 100000
set_option maxHeartbeats 4000000
section
open Go Dem Go.Proofs
namespace Dem
variable {t:Th}
def bR.aS (_:Th) (q:bR):List D:=[.int .u64 q.id,.int .i64 q.prio]
theorem Ni{x y:bR}:x=y↔x.id=y.id/\x.prio=y.prio:=by cases x;cases y;simp
def X5(t:Th)(r:List bR×Int):AV:=.c5 [SL (t _ λ_=>r.1.map bR.cells),bf r.2]
def abZ(t:Th)(r:List bR×Bool):AV:=.c5 [SL (t _ λ_=>r.1.map bR.cells),BL r.2]
theorem TW(ht:TT t)(id:Int){l:List (bR)}{es:List (List D)}(aD:es=l.map bR.cells)(f:Nat)(p:bR->Bool)(hl:l.length<9223372036854775807)
 (hf:∀x∈l,FC f [.agg [aA x.id,bf x.prio],.ptr 0 0] [.var [aA id]] (.ret (BL (p x))) [.var [aA id]]) {r:Int} (hr:r=idxOf p l):FC 152 [SL es,.fn f [.ptr 0 0]] [.var [aA id]] (.ret (bf r)) [.var [aA id]]:=by
 have hel:es.length=l.length:=by rw[aD,lgM]
 refine kJ ht (aK:=[.var [aA id]]) Tryz.func152 rfl rfl (N:=19) rfl rfl (n:=1) rfl rfl ?_;cbv;refine bw ⟨[0,1,7,8],[],[]⟩ (σ:=Nat) (λk=>[(8,bf (t _ λ_=>(k:Int)))]) (λ_=>[]) (wL p l) ?_;cbv;refine aC ⟨l.length,0,.nil,by simp only[ht];rfl,λn k hj=>?_⟩;cbv;apply aj<;>intro h
 .simp only[ht,aa,vai]at h;have hk:k<es.length:=by omega
  obtain⟨x,hx,pM,px,hpx⟩:=hj.get (by omega);have iS:=hf x pM
  rw[<-hpx]at iS;obtain⟨a,b⟩:=x;cbv;refine jG [.int .u64 a,.int .i64 b] ?_ ?_ ?_
  .simp only[ht,aa];exact sE aD hk λ_=>rfl
  .simp[ht,aa,aD,hx,bR.cells]
  cbv;refine dO hY iS ?_;cbv;apply aj<;>intro hb
  .cbv;refine ak ?_;simp only[ht,aa,hr,hj.hit hx (hpx▸hb)]
  cbv;refine aC ⟨n-1,k+1,⟨hj.lt hx,hj.next hx (hpx▸hb)⟩,?_⟩;simp only[ht,aa,aG (show k<9223372036854775807 by omega)];rfl
 simp only[ht,aa,vap]at h;have hk:l.length<=k:=by omega
 clear h;cbv;refine ak ?_;rw[hr,hj.none hk]
theorem QA(ht:TT t)(id:Int)(x:bR):FC 153 [.agg [aA x.id,bf x.prio],.ptr 0 0] [.var [aA id]] (.ret (BL (decide (x.id=id)))) [.var [aA id]]:=by obtain⟨a,b⟩:=x;refine kJ ht (aK:=[.var [aA id]]) Tryz.func153 rfl rfl (N:=8) rfl rfl (n:=1) rfl rfl ?_;cbv;refine ak ?_;simp[ht]
theorem Ad(ht:TT t)(id:Int){l:List bR}{es:List (List D)}(aD:es=l.map bR.cells)(hl:l.length<1000000000):
 FC 99 [SL es,aA id] [] (.ret (ol (t _ λ_=>jI l id))) []:=by
 obtain⟨r,hr⟩:∃r,r=jI l id:=⟨_,rfl⟩;refine cC ht Tryz.func99 (N:=8) ?_;cbv;refine dO hY (TW ht id aD 153 (λx=>decide (x.id=id)) (by omega) (λx _=>QA ht id x) (r:=r) hr) ?_;cbv;exact ak (by simp[ht,hr])
theorem FG(ht:TT t)(a b:Int):FC 98 [.agg [aA a,bf b]] [] (.ret (cA (t _ λ_=>gA ⟨a,b⟩))) []:=by
 refine cC ht Tryz.func98 (N:=11) ?_;cbv;iterate 3 refine gI (by simp[ht]) ?_
 refine pI (by simp[ht]) ?_;refine ak ?_;(simp[ht,gA];done)
theorem FH(ht:TT t)(a b c d:Int):FC 102 [.agg [aA a,bf b],.agg [aA c,bf d]] [] (.ret (cA (t _ λ_=>dy ⟨a,b⟩ ⟨c,d⟩))) []:=by
 refine cC ht Tryz.func102 (N:=24) ?_;cbv;iterate 11 refine gI (by simp[ht]) ?_
 refine gI (by simp[ht,ah];intros;simp_all) ?_;refine pI (by simp[ht]) ?_;refine ak ?_;(simp[ht,dy];done)
theorem ZF{l:List bR}{e x:bR}{k:Nat}(hx:l[k]?=some x)(h:dy e x=true)(h3:∀i<k,∀y,l[i]?=some y->dy e y=false):vu l e=k:=by simp only[vu];rw[yp hx h h3]
theorem ZG{l:List bR}{e:bR}{k:Nat}(hk:l.length<=k)(h3:∀i<k,∀y,l[i]?=some y->dy e y=false):vu l e=l.length:=by
 simp only[vu];rw[C3];intro i y hy;have:i<l.length:=(List.getElem?_eq_some_iff.1 hy).1
 exact h3 i (by omega) y hy
theorem TX{l:List bR}{e x:bR}{k:Nat}(h3:∀i<k,∀y,l[i]?=some y->dy e y=false)(hx:l[k]?=some x)(h:dy e x=false):∀i<k+1,∀y,l[i]?=some y->dy e y=false:=by
 intro i hi y hy;rcases Nat.lt_or_ge i k with h1|h1
 .exact h3 i h1 y hy
 have:i=k:=by omega
 subst this;rw[hx]at hy;cases hy;exact h
theorem ZH(ht:TT t)(a b:Int){l:List bR}{es:List (List D)}(aD:es=l.map bR.cells)(hl:l.length<1000000000):
 FC 103 [.agg [.fn 102 []],SL es,.agg [aA a,bf b]] [] (.ret (ol (t _ λ_=>(vu l ⟨a,b⟩:Int)))) []:=by
 refine cC ht Tryz.func103 (N:=25) ?_;cbv;have ay:es.length=l.length:=by rw[aD,lgM]
 obtain⟨J0,dZ⟩:∃J0:Nat->Int->Prop,∀n i,J0 n i↔(∃k:Nat,i=k/\k+n=l.length/\∀i<k,∀y,l[i]?=some y->dy ⟨a,b⟩ y=false):=⟨λn v=>match v with|i=>(∃k:Nat,i=k/\k+n=l.length/\∀i<k,∀y,l[i]?=some y->dy ⟨a,b⟩ y=false),λ_ _=>Iff.rfl⟩;refine bw ⟨[1,3,5,9,10,11],[],[]⟩ (σ:=Int) (λv=>[(11,.d (.int .i64 (t _ λ_=>v)))]) (λv=>[]) J0 ?_;cbv;refine aC ⟨l.length,_,(dZ _ _).2 ?_,by simp only[ht];rfl,?_⟩
 .exact⟨0,rfl,by simp,λi hi=>by omega⟩
 rintro n i hj;replace hj:=(dZ _ _).1 hj;obtain⟨k,rfl,j1,j4⟩:=hj;cbv;apply aj<;>intro h1
 .simp[ht,aa,ay]at h1;cbv;refine eT ht aD (cT:=bR.aS t) (by(simp only[ht,aa];omega)) (by(simp only[ht,aa];omega)) (λ_=>rfl) (λ_=>rfl) (λx2 jX=>?_);simp[ht,aa]at jX;cbv;refine ar (FH ht _ _ _ _) hY (λr3 iR=>?_);simp only[ht]at iR;cbv;apply aj<;>intro h4
  .cbv;refine ak ?_;(simp only[ht];rw[ZF jX (by rw[h4]at iR;exact iR.symm) j4])
  cbv;refine bA _ (by simp only[ht];rfl) (n-1) ?_ ((dZ _ _).2 ?_)
  .omega
  simp only[aa];exact⟨k+1,aG (by omega),by omega,TX j4 ‹_› (by simp_all)⟩
 simp[ht,aa,ay]at h1;cbv;refine ak ?_;(simp only[ht];rw[ZG (by omega) j4];simp[aD];done)
theorem Nj(ht:TT t){es:List (List D)}(aD:∀r∈es,r.length=2)(hs:es.length*16<=140737488355328){m:Nat}(hm:m=es.length):
 FC 101 [SL es] [] (.ret (.ow 0 2 m)) [.row 2 es]:=by
 refine cC ht Tryz.func101 (N:=8) ?_;cbv;refine⟨λb hb=>?_⟩;simp only[ht]at hb;cbv;apply aj<;>intro h
 .have he:=hb h;subst he;cbv;exact Mi hY rfl rfl (by rw[hm];rfl) rfl
 clear hb h;cbv;refine⟨?_,?_⟩
 .simp only[ht];simp;exact⟨hs,aD⟩
 refine GA hY rfl rfl rfl rfl ?_ ?_
 .simp only[ht];rw[hm];simp
 simp only[ht];rfl
theorem Hv(ht:TT t){es:List (List D)}{x:D}{row:List D}{i n c:Nat}(hn:n=es.length)(hi:i<=n)(hc:n<=c)(hc0:n=0->c=0)(aD:∀r∈es,r.length=2)(hrow:(x::row).length=2)(hs:n<1000000){r:List (List D)}(hr:r=es.take i++(x::row)::es.drop i):
 FC 100 [.vw 0 2 0 n c true,bf (i:Int),SL [x::row]] [.row 2 es] (.ret (SL r)) [.dead]:=by
 obtain⟨n1,LR⟩:∃n1,n1=n+1:=⟨_,rfl⟩;obtain⟨i1,hi1⟩:∃i1,i1=i+1:=⟨_,rfl⟩;obtain⟨ni,hni⟩:∃ni,ni=n-i:=⟨_,rfl⟩;obtain⟨ci,wM⟩:∃ci,ci=c-i:=⟨_,rfl⟩;obtain⟨Bw,Tb⟩:∃Bw,Bw=c-i1:=⟨_,rfl⟩;obtain⟨rM,wN⟩:∃rM,rM=n1-i:=⟨_,rfl⟩;have hW:∀P:Prop,((IntKind.i64.wrap ((n:Int)+1)=(n1:Int))->(IntKind.i64.wrap ((n1:Int)-(i:Int))=(rM:Int))->(IntKind.i64.wrap ((i:Int)+1)=(i1:Int))->P)->P:=
  λP h=>h (by rw[wrap64 (by omega) (by omega)];omega) (by rw[wrap64 (by omega) (by omega)];omega) (by rw[wrap64 (by omega) (by omega)];omega)
 have hrl:r.length=n1:=by rw[hr,vaa,List.length_cons,vav,vaw];omega
 have Za:n≠0->FC 154 [SL [x::row],.vw 0 2 i1 ni Bw true] [.row 2 es] (.ret (BL false)) [.row 2 es]:=λh0=>
  jw HQ Tryz.func154 rfl rfl rfl rfl (tS:=32) (tR:=4) rfl rfl (by intro h;rw[h]at hn;exact h0 hn)
 refine kJ ht (aK:=[.row 2 es]) Tryz.func100 rfl rfl (N:=95) rfl rfl (n:=1) rfl rfl ?_;cbv;refine cq (.vw 0 2 i ni ci true) [.row 2 es] ?_ ?_ rfl ?_
 .simp[ht,eX,b9];omega
 .simp[ht,bc,aY,hni,wM]
 cbv;refine p9 (by simp[ht]) ?_;cbv;apply aj<;>intro h
 .have hin:i=n:=by simp[ht,aa]at h;omega
  clear h;cbv;refine cq (.ow 1 2 n1) [.dead,.row 2 r] ?_ ?_ ?_ ?_
  .simp only[ht];refine⟨⟨hn,by simp;omega,?_⟩,rfl,hn,λh=>⟨hc0 (by rw[hn,h];rfl),rfl⟩⟩;intro r hr;rcases List.mem_append.1 hr with hr|hr
   .exact aD r hr
   simp at hr;subst hr;exact hrow
  .simp[ht,LR,hn]
  .simp only[ht];rw[hr];have:i=es.length:=by omega
   subst this;simp
  cbv;refine ia hY ?_ rfl rfl rfl rfl;simp only[ht];exact hrl.symm
 have hin:i<n:=by simp[ht,aa]at h;omega
 clear h;have wK:r=(r.drop 0).take n1:=by rw[List.drop_zero,vao (by omega)]
 cbv;apply aj<;>intro h2
 .have Zb:c=n:=by refine hW _ λe1 e2 e3=>?_;simp[ht,aa,e1]at h2;omega
  clear h2;obtain⟨L,hL⟩:∃L:List (List D),L=es.take i++List.replicate (es.length+1-i) [D.int IntKind.u64 0,D.int IntKind.i64 0]:=⟨_,rfl⟩;have Lq:L.length=n1:=by rw[hL];simp;omega
  obtain⟨L1,wO⟩:∃L1,L1=wrote L i [x::row]:=⟨_,rfl⟩;have ou:L1.length=n1:=by rw[wO];simp[wrote,Lq];omega
  have sA:r=wrote L1 i1 (es.drop i):=by rw[hi1,wO,hL,yM (by omega),hr]
  cbv;refine cq (.vw 0 2 0 i c true) [.row 2 es] ?_ ?_ rfl ?_
  .simp[ht,eX,b9];omega
  .simp[ht,bc,aY]
  cbv;refine cq (.vw 1 2 0 n1 n1 false) [.row 2 es,.row 2 L] ?_ ?_ ?_ ?_
  .refine hW _ λe1 e2 e3=>?_;simp[ht,aa,e1,e2];omega
  .refine hW _ λe1 e2 e3=>?_;simp[ht,aa,e1,e2];omega
  .refine hW _ λe1 e2 e3=>?_;simp[ht,aa,e1,e2,hL];omega
  cbv;refine cq (.vw 1 2 i rM rM false) [.row 2 es,.row 2 L] ?_ ?_ rfl ?_
  .simp[ht,eX,b9];omega
  .simp[ht,bc,aY,wN]
  cbv;refine cq (bf 1) [.row 2 es,.row 2 L1] ?_ ?_ ?_ ?_
  .simp only[ht,gj];refine⟨⟨by omega,?_⟩,?_⟩
   .intro h;rw[h]at Lq;simp at Lq;omega
   intro r hr;have:=van hr;simp at this;rw[this];exact hrow
  .simp[ht,aa];omega
  .simp[ht,wO,show min 1 rM=1 by omega]
  cbv;refine bE [false,false,false,false,false,false,false,false,true] ?_;cbv;repeat (refine gI (by(simp;done)) ?_)
  refine kI (.vw 1 2 i1 ni ni false) (λ_=>⟨?_,?_⟩) ?_
  .refine hW _ λe1 e2 e3=>?_;simp[ht,aa,e3,eX,b9];omega
  .refine hW _ λe1 e2 e3=>?_;simp[ht,aa,e3,bc,aY];omega
  cbv;repeat (refine gI (by(simp;done)) ?_)
  refine kI (.vw 0 2 i ni ci true) (λ_=>⟨?_,?_⟩) ?_
  .simp[ht,eX,b9];omega
  .simp[ht,bc,aY,hni,wM]
  cbv;refine cq (bf (ni:Nat)) [.row 2 es,.row 2 r,.bJ] ?_ ?_ ?_ ?_
  .simp only[ht,gj];refine⟨by omega,⟨by omega,?_⟩,?_⟩
   .intro h;rw[h]at ou;simp at ou;omega
   intro r hr;exact aD r (List.mem_of_mem_drop (van hr))
  .simp[ht,aa]
  .simp only[ht,sA];rw[vao (by simp;omega)]
  cbv;refine CZ [true] hY ?_ rfl rfl rfl ?_
  .simp only[ht];omega
  simp only[ht];rw[<-wK]
 have Zb:n<c:=by refine hW _ λe1 e2 e3=>?_;simp[ht,aa,e1]at h2;omega
 clear h2;obtain⟨L1,wO⟩:∃L1,L1=wrote es i1 (es.drop i):=⟨_,rfl⟩;have sA:r=wrote L1 i [x::row]:=by rw[wO,hi1,GW (by omega),hr]
 have ou:L1.length=n1:=by rw[wO];simp[wrote];omega
 cbv;refine cq (.vw 0 2 0 n1 c true) [.row 2 es] ?_ ?_ rfl ?_
 .refine hW _ λe1 e2 e3=>?_;simp[ht,aa,e1,eX,b9];omega
 .refine hW _ λe1 e2 e3=>?_;simp[ht,aa,e1,bc,aY]
 cbv;refine cq (.vw 0 2 i1 ni Bw true) [.row 2 es] ?_ ?_ rfl ?_
 .refine hW _ λe1 e2 e3=>?_;simp[ht,aa,e3,eX,b9];omega
 .refine hW _ λe1 e2 e3=>?_;simp[ht,aa,e3,bc,aY];omega
 cbv;refine dO hY (Za (by omega)) ?_;cbv;refine oe (by simp[ht]) ?_;cbv;refine bE [false,false,false,false,false,false,false,false,true] ?_;cbv;repeat (refine gI (by(simp;done)) ?_)
 refine kI (.vw 0 2 i1 ni Bw true) (λ_=>⟨?_,?_⟩) ?_
 .refine hW _ λe1 e2 e3=>?_;simp[ht,aa,e3,eX,b9];omega
 .refine hW _ λe1 e2 e3=>?_;simp[ht,aa,e3,bc,aY];omega
 cbv;repeat (refine gI (by(simp;done)) ?_)
 refine kI (.vw 0 2 i rM ci true) (λ_=>⟨?_,?_⟩) ?_
 .simp[ht,eX,b9];omega
 .simp[ht,bc,aY,wN,wM]
 cbv;refine cq (bf (ni:Nat)) [.row 2 L1,.bJ] ?_ ?_ ?_ ?_
 .simp only[ht,gj];refine⟨by omega,⟨by omega,?_⟩,?_⟩
  .intro h;rw[h]at hn;simp at hn;omega
  intro r hr;exact aD r (List.mem_of_mem_drop (van hr))
 .simp[ht,aa];omega
 .simp only[ht,wO];rw[vao (by simp;omega)]
 cbv;refine cq (.vw 0 2 i rM ci true) [.row 2 L1,.bJ] ?_ ?_ rfl ?_
 .simp[ht,eX,b9];omega
 .simp[ht,bc,aY,wN,wM]
 cbv;refine cq (bf 1) [.row 2 r,.bJ] ?_ ?_ ?_ ?_
 .simp only[ht,gj];refine⟨⟨by omega,?_⟩,?_⟩
  .intro h;rw[h]at ou;simp at ou;omega
  intro r hr;have:=van hr;simp at this;rw[this];exact hrow
 .simp[ht,aa];omega
 .simp[ht,sA,show min 1 rM=1 by omega]
 cbv;refine CZ [true] hY ?_ rfl rfl rfl ?_
 .simp only[ht];omega
 simp only[ht];rw[<-wK]
theorem KM(ht:TT t){es:List (List D)}{x:D}{row:List D}{i n:Nat}(hn:n=es.length)(hi:i<=n)(aD:∀r∈es,r.length=2)(hrow:(x::row).length=2)(hs:n<1000000){r:List (List D)}(hr:r=es.take i++(x::row)::es.drop i):
 FC 100 [.ow 0 2 n,bf (i:Int),SL [x::row]] [.row 2 es] (.ret (SL r)) [.dead]:=
 gJ λc hc hc0=>Hv ht hn hi hc hc0 aD hrow hs hr
theorem KN(ht:TT t){l:List bR}{es:List (List D)}(aD:es=l.map bR.cells)(hs:l.length<1000000000):
 FC 101 [SL es] [] (.ret (.ow 0 2 (t _ λ_=>(l.map bR.cells).length))) [.row 2 (t _ λ_=>l.map bR.cells)]:=by
 simp only[ht];subst aD;refine Nj ht ?_ ?_ (by simp)
 .intro r hr;obtain⟨y,_,rfl⟩:=List.mem_map.1 hr;rfl
 simp;omega
theorem Hw(ht:TT t){l:List bR}{x:bR}{k:Nat}{i:Int}(hi:i=k)(hk:k<=l.length)(hl:l.length<1000000):
 FC 100 [.ow 0 2 (t _ λ_=>(l.map bR.cells).length),bf i,.cl [bR.cells x]] [.row 2 (t _ λ_=>l.map bR.cells)] (.ret (SL (t _ λ_=>(l.take k++x::l.drop k).map bR.cells))) [.dead]:=by
 simp only[ht];subst hi;refine rE (args':=[.ow 0 2 (l.map bR.cells).length,bf k,SL [bR.cells x]]) ?_ (KM ht (by simp) (by simpa using hk) ?_ rfl (by simpa using hl) (by simp[bR.cells]))
 .intro β w ok vs h;simp only[an]at h ⊢;obtain⟨u1,us1,rfl,h1,u2,RG,rfl,h2,u3,Zi,rfl,h3,h4⟩:=h;exact⟨u1,_,rfl,h1,u2,_,rfl,h2,u3,Zi,rfl,Ow h3,h4⟩
 intro r hr;obtain⟨y,_,rfl⟩:=List.mem_map.1 hr;rfl
theorem ZI(l:List bR)(e:bR):vu l e<=l.length:=by
 unfold vu;cases h:l.findIdx? (λx=>dy e x)with
 |none=>exact vad _|some k=>exact Nat.le_of_lt (List.findIdx?_eq_some_iff_getElem.1 h).1
theorem ue(ht:TT t)(a b:Int){l:List bR}{es:List (List D)}(aD:es=l.map bR.cells)(hl:l.length<1000000):
 FC 37 [SL es,.agg [aA a,bf b]] [] (.ret (X5 t (t _ λ_=>gk l ⟨a,b⟩))) []:=by
 have hq:=ZI l ⟨a,b⟩;obtain⟨qa,hqa⟩:∃n,n=vu l ⟨a,b⟩:=⟨_,rfl⟩;refine cC ht Tryz.func37 (N:=31) ?_;cbv;have ay:es.length=l.length:=by rw[aD,lgM]
 refine ar (FG ht _ _) hY (λr0 bM=>?_);simp only[ht]at bM;cbv;apply aj<;>intro h1
 .cbv;refine ak ?_;(simp only[ht];simp_all[gk];done)
 cbv;refine ar (Ad ht _ ‹_› (by omega)) hY (λr2 dj=>?_);simp only[ht]at dj;cbv;apply aj<;>intro h3
 .simp[ht]at h3;cbv;refine ak ?_;(simp only[ht];simp_all[gk];done)
 simp[ht]at h3;cbv;apply aj<;>intro h4
 .simp[ht,aa,ay]at h4;cbv;refine ak ?_;(simp only[ht,gk];grind)
 simp[ht,aa,ay]at h4;cbv;refine bE [false,false,false,false,false,false,false,false,true,true,true] ?_;cbv;refine gI (by simp) ?_;refine .inr (Ot hY (KN ht ‹_› (by omega)) hY rfl (.inr rfl) rfl ?_);cbv;iterate 3 refine gI (by simp) ?_
 refine .inl ?_;refine aT (λg5=>⟨hY,hY,ZH ht _ _ ‹_› (by omega)⟩) rfl rfl (λr6 jK=>?_);simp only[ht]at jK;rw[<-hqa]at jK;cbv;iterate 2 refine gI (by simp) ?_
 refine aW [1] hY rfl rfl (Hw ht (l:=l) (x:=⟨a,b⟩) (k:=qa) ‹_› (by omega) (by omega)) (aH ?_);cbv;refine ak ?_;(simp only[ht,gk];grind)
def oW(l:List bR)(k:Nat):Option bR:=match k with
 |0=>none|k+1=>l[k]?
theorem FI{l:List bR}{k:Nat}{x:bR}:PG (oW l k) x=(decide (k=0)||match l[k-1]? with|none=>true|some y=>dy y x):=by
 cases k with
 |zero=>rfl|succ k=>simp only[oW,PG];cases h:l[k]?<;>simp[h]
theorem QB{l:List bR}{k:Nat}{x y:bR}{r3 r7:Bool}{r5:Int}{rest:Bool}(j4:kO l none 0 l=(!gA x&&decide (jI l x.id=(k:Int))&&PG (oW l k) x&&rest))(e3:r3=gA x)(e5:r5=jI l x.id)(e7:r7=dy y x)
 (my:r3=false->r5=(k:Int)->0<k->l[k-1]?=some y) (h:(r3=true∨¬r5=(k:Int))∨0<k/\r7=false):pE l=false:=by
 subst e3 e5 e7;unfold pE;rw[j4,FI];by_cases h3:gA x=true
 .simp[h3]
 by_cases h5:jI l x.id=(k:Int)
 .rcases h with(h|h)|⟨h,h7⟩
  .exact absurd h h3
  .exact absurd h5 h
  rw[my (by simpa using h3) h5 h];have:k≠0:=by omega
  simp[this,h7]
 simp[h5]
theorem KO{l:List bR}{k:Nat}{x y:bR}{r3 r7:Bool}{r5:Int}{rest:Bool}(e3:r3=gA x)(e5:r5=jI l x.id)(e7:r7=dy y x)
 (my:r3=false->r5=(k:Int)->0<k->l[k-1]?=some y) (h:(r3=false/\r5=(k:Int))/\(0<k->r7=true)):(!gA x&&decide (jI l x.id=(k:Int))&&PG (oW l k) x&&rest)=rest:=by
 subst e3 e5 e7;obtain⟨⟨h3,h5⟩,h7⟩:=h;rw[FI];by_cases k0:k=0
 .subst k0;simp[h3,h5]
 rw[my h3 h5 (by omega)];simp[h3,h5,h7 (by omega)]
theorem QC(ht:TT t){l:List bR}{es:List (List D)}(aD:es=l.map bR.cells)(hl:l.length<1000000):
 FC 53 [SL es] [] (.ret (cA (t _ λ_=>pE l))) []:=by
 refine cC ht Tryz.func53 (N:=40) ?_;cbv;have ay:es.length=l.length:=by rw[aD,lgM]
 obtain⟨J0,dZ⟩:∃J0:Nat->Int->Prop,∀n i,J0 n i↔(∃k:Nat,i=k/\k+n=l.length/\kO l none 0 l=kO l (oW l k) k (l.drop k)):=⟨λn v=>match v with|i=>(∃k:Nat,i=k/\k+n=l.length/\kO l none 0 l=kO l (oW l k) k (l.drop k)),λ_ _=>Iff.rfl⟩;refine bw ⟨[0,5,6,7],[],[]⟩ (σ:=Int) (λv=>[(7,.d (.int .i64 (t _ λ_=>v)))]) (λv=>[]) J0 ?_;cbv;refine aC ⟨l.length,_,(dZ _ _).2 ?_,by simp only[ht];rfl,?_⟩
 .exact⟨0,rfl,by simp,by simp[oW]⟩
 rintro n i hj;replace hj:=(dZ _ _).1 hj;obtain⟨k,rfl,j1,j4⟩:=hj;cbv;apply aj<;>intro h1
 .simp[ht,aa,ay]at h1;cbv;refine eT ht aD (cT:=bR.aS t) (by(simp only[ht,aa];omega)) (by(simp only[ht,aa];omega)) (λ_=>rfl) (λ_=>rfl) (λx2 jX=>?_);simp[ht,aa]at jX;simp only[cu jX,kO]at j4;cbv;refine bE [true,true,true,false,false,false,false,false,true,true,true,true,true,true,false,false,false,false,false,false,true,true,true,true] ?_;cbv;refine ar (FG ht _ _) hY (λr3 iR=>?_);simp only[ht]at iR;cbv;iterate 3 refine gI (by simp[ht]) ?_
  refine aT (λg4=>⟨by simp[ht]at g4 ⊢;exact g4,hY,Ad ht _ ‹_› (by omega)⟩) rfl rfl (λr5 lp=>?_);simp only[ht]at lp;cbv;iterate 2 refine gI (by simp[ht]) ?_
  refine pI (by simp[ht]) ?_;iterate 6 refine gI (by simp[ht]) ?_
  (refine JB ht aD (cT:=bR.aS t) (k-1) (λg=>by simp[ht,aa]at g ⊢;simp[g]) (λg=>by simp[ht,aa]at g;simp only[ht,aa];exact⟨yu (by omega) (by omega),by omega⟩) (λ_=>rfl) (λ_=>rfl) (λy my=>?_);simp[ht,aa]at my);cbv;iterate 2 refine gI (by simp[ht]) ?_
  refine aT (λg6=>⟨by simp[ht]at g6 ⊢;exact g6,hY,FH ht _ _ _ _⟩) rfl rfl (λr7 jU=>?_);simp only[ht]at jU;cbv;refine gI (by simp[ht]) ?_;refine gI (by simp[ht,ah];intros;simp_all) ?_;refine pI (by simp[ht]) ?_;apply aj<;>intro h8
  .simp[ht,aa]at h8;cbv;refine ak ?_;(simp only[ht];rw[QB j4 iR lp jU my h8])
  simp[ht,aa]at h8;cbv;refine bA _ (by simp only[ht];rfl) (n-1) ?_ ((dZ _ _).2 ?_)
  .omega
  simp only[aa];refine⟨k+1,aG (by omega),by omega,?_⟩;(simp only[oW];rw[jX,j4];exact KO iR lp jU my h8)
 simp[ht,aa,ay]at h1;cbv;refine ak ?_;(rw[vah (by omega),kO]at j4;have e:decide ((l.length:Int)<=32)=decide (l.length<=32):=(by rw[decide_eq_decide];omega);simp[ht,aa,pE,j4,ay,e];done)
def gT(s:az):Nat->List Jb->List bR->Int->Option (List Jb×List bR×Int)
 |0,l,q,p=>some (l,q,p)|n+1,l,q,p=>match vO s p with
  |some (j,e)=>gT s n (l++[j]) (if j.runs then q else(gk q ⟨j.id,j.x.prio⟩).1) e|none=>none
theorem rQ{s:az}{n:Nat}{l L:List Jb}{q Q:List bR}{p e:Int}(h:gT s n l q p=some (L,Q,e)):n=0∨∃m j r,n=m+1/\vO s p=some (j,r)/\gT s m (l++[j]) (if j.runs then q else(gk q ⟨j.id,j.x.prio⟩).1) r=some (L,Q,e):=by
 cases n with
 |zero=>exact .inl rfl|succ m=>
  rw[gT]at h;split at h
  .rename_i j r g;exact .inr ⟨m,j,r,rfl,g,h⟩
  cases h
theorem rR{s:az}:∀{n:Nat} {l L:List Jb} {q Q:List bR} {p e:Int},gT s n l q p=some (L,Q,e)->0<=p->p<=s.length->(0<=e/\e<=s.length)/\L.length=l.length+n/\∀x∈l,x∈L
 |0,l,L,q,Q,p,e,h,h1,h2=>by rw[gT]at h;simp only[osI,vab]at h;obtain⟨rfl,rfl,rfl⟩:=h;exact⟨⟨h1,h2⟩,rfl,λ_ h=>h⟩
 |n+1,l,L,q,Q,p,e,h,h1,h2=>by
  obtain⟨m,j,r,hm,g,h⟩:=(rQ h).resolve_left (by omega);cases hm;have b:=yV g
  obtain⟨a,c,d⟩:=rR h b.1 b.2;refine⟨a,by simp at c;omega,λx hx=>d x (by simp[hx])⟩
theorem ve{l:List bR}{e:bR}(h:l.length<=32):(gk l e).1.length<=32:=by
 unfold gk;split
 .exact h
 split
 .exact h
 split
 .exact h
 simp only[vaa,vav,List.length_cons,vaw];omega
theorem DL(ht:TT t)(s:az){p p1 p2 p3 p4 p5 p6 p7 e c:Int}(rd nx ef af:Int){nl:List Node}{pl:List Place}{tl:List aR}{jl:List Jb}{ql:List bR}{el al:List cw}{ns ps ts js qs es eO:List (List D)}(ij:ns=nl.map Node.cells)(hps:ps=pl.map Place.cells)(hts:ts=tl.map aR.cells)(gD:js=jl.map Jb.cells)(fX:qs=ql.map bR.cells)(aD:es=el.map cw.cells)(has:eO=al.map cw.cells)(hs:s.length<9223372036854775000)(hp:p<9223372036854775808)
 (g1:aV s p=⟨rd,p1,true⟩) (g2:aV s p1=⟨nx,p2,true⟩) (g3:tK s p2=⟨⟨nl,pl⟩,p3,true⟩) (l3:p3<=s.length) (g4:pG s p3=⟨tl,p4,true⟩) (l4:p4<=s.length)
 (g5:aV s p4=⟨c,p5,true⟩) (g6:gT s c.toNat [] [] p5=some (jl,ql,p6)) (hjl:jl.length<1000000) (iC:∀j∈jl,j.x.sm)
 (g7:fB s p6=some (⟨ef,el⟩,p7)) (hel:el.length<1000000) (g8:fB s p7=some (⟨af,al⟩,e)) (hal:al.length<1000000):
 FC 26 [.ptr 0 0] [.var [ST s,bf p]] (.ret (.agg [aA rd,aA nx,SL ns,SL ps,SL ts,SL js,SL qs,aA ef,SL es,aA af,SL eO])) [.var [ST s,bf e]]:=by
 have b1:=bH g1;have b2:=bH g2
 have b5:=bH g5;have b6:=rR g6 b5.2.2.1 b5.2.2.2
 have b7:=mL g7;have b8:=mL g8
 have b60:=b6.1;have b61:=b6.2.1
 simp only[List.length_nil,Nat.zero_add]at b61;refine kJ ht (aK:=[.var [ST s,bf p]]) Tryz.func26 rfl rfl (N:=89) rfl rfl (n:=1) rfl rfl ?_;cbv;obtain⟨dc,dm,dG,cF,cM,ay,cG⟩:=je ij hps hts gD fX aD has;(first|refine aW [0] hY rfl rfl (bI ht s hs (by((try simp only[aa]at*);omega)) g1) (aH ?_)|refine aW [0] hY rfl rfl (bI ht s hs (by((try simp only[aa]at*);omega)) g2) (aH ?_)|refine aW [0] hY rfl rfl (bI ht s hs (by((try simp only[aa]at*);omega)) g5) (aH ?_));cbv;(first|refine aW [0] hY rfl rfl (bI ht s hs (by((try simp only[aa]at*);omega)) g1) (aH ?_)|refine aW [0] hY rfl rfl (bI ht s hs (by((try simp only[aa]at*);omega)) g2) (aH ?_)|refine aW [0] hY rfl rfl (bI ht s hs (by((try simp only[aa]at*);omega)) g5) (aH ?_));cbv;refine mV [0,4] [0,4,9,10,11,12] [false,false,false,false,false,false,false,false,false,false,false,false,false,false,true,true,true] ?_;cbv;iterate 8 refine gI (by simp[ht,ah]) ?_
 refine .inl ?_;refine iJ (λg0=>⟨hY,hY,G0 ht _ _ ‹_› (by((try simp only[aa]at*);omega))⟩) rfl rfl rfl (λr1 ej=>?_);simp only[ht]at ej;(rw[g3]at ej;subst ej);cbv;iterate 4 refine gI (by simp[ht,ah]) ?_
 (refine aW [0] hY rfl rfl (gC ht s _ _) (aH ?_));cbv;refine bE [false,false,false,false,false,false,false,false,true,true,false,false,false,false,false,true] ?_;cbv;iterate 8 refine gI (by simp[ht,ah]) ?_
 refine aM (Hp ht _ _ ‹_› (by((try simp only[aa]at*);omega))) hY (λr2 dj=>?_);simp only[ht]at dj;(rw[g4]at dj;subst dj);cbv;iterate 5 refine gI (by simp[ht,ah]) ?_
 (refine aW [0] hY rfl rfl (gC ht s _ _) (aH ?_));cbv;(first|refine aW [0] hY rfl rfl (bI ht s hs (by((try simp only[aa]at*);omega)) g1) (aH ?_)|refine aW [0] hY rfl rfl (bI ht s hs (by((try simp only[aa]at*);omega)) g2) (aH ?_)|refine aW [0] hY rfl rfl (bI ht s hs (by((try simp only[aa]at*);omega)) g5) (aH ?_));cbv;obtain⟨J3,yP⟩:∃J3:Nat->Int×List (List D)×List (List D)×Int->Prop,∀n i o u a,J3 n (i,o,u,a)↔(∃(k:Nat) (l:List Jb) (qq:List bR),i=k/\k+n=c.toNat/\o=l.map Jb.cells/\l.length=k/\u=qq.map bR.cells/\qq.length<=32/\0<=a/\a<=s.length/\gT s n l qq a=some (jl,ql,p6)):=⟨λn v=>match v with|(i,o,u,a)=>(∃(k:Nat) (l:List Jb) (qq:List bR),i=k/\k+n=c.toNat/\o=l.map Jb.cells/\l.length=k/\u=qq.map bR.cells/\qq.length<=32/\0<=a/\a<=s.length/\gT s n l qq a=some (jl,ql,p6)),λ_ _ _ _ _=>Iff.rfl⟩;refine bw ⟨[0,2,3,54,55],[],[(2,5,12),(2,6,0)]⟩ (σ:=Int×List (List D)×List (List D)×Int) (λv=>[(55,.d (.int .u64 (t _ λ_=>v.1)))]) (λv=>[(3,.row 12 (t _ λ_=>v.2.1)),(2,.var [AV.d (D.int IntKind.u64 rd),AV.d (D.int IntKind.u64 nx),AV.d (D.sl (t (List (List D)) λx=>List.map (λx=>[D.str (Node.name x),D.int IntKind.u64 (bz.a (Node.cap x)),D.int IntKind.u64 (bz.b (Node.cap x)),D.int IntKind.u64 (bz.c (Node.cap x)),D.int IntKind.u64 (bz.d (Node.cap x)),D.sl (List.map (λp=>[D.str (bT.key p),D.str (bT.value p)]) (Node.labels x)),D.bool (Node.up x)]) (cR.nodes {nodes:=nl,places:=pl}))),AV.d (D.sl (t (List (List D)) λx=>List.map (λx=>[D.int IntKind.u64 (Place.bL x),D.str (Place.node x),D.int IntKind.u64 (bz.a (Place.v x)),D.int IntKind.u64 (bz.b (Place.v x)),D.int IntKind.u64 (bz.c (Place.v x)),D.int IntKind.u64 (bz.d (Place.v x))]) (cR.places {nodes:=nl,places:=pl}))),AV.d (D.sl (t (List (List D)) λx=>List.map (λe=>[D.str (aR.path e),D.int IntKind.u64 (bz.a (aR.cU e)),D.int IntKind.u64 (bz.b (aR.cU e)),D.int IntKind.u64 (bz.c (aR.cU e)),D.int IntKind.u64 (bz.d (aR.cU e)),D.int IntKind.u64 (bz.a (aR.used e)),D.int IntKind.u64 (bz.b (aR.used e)),D.int IntKind.u64 (bz.c (aR.used e)),D.int IntKind.u64 (bz.d (aR.used e))]) tl)),.ow 3 12 (t _ λ_=>(v.2.1).length),.d (.sl (t _ λ_=>v.2.2.1)),AV.d (D.int IntKind.u64 0),AV.cl [],AV.d (D.int IntKind.u64 0),AV.cl []]),(0,.var [AV.d (D.str s),.d (.int .i64 (t _ λ_=>v.2.2.2))])]) J3 ?_;cbv;refine aC ⟨c.toNat,(_,[],_,_),(yP _ _ _ _ _).2 ?_,by simp only[ht];rfl,?_⟩
 .exact⟨0,[],[],rfl,by((try simp only[aa]at*);omega),rfl,rfl,rfl,by decide,b5.2.2.1,b5.2.2.2,g6⟩
 rintro n ⟨i,o,u,a⟩ hj;replace hj:=(yP _ _ _ _ _).1 hj;obtain⟨k,l,qq,rfl,j1,rfl,j3,rfl,j2,j4,j5,j6⟩:=hj;have hx:=rQ j6
 cbv;apply aj<;>intro h4
 .simp[ht,aa,dc,dm,dG,cF,cM,ay,cG]at h4;cbv;(obtain⟨m,⟨ji,⟨jq,⟨ja,jb,jc,jd⟩,jn,jp,jt,iv⟩,jr,jf⟩,q,rfl,gx,gy⟩:=hx.resolve_left (by((try simp only[aa]at*);omega));have bx:=yV gx;have bm:=(rR gy bx.1 bx.2).2.2 _ (List.mem_append_right _ (List.mem_singleton.2 rfl));have bs:=iC _ bm;obtain⟨oE,gS⟩:∃oE,oE=iv.map Term.cells:=⟨_,rfl⟩;refine aW [0] hY rfl rfl (KL ht s ji ja jb jc jd jn jp jt jf jq jr gS hs (by simp only[ht];((try simp only[aa]at*);omega)) bs (by simp only[ht];exact gx)) (aH ?_));cbv;refine⟨?_,?_⟩
  ·(simp only[ht,true_and];exact DH (l:=l) (by((try simp only[aa]at*);omega)))
  cbv;apply aj<;>intro h5
  .simp[ht,aa,dc,dm,dG,cF,cM,ay,cG]at h5;cbv;(refine aM (ue ht ji jp (l:=qq) (by simp only[ht]) (by((try simp only[aa]at*);omega))) (by simp[ht]) (λr9 dR=>?_);simp only[ht]at dR);cbv;refine bA (_,_,_,_) (by simp only[ht,<-vaa];rfl) m ?_ ((yP _ _ _ _ _).2 ?_)
   .omega
   simp only[ht,aa];first|exact⟨k+1,l++[⟨ji,⟨jq,⟨ja,jb,jc,jd⟩,jn,jp,jt,iv⟩,jr,jf⟩],qq,kT (by((try simp only[aa]at*);omega)),by((try simp only[aa]at*);omega),by simp[Jb.cells,gS],by simp;((try simp only[aa]at*);omega),rfl,j2,bx.1,bx.2,by simpa[*]using gy⟩|exact⟨k+1,l++[⟨ji,⟨jq,⟨ja,jb,jc,jd⟩,jn,jp,jt,iv⟩,jr,jf⟩],r9.1,kT (by((try simp only[aa]at*);omega)),by((try simp only[aa]at*);omega),by simp[Jb.cells,gS],by simp;((try simp only[aa]at*);omega),rfl,by rw[dR];exact ve j2,bx.1,bx.2,by simpa[*]using gy⟩
  simp[ht,aa,dc,dm,dG,cF,cM,ay,cG]at h5;cbv;refine bA (_,_,_,_) (by simp only[ht,<-vaa];rfl) m ?_ ((yP _ _ _ _ _).2 ?_)
  .omega
  simp only[ht,aa];first|exact⟨k+1,l++[⟨ji,⟨jq,⟨ja,jb,jc,jd⟩,jn,jp,jt,iv⟩,jr,jf⟩],qq,kT (by((try simp only[aa]at*);omega)),by((try simp only[aa]at*);omega),by simp[Jb.cells,gS],by simp;((try simp only[aa]at*);omega),rfl,j2,bx.1,bx.2,by simpa[*]using gy⟩|exact⟨k+1,l++[⟨ji,⟨jq,⟨ja,jb,jc,jd⟩,jn,jp,jt,iv⟩,jr,jf⟩],r9.1,kT (by((try simp only[aa]at*);omega)),by((try simp only[aa]at*);omega),by simp[Jb.cells,gS],by simp;((try simp only[aa]at*);omega),rfl,by rw[dR];exact ve j2,bx.1,bx.2,by simpa[*]using gy⟩
 simp[ht,aa,dc,dm,dG,cF,cM,ay,cG]at h4;cbv;(first|(refine aW [0] hY rfl rfl (jg ht s hs (by((try simp only[aa]at*);omega)) hal has g8) (aH ?_))|(have hn:n=0:=(by((try simp only[aa]at*);omega));subst hn;rw[gT]at j6;simp only[osI,vab]at j6;obtain⟨j7,j9,j8⟩:=j6;refine aW [0] hY rfl rfl (jg ht s hs (by simp only[ht];((try simp only[aa]at*);omega)) hel aD (by simp only[ht];rw[j8];exact g7)) (aH ?_)));cbv;(first|(refine aW [0] hY rfl rfl (jg ht s hs (by((try simp only[aa]at*);omega)) hal has g8) (aH ?_))|(have hn:n=0:=(by((try simp only[aa]at*);omega));subst hn;rw[gT]at j6;simp only[osI,vab]at j6;obtain⟨j7,j9,j8⟩:=j6;refine aW [0] hY rfl rfl (jg ht s hs (by simp only[ht];((try simp only[aa]at*);omega)) hel aD (by simp only[ht];rw[j8];exact g7)) (aH ?_)));cbv;refine ia hY (by simp[ht]) rfl rfl rfl ?_;(simp[ht,Tr,TL,Jz,OU,X5, *];done)
def BR(s:az):Nat->Int->Prop
 |0,_=>False|n+1,p=>DK s p∨∃j q,vO s p=some (j,q)/\j.x.sm/\BR s n q
def O0(s:az)(p:Int):Prop:=yU s p∨∃x q,fB s p=some (x,q)/\x.l.length<1000/\yU s q
def JM(s:az)(n:Nat)(l:List Jb)(q:List bR)(a:Int):Prop:=BR s n a∨∃jl ql p,gT s n l q a=some (jl,ql,p)/\(∀j∈jl,j.x.sm)/\O0 s p
theorem WV{s:az}{n:Nat}{l:List Jb}{q:List bR}{a:Int}(h:JM s n l q a)(hn:n≠0)(h1:0<=a)(h2:a<=s.length):
 DK s a∨∃m j r,n=m+1/\vO s a=some (j,r)/\j.x.sm/\JM s m (l++[j]) (if j.runs then q else(gk q ⟨j.id,j.x.prio⟩).1) r:=by
 cases n with
 |zero=>exact absurd rfl hn|succ m=>
  rcases h with h|⟨jl,ql,p,h,g1,g2⟩
  .rcases h with h|⟨j,r,g,gs,h⟩
   .exact .inl h
   exact .inr ⟨m,j,r,rfl,g,gs,.inl h⟩
  obtain⟨m',j,r,hm,g,h⟩:=(rQ h).resolve_left (by omega)
  cases hm
  have b:=yV g
  have bm:=(rR h b.1 b.2).2.2 _ (List.mem_append_right _ (List.mem_singleton.2 rfl))
  exact .inr ⟨m,j,r,rfl,g,g1 _ bm,.inr ⟨jl,ql,p,h,g1,g2⟩⟩
theorem TY{s:az}{l:List Jb}{q:List bR}{a:Int}(h:JM s 0 l q a):O0 s a:=by
 rcases h with h|⟨jl,ql,p,h,g1,g2⟩
 .exact h.elim
 rw[gT]at h;simp only[osI,vab]at h;obtain⟨_,_,rfl⟩:=h;exact g2
def yW(s:az)(p:Int):Prop:=(aV s p).ok=false∨∃rd p1,aV s p=⟨rd,p1,true⟩/\((aV s p1).ok=false∨∃nx p2,aV s p1=⟨nx,p2,true⟩/\((tK s p2).ok=false∨∃nl pl p3,tK s p2=⟨⟨nl,pl⟩,p3,true⟩/\p3<=s.length/\
 ((pG s p3).ok=false∨∃tl p4,pG s p3=⟨tl,p4,true⟩/\p4<=s.length/\((aV s p4).ok=false∨∃c p5,aV s p4=⟨c,p5,true⟩/\c<1000/\JM s c.toNat [] [] p5))))
theorem Nk(ht:TT t)(s:az){p:Int}(hs:s.length<9223372036854775000)(hp:p<9223372036854775808)(hA:yW s p):
 FC 26 [.ptr 0 0] [.var [ST s,bf p]] (.zh Qy) [.dead]:=by
 unfold yW at hA;refine X4 ht (aK:=[.var [ST s,bf p]]) Tryz.func26 rfl rfl (N:=89) rfl (n:=1) rfl rfl ?_;cbv;(first|(rcases hA with g1|⟨rd,p1,g1,hB⟩<;>first|(refine bU [0] hY rfl rfl (cz ht s hs (by((try simp only[aa]at*);omega)) g1) (bK ?_))|(have b1:=bH g1;refine aW [0] hY rfl rfl (bI ht s hs (by((try simp only[aa]at*);omega)) g1) (aH ?_)))|(rcases hB with g2|⟨nx,p2,g2,hC⟩<;>first|(refine bU [0] hY rfl rfl (cz ht s hs (by((try simp only[aa]at*);omega)) g2) (bK ?_))|(have b2:=bH g2;refine aW [0] hY rfl rfl (bI ht s hs (by((try simp only[aa]at*);omega)) g2) (aH ?_)))|(rcases hE with g5|⟨c,p5,g5,g9,hF⟩<;>first|(refine bU [0] hY rfl rfl (cz ht s hs (by((try simp only[aa]at*);omega)) g5) (bK ?_))|(have b5:=bH g5;refine aW [0] hY rfl rfl (bI ht s hs (by((try simp only[aa]at*);omega)) g5) (aH ?_))))
 .cbv;(exact oy [true,true,true,true,true,true,true] rfl rfl rfl rfl)
 cbv;(first|(rcases hA with g1|⟨rd,p1,g1,hB⟩<;>first|(refine bU [0] hY rfl rfl (cz ht s hs (by((try simp only[aa]at*);omega)) g1) (bK ?_))|(have b1:=bH g1;refine aW [0] hY rfl rfl (bI ht s hs (by((try simp only[aa]at*);omega)) g1) (aH ?_)))|(rcases hB with g2|⟨nx,p2,g2,hC⟩<;>first|(refine bU [0] hY rfl rfl (cz ht s hs (by((try simp only[aa]at*);omega)) g2) (bK ?_))|(have b2:=bH g2;refine aW [0] hY rfl rfl (bI ht s hs (by((try simp only[aa]at*);omega)) g2) (aH ?_)))|(rcases hE with g5|⟨c,p5,g5,g9,hF⟩<;>first|(refine bU [0] hY rfl rfl (cz ht s hs (by((try simp only[aa]at*);omega)) g5) (bK ?_))|(have b5:=bH g5;refine aW [0] hY rfl rfl (bI ht s hs (by((try simp only[aa]at*);omega)) g5) (aH ?_))))
 .cbv;(exact oy [true,true,true,true,true,true,true] rfl rfl rfl rfl)
 cbv;refine mV [0,4] [0,4,9,10,11,12] [false,false,false,false,false,false,false,false,false,false,false,false,false,false,true,true,true] ?_;cbv;iterate 8 refine gI (by simp[ht,ah]) ?_
 refine .inl ?_;refine iJ (λg0=>⟨hY,hY,G0 ht _ _ ‹_› (by((try simp only[aa]at*);omega))⟩) rfl rfl rfl (λr1 ej=>?_);simp only[ht]at ej;(rcases hC with g3|⟨nl,pl,p3,g3,l3,hD⟩<;>first|(rw[g3]at ej;subst ej)|(rw[<-ej]at g3;obtain⟨⟨x9,y9⟩,n9,k9⟩:=r1;simp only at g3;subst g3))
 .cbv;iterate 4 refine gI (by simp[ht,ah]) ?_
  (first|(refine bU [0] hY rfl rfl (lX ht s _ _) (bK ?_))|(refine aW [0] hY rfl rfl (gC ht s _ _) (aH ?_)));cbv;(exact oy [true,true,true,true,true,true,true] rfl rfl rfl rfl)
 cbv;iterate 4 refine gI (by simp[ht,ah]) ?_
 (first|(refine bU [0] hY rfl rfl (lX ht s _ _) (bK ?_))|(refine aW [0] hY rfl rfl (gC ht s _ _) (aH ?_)));cbv;refine bE [false,false,false,false,false,false,false,false,true,true,false,false,false,false,false,true] ?_;cbv;iterate 8 refine gI (by simp[ht,ah]) ?_
 refine aM (Hp ht _ _ ‹_› (by((try simp only[aa]at*);omega))) hY (λr2 dj=>?_);simp only[ht]at dj;(rcases hD with g4|⟨tl,p4,g4,l4,hE⟩<;>first|(rw[g4]at dj;subst dj)|(rw[<-dj]at g4;obtain⟨x9,n9,k9⟩:=r2;simp only at g4;subst g4))
 .cbv;iterate 5 refine gI (by simp[ht,ah]) ?_
  (first|(refine bU [0] hY rfl rfl (lX ht s _ _) (bK ?_))|(refine aW [0] hY rfl rfl (gC ht s _ _) (aH ?_)));cbv;(exact oy [true,true,true,true,true,true,true] rfl rfl rfl rfl)
 cbv;iterate 5 refine gI (by simp[ht,ah]) ?_
 (first|(refine bU [0] hY rfl rfl (lX ht s _ _) (bK ?_))|(refine aW [0] hY rfl rfl (gC ht s _ _) (aH ?_)));cbv;(first|(rcases hA with g1|⟨rd,p1,g1,hB⟩<;>first|(refine bU [0] hY rfl rfl (cz ht s hs (by((try simp only[aa]at*);omega)) g1) (bK ?_))|(have b1:=bH g1;refine aW [0] hY rfl rfl (bI ht s hs (by((try simp only[aa]at*);omega)) g1) (aH ?_)))|(rcases hB with g2|⟨nx,p2,g2,hC⟩<;>first|(refine bU [0] hY rfl rfl (cz ht s hs (by((try simp only[aa]at*);omega)) g2) (bK ?_))|(have b2:=bH g2;refine aW [0] hY rfl rfl (bI ht s hs (by((try simp only[aa]at*);omega)) g2) (aH ?_)))|(rcases hE with g5|⟨c,p5,g5,g9,hF⟩<;>first|(refine bU [0] hY rfl rfl (cz ht s hs (by((try simp only[aa]at*);omega)) g5) (bK ?_))|(have b5:=bH g5;refine aW [0] hY rfl rfl (bI ht s hs (by((try simp only[aa]at*);omega)) g5) (aH ?_))))
 .cbv;(exact oy [true,true,true,true,true,true,true] rfl rfl rfl rfl)
 cbv;obtain⟨J3,yP⟩:∃J3:Nat->Int×List (List D)×List (List D)×Int->Prop,∀n i o u a,J3 n (i,o,u,a)↔(∃(k:Nat) (l:List Jb) (qq:List bR),i=k/\k+n=c.toNat/\o=l.map Jb.cells/\l.length=k/\u=qq.map bR.cells/\qq.length<=32/\0<=a/\a<=s.length/\JM s n l qq a):=⟨λn v=>match v with|(i,o,u,a)=>(∃(k:Nat) (l:List Jb) (qq:List bR),i=k/\k+n=c.toNat/\o=l.map Jb.cells/\l.length=k/\u=qq.map bR.cells/\qq.length<=32/\0<=a/\a<=s.length/\JM s n l qq a),λ_ _ _ _ _=>Iff.rfl⟩;refine bw ⟨[0,2,3,54,55],[],[(2,5,12),(2,6,0)]⟩ (σ:=Int×List (List D)×List (List D)×Int) (λv=>[(55,.d (.int .u64 (t _ λ_=>v.1)))]) (λv=>[(3,.row 12 (t _ λ_=>v.2.1)),(2,.var [AV.d (D.int IntKind.u64 rd),AV.d (D.int IntKind.u64 nx),AV.d (D.sl (t (List (List D)) λx=>List.map (λx=>[D.str (Node.name x),D.int IntKind.u64 (bz.a (Node.cap x)),D.int IntKind.u64 (bz.b (Node.cap x)),D.int IntKind.u64 (bz.c (Node.cap x)),D.int IntKind.u64 (bz.d (Node.cap x)),D.sl (List.map (λp=>[D.str (bT.key p),D.str (bT.value p)]) (Node.labels x)),D.bool (Node.up x)]) (cR.nodes {nodes:=nl,places:=pl}))),AV.d (D.sl (t (List (List D)) λx=>List.map (λx=>[D.int IntKind.u64 (Place.bL x),D.str (Place.node x),D.int IntKind.u64 (bz.a (Place.v x)),D.int IntKind.u64 (bz.b (Place.v x)),D.int IntKind.u64 (bz.c (Place.v x)),D.int IntKind.u64 (bz.d (Place.v x))]) (cR.places {nodes:=nl,places:=pl}))),AV.d (D.sl (t (List (List D)) λx=>List.map (λe=>[D.str (aR.path e),D.int IntKind.u64 (bz.a (aR.cU e)),D.int IntKind.u64 (bz.b (aR.cU e)),D.int IntKind.u64 (bz.c (aR.cU e)),D.int IntKind.u64 (bz.d (aR.cU e)),D.int IntKind.u64 (bz.a (aR.used e)),D.int IntKind.u64 (bz.b (aR.used e)),D.int IntKind.u64 (bz.c (aR.used e)),D.int IntKind.u64 (bz.d (aR.used e))]) tl)),.ow 3 12 (t _ λ_=>(v.2.1).length),.d (.sl (t _ λ_=>v.2.2.1)),AV.d (D.int IntKind.u64 0),AV.cl [],AV.d (D.int IntKind.u64 0),AV.cl []]),(0,.var [AV.d (D.str s),.d (.int .i64 (t _ λ_=>v.2.2.2))])]) J3 ?_;cbv;refine aC ⟨c.toNat,(_,[],_,_),(yP _ _ _ _ _).2 ?_,by simp only[ht];rfl,?_⟩
 .exact⟨0,[],[],rfl,by((try simp only[aa]at*);omega),rfl,rfl,rfl,by decide,b5.2.2.1,b5.2.2.2,hF⟩
 rintro n ⟨i,o,u,a⟩ hj;replace hj:=(yP _ _ _ _ _).1 hj;obtain⟨k,l,qq,rfl,j1,rfl,j3,rfl,j2,j4,j5,j6⟩:=hj;cbv;apply aj<;>intro h4
 .simp[ht,aa]at h4;cbv;(rcases WV j6 (by((try simp only[aa]at*);omega)) j4 j5 with gx|⟨m,⟨ji,⟨jq,⟨ja,jb,jc,jd⟩,jn,jp,jt,iv⟩,jr,jf⟩,q,rfl,gx,bs,gy⟩<;>first|(refine bU [0] hY rfl rfl (TV ht s hs (by simp only[ht];((try simp only[aa]at*);omega)) (by simp only[ht];exact gx)) (bK ?_))|(have bx:=yV gx;obtain⟨oE,gS⟩:∃oE,oE=iv.map Term.cells:=⟨_,rfl⟩;refine aW [0] hY rfl rfl (KL ht s ji ja jb jc jd jn jp jt jf jq jr gS hs (by simp only[ht];((try simp only[aa]at*);omega)) bs (by simp only[ht];exact gx)) (aH ?_)))
  .cbv;(exact oy [true,true,true,true,true,true,true] rfl rfl rfl rfl)
  cbv;refine⟨?_,?_⟩
  ·(simp only[ht,true_and];exact DH (l:=l) (by((try simp only[aa]at*);omega)))
  cbv;apply aj<;>intro h5
  .simp[ht,aa]at h5;cbv;(refine aM (ue ht ji jp (l:=qq) (by simp only[ht]) (by((try simp only[aa]at*);omega))) (by simp[ht]) (λr9 dR=>?_);simp only[ht]at dR);cbv;refine bA (_,_,_,_) (by simp only[ht,<-vaa];rfl) m ?_ ((yP _ _ _ _ _).2 ?_)
   .omega
   simp only[ht,aa];first|exact⟨k+1,l++[⟨ji,⟨jq,⟨ja,jb,jc,jd⟩,jn,jp,jt,iv⟩,jr,jf⟩],qq,kT (by((try simp only[aa]at*);omega)),by((try simp only[aa]at*);omega),by simp[Jb.cells,gS],by simp;((try simp only[aa]at*);omega),rfl,j2,bx.1,bx.2,by simpa[*]using gy⟩|exact⟨k+1,l++[⟨ji,⟨jq,⟨ja,jb,jc,jd⟩,jn,jp,jt,iv⟩,jr,jf⟩],r9.1,kT (by((try simp only[aa]at*);omega)),by((try simp only[aa]at*);omega),by simp[Jb.cells,gS],by simp;((try simp only[aa]at*);omega),rfl,by rw[dR];exact ve j2,bx.1,bx.2,by simpa[*]using gy⟩
  simp[ht,aa]at h5;cbv;refine bA (_,_,_,_) (by simp only[ht,<-vaa];rfl) m ?_ ((yP _ _ _ _ _).2 ?_)
  .omega
  simp only[ht,aa];first|exact⟨k+1,l++[⟨ji,⟨jq,⟨ja,jb,jc,jd⟩,jn,jp,jt,iv⟩,jr,jf⟩],qq,kT (by((try simp only[aa]at*);omega)),by((try simp only[aa]at*);omega),by simp[Jb.cells,gS],by simp;((try simp only[aa]at*);omega),rfl,j2,bx.1,bx.2,by simpa[*]using gy⟩|exact⟨k+1,l++[⟨ji,⟨jq,⟨ja,jb,jc,jd⟩,jn,jp,jt,iv⟩,jr,jf⟩],r9.1,kT (by((try simp only[aa]at*);omega)),by((try simp only[aa]at*);omega),by simp[Jb.cells,gS],by simp;((try simp only[aa]at*);omega),rfl,by rw[dR];exact ve j2,bx.1,bx.2,by simpa[*]using gy⟩
 simp[ht,aa]at h4;cbv;(first|(rcases hG with g7|⟨⟨f7,l7⟩,p7,g7,l8,hH⟩<;>first|(refine bU [0] hY rfl rfl (nK ht s hs (by simp only[ht];((try simp only[aa]at*);omega)) (by simp only[ht];exact g7)) (bK ?_))|(have b7:=mL g7;simp only at l8;obtain⟨r7,ZJ⟩:∃r,r=l7.map cw.cells:=⟨_,rfl⟩;refine aW [0] hY rfl rfl (jg ht s hs (by simp only[ht];((try simp only[aa]at*);omega)) (by((try simp only[aa]at*);omega)) ZJ (by simp only[ht];exact g7)) (aH ?_)))|(refine bU [0] hY rfl rfl (nK ht s hs (by((try simp only[aa]at*);omega)) hH) (bK ?_))|(have hn:n=0:=(by((try simp only[aa]at*);omega));subst hn;have hG:=TY j6;rcases hG with g7|⟨⟨f7,l7⟩,p7,g7,l8,hH⟩<;>first|(refine bU [0] hY rfl rfl (nK ht s hs (by simp only[ht];((try simp only[aa]at*);omega)) (by simp only[ht];exact g7)) (bK ?_))|(have b7:=mL g7;simp only at l8;obtain⟨r7,ZJ⟩:∃r,r=l7.map cw.cells:=⟨_,rfl⟩;refine aW [0] hY rfl rfl (jg ht s hs (by simp only[ht];((try simp only[aa]at*);omega)) (by((try simp only[aa]at*);omega)) ZJ (by simp only[ht];exact g7)) (aH ?_))))
 .cbv;(exact oy [true,true,true,true,true,true,true] rfl rfl rfl rfl)
 cbv;(first|(rcases hG with g7|⟨⟨f7,l7⟩,p7,g7,l8,hH⟩<;>first|(refine bU [0] hY rfl rfl (nK ht s hs (by simp only[ht];((try simp only[aa]at*);omega)) (by simp only[ht];exact g7)) (bK ?_))|(have b7:=mL g7;simp only at l8;obtain⟨r7,ZJ⟩:∃r,r=l7.map cw.cells:=⟨_,rfl⟩;refine aW [0] hY rfl rfl (jg ht s hs (by simp only[ht];((try simp only[aa]at*);omega)) (by((try simp only[aa]at*);omega)) ZJ (by simp only[ht];exact g7)) (aH ?_)))|(refine bU [0] hY rfl rfl (nK ht s hs (by((try simp only[aa]at*);omega)) hH) (bK ?_))|(have hn:n=0:=(by((try simp only[aa]at*);omega));subst hn;have hG:=TY j6;rcases hG with g7|⟨⟨f7,l7⟩,p7,g7,l8,hH⟩<;>first|(refine bU [0] hY rfl rfl (nK ht s hs (by simp only[ht];((try simp only[aa]at*);omega)) (by simp only[ht];exact g7)) (bK ?_))|(have b7:=mL g7;simp only at l8;obtain⟨r7,ZJ⟩:∃r,r=l7.map cw.cells:=⟨_,rfl⟩;refine aW [0] hY rfl rfl (jg ht s hs (by simp only[ht];((try simp only[aa]at*);omega)) (by((try simp only[aa]at*);omega)) ZJ (by simp only[ht];exact g7)) (aH ?_))));cbv;(exact oy [true,true,true,true,true,true,true] rfl rfl rfl rfl)
def cw.aS (_:Th) (n:cw):List D:=[.int .u64 n.round,.int .u64 n.id,.int .i64 n.kind]
theorem ZK{x y:cw}:x=y↔x.round=y.round/\x.id=y.id/\x.kind=y.kind:=by cases x;cases y;simp
def TZ(t:Th)(x:oq):AV:=.agg [aA x.first,SL (t _ λ_=>x.l.map cw.cells)]
def ab0(t:Th)(r:List cw×Int):AV:=.c5 [SL (t _ λ_=>r.1.map cw.cells),aA r.2]
theorem DM(ht:TT t){es:List (List D)}(hr:∀r∈es,r.length=3):FC 156 [SL es] [] (.ret (.cl es)) []:=by
 refine cC ht Tryz.func156 (N:=9) ?_;cbv;refine⟨?_,SC hY rfl ?_⟩
 .simp only[ht,aa,b9];exact⟨⟨⟨by omega,Int.le_refl _⟩,hY⟩,hr⟩
 simp[ht,aa,gZ]
theorem WW(ht:TT t)(first f:Int){l:List cw}{es:List (List D)}(aD:es=l.map cw.cells)(hl:l.length<1000000000):
 FC 17 [.agg [aA first,SL es],aA f] [] (.ret (ab0 t (t _ λ_=>JL ⟨first,l⟩ f))) []:=by
 refine cC ht Tryz.func17 (N:=43) ?_;cbv;have ay:es.length=l.length:=by rw[aD,lgM]
 obtain⟨J0,dZ⟩:∃J0:Nat->List (List D)×Int×Int->Prop,∀n o nx i,J0 n (o,nx,i)↔(∃(k:Nat) (rs:List cw),i=k/\k+n=l.length/\o=rs.map cw.cells/\rs.length<=k/\JL ⟨first,l⟩ f=Fj first f (l.drop k) k (rs,nx)):=⟨λn v=>match v with|(o,nx,i)=>(∃(k:Nat) (rs:List cw),i=k/\k+n=l.length/\o=rs.map cw.cells/\rs.length<=k/\JL ⟨first,l⟩ f=Fj first f (l.drop k) k (rs,nx)),λ_ _ _ _=>Iff.rfl⟩;refine bw ⟨[1,2,4,5,14,15,16],[(4,3)],[]⟩ (σ:=List (List D)×Int×Int) (λv=>[(4,.ow 1 3 (t _ λ_=>(v.1).length)),(5,.d (.int .u64 (t _ λ_=>v.2.1))),(16,.d (.int .i64 (t _ λ_=>v.2.2)))]) (λv=>[(1,.row 3 (t _ λ_=>v.1))]) J0 ?_;cbv;refine aC ⟨l.length,([],_,_),(dZ _ _ _ _).2 ?_,by simp only[ht];rfl,?_⟩
 .exact⟨0,[],rfl,by simp,rfl,by simp,rfl⟩
 rintro n ⟨o,nx,i⟩ hj;replace hj:=(dZ _ _ _ _).1 hj;obtain⟨k,rs,rfl,j1,j2,j3,j4⟩:=hj;have vM:o.length=rs.length:=by rw[j2,lgM]
 have hkw:IntKind.u64.wrap (k:Int)=(k:Int):=by rw[bW];omega
 cbv;apply aj<;>intro h1
 .simp[ht,aa,ay]at h1;cbv;refine eT ht aD (cT:=cw.aS t) (by(simp only[ht,aa];omega)) (by(simp only[ht,aa];omega)) (λ_=>rfl) (λ_=>rfl) (λx2 jX=>?_);simp[ht,aa]at jX;rw[cu jX,Fj]at j4;simp only[u64,<-bW]at j4;cbv;iterate 3 refine gI (by simp[ht]) ?_
  refine pI (by simp[ht]) ?_;apply aj<;>intro h3
  .simp[ht,aa,vM]at h3;cbv;refine⟨?_,?_⟩
   ·(simp only[ht,true_and];exact C6 j2 (λ_=>rfl) rfl (by omega) (by decide))
   cbv;refine bA (_,_,_) (by simp only[ht,<-vaa];rfl) (n-1) ?_ ((dZ _ _ _ _).2 ?_)
   .omega
   simp only[aa];(simp only[aa]at h3 hkw j4 ⊢;rw[hkw]at h3 ⊢;rw[if_pos (by simp;omega)]at j4;exact⟨k+1,rs++[x2],aG (by omega),by omega,by rw[j2];simp[cw.cells],by simp;omega,j4⟩)
  simp[ht,aa,vM]at h3;cbv;refine bA (_,_,_) (by simp only[ht];rfl) (n-1) ?_ ((dZ _ _ _ _).2 ?_)
  .omega
  simp only[aa];(simp only[aa]at h3 hkw j4 ⊢;rw[hkw]at h3;rw[if_neg (by simp;omega)]at j4;exact⟨k+1,rs,aG (by omega),by omega,j2,by omega,j4⟩)
 simp[ht,aa,ay]at h1;cbv;refine ia hY (by simp[ht]) rfl rfl rfl ?_;(rw[vah (by omega),Fj]at j4;simp only[ht,j4,j2];done)
theorem WX(ht:TT t)(first rd id kd:Int):
 FC 104 [.agg [aA first,SL []],.agg [aA rd,aA id,bf kd]] [] (.ret (TZ t (t _ λ_=>tell ⟨first,[]⟩ ⟨rd,id,kd⟩))) []:=by
 refine cC ht Tryz.func104 (N:=25) ?_;cbv;refine bE [false,false,false,false,false,true,true,true] ?_;cbv;iterate 2 refine gI (by simp) ?_
 refine .inl ?_;(refine og (λg=>⟨hY,hY,DM ht (by simp)⟩) rfl rfl rfl ?_);cbv;iterate 2 refine gI (by simp) ?_
 refine⟨?_,?_⟩
 ·(simp[ht];done)
 refine⟨?_,?_⟩
 ·(simp[ht];done)
 cbv;apply aj<;>intro h0
 .simp[ht]at h0
 simp[ht]at h0;cbv;refine ia hY (by simp[ht]) rfl rfl rfl ?_;(simp[ht,tell,cw.cells];done)
theorem WY(ht:TT t)(first rd id kd:Int)(e0:List D)(er:List (List D)){l:List cw}(aD:e0::er=l.map cw.cells)(hl:l.length<1000000):
 FC 104 [.agg [aA first,SL (e0::er)],.agg [aA rd,aA id,bf kd]] [] (.ret (TZ t (t _ λ_=>tell ⟨first,l⟩ ⟨rd,id,kd⟩))) []:=by
 have hr:∀r∈e0::er,r.length=3:=by rw[aD];intro r hr;obtain⟨y,_,rfl⟩:=List.mem_map.1 hr;rfl
 have hle:(e0::er).length=l.length:=by rw[aD,lgM]
 refine cC ht Tryz.func104 (N:=25) ?_;cbv;refine bE [false,false,false,false,false,true,true,true] ?_;cbv;iterate 2 refine gI (by simp) ?_
 refine .inl ?_;(refine og (λg=>⟨hY,hY,DM ht hr⟩) rfl rfl rfl ?_);cbv;iterate 2 refine gI (by simp) ?_
 refine⟨?_,?_⟩
 ·(simp only[ht];grind)
 refine⟨?_,?_⟩
 ·(simp[ht];done)
 cbv;apply aj<;>intro h0
 .simp[ht,aa]at h0;cbv;refine⟨?_,?_⟩
  ·(simp only[ht,b9];refine⟨by simp,⟨by omega,by simp;omega⟩,?_⟩;intro r h;rcases List.mem_append.1 h with h|h;exact hr r h;simp at h;subst h;rfl)
  cbv;refine ak ?_;(simp only[aa]at h0;simp only[List.length_cons]at hle;have tl:tell ⟨first,l⟩ ⟨rd,id,kd⟩=⟨u64 (first+1),(l++[(⟨rd,id,kd⟩:cw)]).drop 1⟩:=(by unfold tell;rw[if_pos (by simp only[vaa,List.length_cons,List.length_nil];omega)]);simp only[ht,tl,aD,gZ,u64,bW];rw[List.map_drop,List.map_append];rfl)
 simp[ht,aa]at h0;cbv;refine ia hY (by simp[ht]) rfl rfl rfl ?_;(simp only[aa]at h0;simp only[List.length_cons]at hle;have tl:tell ⟨first,l⟩ ⟨rd,id,kd⟩=⟨first,l++[(⟨rd,id,kd⟩:cw)]⟩:=(by unfold tell;rw[if_neg (by simp only[vaa,List.length_cons,List.length_nil];omega)]);simp only[ht,tl,aD];rw[List.map_append];rfl)
theorem WZ(ht:TT t)(first rd id kd:Int){l:List cw}{es:List (List D)}(aD:es=l.map cw.cells)(hl:l.length<1000000):
 FC 104 [.agg [aA first,SL es],.agg [aA rd,aA id,bf kd]] [] (.ret (TZ t (t _ λ_=>tell ⟨first,l⟩ ⟨rd,id,kd⟩))) []:=by
 cases l with
 |nil=>subst aD;exact WX ht first rd id kd
 |cons x l=>subst aD;exact WY ht first rd id kd _ _ rfl hl
def Jb.aS (t:Th) (j:Jb):List D:=[.int .u64 j.id,.str j.x.path,.int .u64 j.x.iI.a,.int .u64 j.x.iI.b,.int .u64 j.x.iI.c,.int .u64 j.x.iI.d,.int .i64 j.x.count,.int .i64 j.x.prio,.int .i64 j.x.dX,.sl (t _ λ_=>j.x.cj.map Term.cells),.bool j.runs,.int .i64 j.left]
def EJb(t:Th)(j:Jb):AV:=.agg [aA j.id,ST j.x.path,aA j.x.iI.a,aA j.x.iI.b,aA j.x.iI.c,aA j.x.iI.d,bf j.x.count,bf j.x.prio,bf j.x.dX,SL (t _ λ_=>j.x.cj.map Term.cells),BL j.runs,bf j.left]
def aem(t:Th)(r:Jb×Bool):AV:=.c5 [EJb t r.1,BL r.2]
theorem T0(ht:TT t)(id:Int){l:List (Jb)}{es:List (List D)}(aD:es=l.map Jb.cells)(f:Nat)(p:Jb->Bool)(hl:l.length<9223372036854775807)
 (hf:∀x∈l,FC f [.agg [aA x.id,ST x.x.path,aA x.x.iI.a,aA x.x.iI.b,aA x.x.iI.c,aA x.x.iI.d,bf x.x.count,bf x.x.prio,bf x.x.dX,SL (x.x.cj.map Term.cells),BL x.runs,bf x.left],.ptr 0 0] [.var [aA id]] (.ret (BL (p x))) [.var [aA id]]) {r:Int} (hr:r=idxOf p l):FC 105 [SL es,.fn f [.ptr 0 0]] [.var [aA id]] (.ret (bf r)) [.var [aA id]]:=by
 have hel:es.length=l.length:=by rw[aD,lgM]
 refine kJ ht (aK:=[.var [aA id]]) Tryz.func105 rfl rfl (N:=19) rfl rfl (n:=1) rfl rfl ?_;cbv;refine bw ⟨[0,1,7,8],[],[]⟩ (σ:=Nat) (λk=>[(8,bf (t _ λ_=>(k:Int)))]) (λ_=>[]) (wL p l) ?_;cbv;refine aC ⟨l.length,0,.nil,by simp only[ht];rfl,λn k hj=>?_⟩;cbv;apply aj<;>intro h
 .simp only[ht,aa,vai]at h;have hk:k<es.length:=by omega
  obtain⟨x,hx,pM,px,hpx⟩:=hj.get (by omega);have iS:=hf x pM
  rw[<-hpx]at iS;obtain⟨id',⟨p',⟨a',b',c',d'⟩,n',pr',Rl,sZ⟩,rn',lf'⟩:=x;obtain⟨Lr,rN⟩:∃lr:List (List D),lr=sZ.map Term.cells:=⟨_,rfl⟩;simp only[<-rN]at iS;cbv;refine jG [.int .u64 id',.str p',.int .u64 a',.int .u64 b',.int .u64 c',.int .u64 d',.int .i64 n',.int .i64 pr',.int .i64 Rl,.sl Lr,.bool rn',.int .i64 lf'] ?_ ?_ ?_
  .simp only[ht,aa];exact sE aD hk λ_=>rfl
  .simp[ht,aa,aD,hx,rN,Jb.cells]
  cbv;refine dO hY iS ?_;cbv;apply aj<;>intro hb
  .cbv;refine ak ?_;simp only[ht,aa,hr,hj.hit hx (hpx▸hb)]
  cbv;refine aC ⟨n-1,k+1,⟨hj.lt hx,hj.next hx (hpx▸hb)⟩,?_⟩;simp only[ht,aa,aG (show k<9223372036854775807 by omega)];rfl
 simp only[ht,aa,vap]at h;have hk:l.length<=k:=by omega
 clear h;cbv;refine ak ?_;rw[hr,hj.none hk]
theorem QD(ht:TT t)(id i n k l a b c d:Int)(p:az)(sr:List (List D))(rn:Bool)(lf:Int):FC 106 [.agg [aA i,ST p,aA a,aA b,aA c,aA d,bf n,bf k,bf l,SL sr,BL rn,bf lf],.ptr 0 0] [.var [aA id]] (.ret (BL (decide (i=id)))) [.var [aA id]]:=by refine kJ ht (aK:=[.var [aA id]]) Tryz.func106 rfl rfl (N:=8) rfl rfl (n:=1) rfl rfl ?_;cbv;refine ak ?_;simp[ht]
theorem vf(ht:TT t)(id rd nx ef af:Int)(ns ps ts qs el al:List (List D)){l:List Jb}{es:List (List D)}(aD:es=l.map Jb.cells)(hl:l.length<1000000000):
 FC 41 [.agg [aA rd,aA nx,SL ns,SL ps,SL ts,SL es,SL qs,aA ef,SL el,aA af,SL al],aA id] [] (.ret (ol (t _ λ_=>Mv l id))) []:=by
 obtain⟨r,hr⟩:∃r,r=Mv l id:=⟨_,rfl⟩;refine cC ht Tryz.func41 (N:=9) ?_;cbv;refine aW [1] hY rfl rfl (T0 ht id aD 106 (λx=>decide (x.id=id)) (by omega) (λx _=>QD ht id _ _ _ _ _ _ _ _ _ _ _ _) (r:=r) hr) (aH ?_);cbv;exact ak (by simp[ht,hr])
theorem yX(ht:TT t)(id rd nx ef af:Int)(ns ps ts qs el al:List (List D)){l:List Jb}{es:List (List D)}(aD:es=l.map Jb.cells)(hl:l.length<1000000000):
 FC 16 [.agg [aA rd,aA nx,SL ns,SL ps,SL ts,SL es,SL qs,aA ef,SL el,aA af,SL al],aA id] [] (.ret (aem t (t _ λ_=>fy l id))) []:=by
 refine cC ht Tryz.func16 (N:=18) ?_;cbv;have ay:es.length=l.length:=by rw[aD,lgM]
 refine ar (vf ht _ _ _ _ _ _ _ _ _ _ _ ‹_› ‹_›) hY (λr0 bM=>?_);simp only[ht]at bM;have ec:=dw bM
 clear bM;rcases ec with⟨e1,e2,e3⟩|⟨i,x,hi,hil,e1,e2,e3,e4⟩
 .cbv;apply aj<;>intro h1
  .simp[ht]at h1;cbv;refine ak ?_;(simp[ht,fy,e3,Jb.zero,Ask.zero,bz.zero];done)
  simp[ht]at h1;omega
 cbv;apply aj<;>intro h2
 .simp[ht]at h2;(simp only[aa]at*;omega)
 simp[ht]at h2;cbv;refine El ht aD (cT:=Jb.aS t) e1 ‹_› (λ_=>rfl) (λ_=>(by(simp only[ht,Jb.aS];rfl))) ?_;cbv;refine ak ?_;(simp[ht,fy,e4];done)
theorem QE(ht:TT t)(ts:List (List D)){l:List (az)}{es:List (List D)}(aD:es=l.map bp)(f:Nat)(p:az->Bool)(hl:l.length<9223372036854775807)
 (hf:∀x∈l,FC f [.d (.str x),.ptr 0 0] [.var [SL ts]] (.ret (BL (p x))) [.var [SL ts]]) {r:Int} (hr:r=idxOf p l):FC 149 [SL es,.fn f [.ptr 0 0]] [.var [SL ts]] (.ret (bf r)) [.var [SL ts]]:=by
 have hel:es.length=l.length:=by rw[aD,lgM]
 refine kJ ht (aK:=[.var [SL ts]]) Tryz.func149 rfl rfl (N:=19) rfl rfl (n:=1) rfl rfl ?_;cbv;refine bw ⟨[0,1,7,8],[],[]⟩ (σ:=Nat) (λk=>[(8,bf (t _ λ_=>(k:Int)))]) (λ_=>[]) (wL p l) ?_;cbv;refine aC ⟨l.length,0,.nil,by simp only[ht];rfl,λn k hj=>?_⟩;cbv;apply aj<;>intro h
 .simp only[ht,aa,vai]at h;have hk:k<es.length:=by omega
  obtain⟨x,hx,pM,px,hpx⟩:=hj.get (by omega);have iS:=hf x pM
  rw[<-hpx]at iS;skip;cbv;refine jG [.str x] ?_ ?_ ?_
  .simp only[ht,aa];exact sE aD hk λ_=>rfl
  .simp[ht,aa,aD,hx]
  cbv;refine dO hY iS ?_;cbv;apply aj<;>intro hb
  .cbv;refine ak ?_;simp only[ht,aa,hr,hj.hit hx (hpx▸hb)]
  cbv;refine aC ⟨n-1,k+1,⟨hj.lt hx,hj.next hx (hpx▸hb)⟩,?_⟩;simp only[ht,aa,aG (show k<9223372036854775807 by omega)];rfl
 simp only[ht,aa,vap]at h;have hk:l.length<=k:=by omega
 clear h;cbv;refine ak ?_;rw[hr,hj.none hk]
theorem QF(ht:TT t)(ts:List (List D)){l:List (az)}{es:List (List D)}(aD:es=l.map bp)(f:Nat)(p:az->Bool)(hl:l.length<9223372036854775807)
 (hf:∀x∈l,FC f [.d (.str x),.ptr 0 0] [.var [SL ts]] (.ret (BL (p x))) [.var [SL ts]]) {r:Bool} (hr:r=l.any p):FC 95 [SL es,.fn f [.ptr 0 0]] [.var [SL ts]] (.ret (BL r)) [.var [SL ts]]:=by
 obtain⟨k,hk⟩:∃k,k=idxOf p l:=⟨_,rfl⟩;refine kJ ht (aK:=[.var [SL ts]]) Tryz.func95 rfl rfl (N:=9) rfl rfl (n:=1) rfl rfl ?_;cbv;refine dO hY (QE ht ts aD f p hl hf hk) ?_;cbv;refine ak ?_;simp only[ht,hr,fL,hk]
theorem T1(ht:TT t)(q:az){l:List aR}{es:List (List D)}(aD:es=l.map aR.cells)(hl:l.length<1000000000){r:Bool}(hr:r=!(qi l q).2):
 FC 97 [ST q,.ptr 0 0] [.var [SL es]] (.ret (BL r)) [.var [SL es]]:=by
 refine kJ ht (aK:=[.var [SL es]]) Tryz.func97 rfl rfl (N:=14) rfl rfl (n:=1) rfl rfl ?_;cbv;have ay:es.length=l.length:=by rw[aD,lgM]
 refine ar (Ku ht _ ‹_› ‹_›) hY (λr0 bM=>?_);simp only[ht]at bM;cbv;refine ak ?_;(simp[*];done)
theorem Ae(ht:TT t)(p:az){l:List aR}{es:List (List D)}(aD:es=l.map aR.cells)(hl:l.length<1000000000)(hp:p.length<1000000000000):
 FC 36 [SL es,ST p] [] (.ret (cA (t _ λ_=>iO l p))) []:=by
 have h1:=lF p;have h2:=iX p
 obtain⟨ws,hws⟩:∃ws,ws=om p++[[]]:=⟨_,rfl⟩;obtain⟨r9,dR⟩:∃r,r=ws.any (λq=>!(qi l q).2):=⟨_,rfl⟩;refine cC ht Tryz.func36 (N:=12) ?_;cbv;have ay:es.length=l.length:=by rw[aD,lgM]
 refine sj hY (OS ht p ‹_›) hY rfl (.inr rfl) ?_;cbv;refine⟨?_,?_⟩
 ·(simp only[ht];grind)
 cbv;(refine aaY (v:=BL r9) hY rfl (by simp[ht]) (by exact fR [0] rfl rfl rfl rfl (QF ht es (l:=ws) (by simp only[ht,hws];simp) 97 (λq=>!(qi l q).2) (by rw[hws];simp;omega) (λx _=>T1 ht x aD hl rfl) dR)) ?_);cbv;refine ak ?_;(simp only[ht,iO,<-hws,<-dR];done)
def rS(t:Th)(s:cI):AV:=.agg [aA s.round,aA s.next,SL (t _ λ_=>s.bt.nodes.map Node.cells),SL (t _ λ_=>s.bt.places.map Place.cells),SL (t _ λ_=>s.tree.map aR.cells),SL (t _ λ_=>s.aJ.map Jb.cells),SL (t _ λ_=>s.queue.map bR.cells),aA s.ev.first,SL (t _ λ_=>s.ev.l.map cw.cells),aA s.au.first,SL (t _ λ_=>s.au.l.map cw.cells)]
def T2(t:Th)(r:cI×Int):AV:=.c5 [rS t r.1,bf r.2]
def T3(t:Th)(r:cI×Int×Int):AV:=.c5 [rS t r.1,aA r.2.1,bf r.2.2]
theorem qD(ht:TT t)(rd nx ef af id kd:Int){nl:List Node}{pl:List Place}{tl:List aR}{jl:List Jb}{ql:List bR}{el al:List cw}{ns ps ts js qs es eO:List (List D)}
 (ij:ns=nl.map Node.cells) (hps:ps=pl.map Place.cells) (hts:ts=tl.map aR.cells) (gD:js=jl.map Jb.cells) (fX:qs=ql.map bR.cells) (aD:es=el.map cw.cells) (has:eO=al.map cw.cells) (hel:el.length<1000000):
 FC 39 [.agg [aA rd,aA nx,SL ns,SL ps,SL ts,SL js,SL qs,aA ef,SL es,aA af,SL eO],aA id,bf kd] [] (.ret (rS t (t _ λ_=>lI ⟨rd,nx,⟨nl,pl⟩,tl,jl,ql,⟨ef,el⟩,⟨af,al⟩⟩ id kd))) []:=by
 obtain⟨⟨f9,l9⟩,h9⟩:∃r,r=tell ⟨ef,el⟩ ⟨rd,id,kd⟩:=⟨_,rfl⟩;refine cC ht Tryz.func39 (N:=17) ?_;cbv;obtain⟨dc,dm,dG,cF,cM,ay,cG⟩:=je ij hps hts gD fX aD has;refine aM (WZ ht _ _ _ _ ‹_› ‹_›) hY (λr0 bM=>?_);simp only[ht]at bM;rw[<-h9]at bM;subst r0;cbv;refine ak ?_;(simp only[ht,lI];grind)
theorem O1(ht:TT t):FC 11 [] [] (.ret (rS t (t _ λ_=>V2))) []:=by refine cC ht Tryz.func11 (N:=4) ?_;cbv;refine aM (WK ht _ _ _ _) hY (λr0 bM=>?_);simp only[ht]at bM;cbv;refine ak ?_;(simp[V2,cI.zero,bz.zero, *];done)
theorem Nl(ht:TT t){es:List (List D)}(aD:∀r∈es,r.length=12)(hs:es.length*120<=140737488355328){m:Nat}(hm:m=es.length):
 FC 49 [SL es] [] (.ret (.ow 0 12 m)) [.row 12 es]:=by
 refine cC ht Tryz.func49 (N:=8) ?_;cbv;refine⟨λb hb=>?_⟩;simp only[ht]at hb;cbv;apply aj<;>intro h
 .have he:=hb h;subst he;cbv;exact Mi hY rfl rfl (by rw[hm];rfl) rfl
 clear hb h;cbv;refine⟨?_,?_⟩
 .simp only[ht];simp;exact⟨hs,aD⟩
 refine GA hY rfl rfl rfl rfl ?_ ?_
 .simp only[ht];rw[hm];simp
 simp only[ht];rfl
theorem uf(ht:TT t){l:List Jb}{es:List (List D)}(aD:es=l.map Jb.cells)(hs:l.length<1000000):
 FC 49 [SL es] [] (.ret (.ow 0 12 (t _ λ_=>(l.map Jb.cells).length))) [.row 12 (t _ λ_=>l.map Jb.cells)]:=by
 simp only[ht];subst aD;refine Nl ht ?_ ?_ (by simp)
 .intro r hr;obtain⟨y,_,rfl⟩:=List.mem_map.1 hr;rfl
 simp;omega
theorem O2(ht:TT t)(bL:Int){l:List Node}{ps:List Place}{es qs:List (List D)}(aD:es=l.map Node.cells)(fX:qs=ps.map Place.cells)(hl:ps.length<1000000):
 FC 113 [.agg [SL es,SL qs],aA bL] [] (.ret (Jz t (t _ λ_=>yB ⟨l,ps⟩ bL))) []:=by
 simp only[ht,Jz,yB];rw[<-aD];exact MP ht bL fX hl rfl
theorem O3(ht:TT t)(rd nx ef af:Int){nl:List Node}{pl:List Place}{tl:List aR}{jl:List Jb}{ql:List bR}{el al:List cw}{ns ps ts js qs es eO:List (List D)}(ij:ns=nl.map Node.cells)(hps:ps=pl.map Place.cells)(hts:ts=tl.map aR.cells)(gD:js=jl.map Jb.cells)(fX:qs=ql.map bR.cells)(aD:es=el.map cw.cells)(has:eO=al.map cw.cells)(ji ja jb jc jd jn jp jt jf:Int)(jq:az)(jr:Bool){iv:List Term}{oE:List (List D)}(gS:oE=iv.map Term.cells){z:Int}{k:Nat}(hz:z=k)(hk:k<jl.length)(hjl:jl.length<1000000):
 FC 46 [.agg [aA rd,aA nx,SL ns,SL ps,SL ts,SL js,SL qs,aA ef,SL es,aA af,SL eO],bf z,.agg [aA ji,ST jq,aA ja,aA jb,aA jc,aA jd,bf jn,bf jp,bf jt,SL oE,BL jr,bf jf]] [] (.ret (rS t (t _ λ_=>Fk ⟨rd,nx,⟨nl,pl⟩,tl,jl,ql,⟨ef,el⟩,⟨af,al⟩⟩ k ⟨ji,⟨jq,⟨ja,jb,jc,jd⟩,jn,jp,jt,iv⟩,jr,jf⟩))) []:=by
 refine cC ht Tryz.func46 (N:=17) ?_;cbv;obtain⟨dc,dm,dG,cF,cM,ay,cG⟩:=je ij hps hts gD fX aD has;have rO:oE.length=iv.length:=by rw[gS,lgM]
 refine sj hY (uf ht ‹_› ‹_›) hY rfl (.inr rfl) ?_;cbv;refine⟨?_,?_⟩
 ·(simp[*];done)
 refine⟨?_,?_⟩
 ·(simp[Jb.cells, *];done)
 cbv;refine ia hY (by simp[ht]) rfl rfl rfl ?_;(simp[Fk,Jb.cells,List.map_set,bP, *];done)
theorem KP(ht:TT t)(rd nx ef af:Int){nl:List Node}{pl:List Place}{tl:List aR}{jl:List Jb}{ql:List bR}{el al:List cw}{ns ps ts js qs es eO:List (List D)}(ij:ns=nl.map Node.cells)(hps:ps=pl.map Place.cells)(hts:ts=tl.map aR.cells)(gD:js=jl.map Jb.cells)(fX:qs=ql.map bR.cells)(aD:es=el.map cw.cells)(has:eO=al.map cw.cells)(ji ja jb jc jd jn jp jt jf:Int)(jq:az)(jr:Bool){iv:List Term}{oE:List (List D)}(gS:oE=iv.map Term.cells)(hu:(⟨ja,jb,jc,jd⟩:bz).u')(hjq:jq.length<1000000000000)(htl:tl.length<100000)(oB:pl.length<1000000):
 FC 47 [.agg [aA rd,aA nx,SL ns,SL ps,SL ts,SL js,SL qs,aA ef,SL es,aA af,SL eO],.agg [aA ji,ST jq,aA ja,aA jb,aA jc,aA jd,bf jn,bf jp,bf jt,SL oE,BL jr,bf jf]] [] (.ret (rS t (t _ λ_=>oQ ⟨rd,nx,⟨nl,pl⟩,tl,jl,ql,⟨ef,el⟩,⟨af,al⟩⟩ ⟨ji,⟨jq,⟨ja,jb,jc,jd⟩,jn,jp,jt,iv⟩,jr,jf⟩))) []:=by
 obtain⟨⟨⟨v1,v2,v3,v4⟩,vk⟩,hv⟩:∃r,r=eC ⟨jq,⟨ja,jb,jc,jd⟩,jn,jp,jt,iv⟩:=⟨_,rfl⟩;obtain⟨⟨t9,e9⟩,h9⟩:∃r,r=uO tl jq ⟨v1,v2,v3,v4⟩:=⟨_,rfl⟩;have hF:oQ ⟨rd,nx,⟨nl,pl⟩,tl,jl,ql,⟨ef,el⟩,⟨af,al⟩⟩ ⟨ji,⟨jq,⟨ja,jb,jc,jd⟩,jn,jp,jt,iv⟩,jr,jf⟩=⟨rd,nx,yB ⟨nl,pl⟩ ji,(if vk then t9 else tl),jl,ql,⟨ef,el⟩,⟨af,al⟩⟩:=by simp only[oQ,<-hv,<-h9]
 rw[hF];refine cC ht Tryz.func47 (N:=32) ?_;cbv;obtain⟨dc,dm,dG,cF,cM,ay,cG⟩:=je ij hps hts gD fX aD has;have rO:oE.length=iv.length:=by rw[gS,lgM]
 (refine ar (uZ ht jq ja jb jc jd jn jp jt (sl:=iv) oE hu) hY (λr9 dR=>?_);simp only[ht]at dR;rw[<-hv]at dR;subst dR);cbv;apply aj<;>intro h0
 .cbv;refine aM (M6 ht _ _ _ _ _ ‹_› ‹_› ‹_›) hY (λr1 ej=>?_);simp only[ht]at ej;rw[<-h9]at ej;subst r1;cbv;refine aM (O2 ht _ ‹_› ‹_› ‹_›) hY (λr2 dj=>?_);simp only[ht]at dj;cbv;refine ak ?_;(subst dj;simp[*];done)
 cbv;refine aM (O2 ht _ ‹_› ‹_› ‹_›) hY (λr3 iR=>?_);simp only[ht]at iR;cbv;refine ak ?_;(simp[*];done)
theorem Hy(ht:TT t){es:List (List D)}{i m c:Nat}(hm:m=es.length)(hi:i<m)(hc:m<=c)(aD:∀r∈es,r.length=12)(hs:m<1000000){r:List (List D)}(hr:r=es.take i++es.drop (i+1)):
 FC 48 [.vw 0 12 0 m c true,bf (i:Int),bf ((i+1:Nat):Int)] [.row 12 es] (.ret (SL r)) [.dead]:=by
 obtain⟨i1,hi1⟩:∃i1,i1=i+1:=⟨_,rfl⟩;rw[<-hi1]at hr ⊢;refine kJ ht (aK:=[.row 12 es]) Tryz.func48 rfl rfl (N:=33) rfl rfl (n:=1) rfl rfl ?_;cbv;obtain⟨mi,Ee⟩:∃n,n=m-i:=⟨_,rfl⟩;obtain⟨mi1,aeo⟩:∃n,n=m-i1:=⟨_,rfl⟩;obtain⟨Bw,Tb⟩:∃n,n=c-i1:=⟨_,rfl⟩;refine cq (.vw 0 12 i 1 mi true) [.row 12 es] ?_ ?_ rfl ?_
 .simp[ht,aa,b9];omega
 .simp[ht,aa,bc,Ee,hi1]
 cbv;refine p9 (by simp[ht,hi1];omega) ?_;cbv;refine bE [false,false,false,false,false,false,true,true] ?_;cbv;refine gI (by simp) (gI (by simp) ?_);refine kI (.vw 0 12 0 i c true) (λ_=>⟨?_,?_⟩) ?_
 .simp[ht,eX,b9];omega
 .simp[ht,bc,aY]
 cbv;refine gI (by simp) (gI (by simp) ?_);refine kI (.vw 0 12 i1 mi1 Bw true) (λ_=>⟨?_,?_⟩) ?_
 .simp[ht,eX,b9];omega
 .simp[ht,bc,aY,aeo,Tb]
 cbv;obtain⟨m1,hm1⟩:∃n,n=m-1:=⟨_,rfl⟩;obtain⟨cm1,aep⟩:∃n,n=c-m1:=⟨_,rfl⟩;obtain⟨R1,ZL⟩:∃R,R=wrote es i (es.drop i1):=⟨_,rfl⟩;have tk:(es.drop i1).take mi1=es.drop i1:=vao (by rw[vaw];omega)
 have dl:(es.drop i1).length=mi1:=by rw[vaw];omega
 have KQ:R1.length=m:=by rw[ZL];simp[wrote];omega
 have aeq:R1.take m1=r:=by rw[ZL,hr];unfold wrote;rw[List.take_append_of_le_length (by simp;omega),vao (by simp;omega)]
 refine cq (.vw 0 12 0 m1 c true) [.row 12 R1,.bJ] ?_ ?_ ?_ ?_
 .simp only[ht,tk,dl,gj,Nat.zero_add];exact⟨by omega,⟨by omega,λh=>by rw[h]at hm;simp at hm;omega⟩,by omega,λr h=>aD r (List.mem_of_mem_drop h)⟩
 .simp only[ht,tk,dl];rw[show i+mi1=m1 by omega]
 .simp only[ht,tk,Nat.zero_add,ZL]
 cbv;refine cq (.vw 0 12 m1 1 cm1 true) [.row 12 R1,.bJ] ?_ ?_ rfl ?_
 .simp[ht,aa,eX,b9];omega
 .simp[ht,aa,bc,aY,aep];omega
 cbv;obtain⟨R2,ZM⟩:∃R,R=wrote R1 m1 (List.replicate 1 [D.int IntKind.u64 0,D.str [],D.int IntKind.u64 0,D.int IntKind.u64 0,D.int IntKind.u64 0,D.int IntKind.u64 0,D.int IntKind.i64 0,D.int IntKind.i64 0,D.int IntKind.i64 0,D.sl [],D.bool false,D.int IntKind.i64 0]):=⟨_,rfl⟩;have aer:R2.length=m:=by rw[ZM];simp[wrote,KQ];omega
 have aes:R2.take m1=r:=by rw[<-aeq,ZM];unfold wrote;rw[vas,List.take_append_of_le_length (by simp[KQ];omega),List.take_take,Nat.min_self]
 refine cq (.c5 []) [.row 12 R2,.bJ] ?_ rfl ?_ ?_
 .simp only[ht,gj];exact⟨by omega,λh=>by rw[h]at KQ;simp at KQ;omega⟩
 .simp only[ht,ZM]
 cbv;refine CZ [true] hY ?_ rfl rfl rfl ?_
 .simp only[ht];omega
 simp only[ht,List.drop_zero,aes]
theorem yY(ht:TT t){l:List Jb}{i:Nat}{z z1:Int}(hz:z=i)(hz1:z1=(i:Int)+1)(hi:i<l.length)(hs:l.length<1000000):
 FC 48 [.ow 0 12 (t _ λ_=>(l.map Jb.cells).length),bf z,bf z1] [.row 12 (t _ λ_=>l.map Jb.cells)] (.ret (SL (t _ λ_=>(l.eraseIdx i).map Jb.cells))) [.dead]:=by
 simp only[ht];have e1:z1=((i+1:Nat):Int):=by omega
 subst hz;rw[e1];refine gJ (λc hc hc0=>Hy ht (es:=l.map Jb.cells) (i:=i) rfl (by simpa using hi) hc ?_ (by simpa using hs) ?_)
 .intro r hr;obtain⟨y,_,rfl⟩:=List.mem_map.1 hr;rfl
 rw[List.eraseIdx_eq_take_drop_succ,List.map_append,List.map_take,List.map_drop]
theorem QG{l:List bR}{es:List (List D)}{i m:Nat}(aD:es=l.map bR.cells)(hi:i<l.length)(hm:m+1=l.length):
 wrote (wrote (List.replicate m [D.int IntKind.u64 0,D.int IntKind.i64 0]) 0 (es.take i)) i (es.drop (i+1))=(l.eraseIdx i).map bR.cells:=by
 have hl:es.length=l.length:=by rw[aD,lgM]
 simp only[wrote,List.take_zero,List.nil_append,Nat.zero_add,vav,vaw,List.drop_replicate,List.eraseIdx_eq_take_drop_succ,List.map_append,List.map_take,List.map_drop,<-aD];have d1:(List.take i es).length=i:=by rw[vav];omega
 have d2:List.drop (i+(es.length-(i+1))) (List.take i es++List.replicate (m-i) [D.int IntKind.u64 0,D.int IntKind.i64 0])=[]:=vah (by rw[vaa,d1,vaH];omega);rw[Nat.min_eq_left (by omega),List.take_append_of_le_length (by omega),List.take_take,Nat.min_self,d2,List.append_nil]
theorem KR(ht:TT t)(id:Int){l:List bR}{es:List (List D)}(aD:es=l.map bR.cells)(hl:l.length<1000000):
 FC 45 [SL es,aA id] [] (.ret (abZ t (t _ λ_=>Da l id))) []:=by
 refine fcV ht 5 7 (aK:=[]) Tryz.func45 rfl rfl (N:=32) rfl rfl (n:=0) rfl rfl ?_;cbv;have ay:es.length=l.length:=by rw[aD,lgM]
 refine ar (Ad ht _ ‹_› (by omega)) hY (λr0 bM=>?_);simp only[ht]at bM;have ec:=dw bM
 clear bM;rcases ec with⟨e1,e2,e3⟩|⟨i,x,hi,hil,e1,e2,e3,e4⟩
 .cbv;apply aj<;>intro h1
  .simp[ht]at h1;cbv;refine ak ?_;(simp[Da, *];done)
  simp[ht]at h1;omega
 obtain⟨m,hm⟩:∃m,m+1=l.length:=⟨l.length-1,by omega⟩;obtain⟨i1,hi1⟩:∃n,n=i+1:=⟨_,rfl⟩;obtain⟨mi,Ee⟩:∃n,n=m-i:=⟨_,rfl⟩;have tr:=QG aD hil hm
 rw[<-hi1]at tr;obtain⟨R1,ZL⟩:∃R,R=wrote (List.replicate m [D.int IntKind.u64 0,D.int IntKind.i64 0]) 0 (es.take i):=⟨_,rfl⟩;obtain⟨R2,ZM⟩:∃R,R=wrote R1 i (es.drop i1):=⟨_,rfl⟩;have hr:∀r∈es,r.length=2:=by rw[aD];intro r hr;obtain⟨y,_,rfl⟩:=List.mem_map.1 hr;rfl
 have hw:IntKind.i64.wrap ((es.length:Int)-1)=(m:Int):=by rw[wrap64 (by omega) (by omega)];omega
 have hw1:IntKind.i64.wrap (r0+1)=(i1:Int):=by rw[wrap64 (by omega) (by omega)];omega
 have KQ:R1.length=m:=by rw[ZL];simp[wrote];omega
 have aer:R2.length=m:=by rw[ZM];simp[wrote,KQ];omega
 rw[<-ZL,<-ZM]at tr;cbv;apply aj<;>intro h2
 .simp[ht]at h2;rw[hi]at h2;simp only[aa]at h2;exact absurd h2 (by omega)
 simp[ht]at h2;cbv;refine⟨?_,?_⟩
 .simp only[aa]at hw;simp only[ht,aa,hw];refine⟨by omega,hY,?_⟩;simp only[vak];omega
 refine⟨λc hc hc0=>?_⟩;cbv;simp only[aa]at hw hi hw1 tr;have hcm:m<=c:=by simpa only[ht,aa,hw,vak]using hc
 refine⟨?_,?_⟩
 .simp only[ht,b9];exact⟨⟨h2,by omega⟩,hr⟩
 refine cq (bf (i:Int)) [.row 2 R1] ?_ ?_ ?_ ?_
 .simp only[ht,aa,hw,hi,gZ,vak,gj,vav,vaH];refine⟨⟨by omega,λh=>?_⟩,λr h=>hr r (van (van h))⟩;have:=vac List.length h
  simp only[vaH,List.length_nil]at this;omega
 .simp only[ht,aa,hw,hi,gZ,vak,vav];rw[Nat.min_eq_left (by omega),Nat.min_eq_left (by omega)]
 .simp only[ht,aa,hw,hi,gZ,vak,vav];rw[ZL,Nat.min_eq_left (by omega),Nat.min_eq_left (by omega),List.take_take,Nat.min_self]
 cbv;refine bE [false,false,false,false,false,false,false,true] ?_;cbv;refine gI (by simp) (gI (by simp) ?_);obtain⟨ci,wM⟩:∃n,n=c-i:=⟨_,rfl⟩;refine kI (.vw 0 2 i mi ci true) (λ_=>⟨?_,?_⟩) ?_
 .simp only[ht,aa,hw,hi,eX,b9,vak];omega
 .simp only[ht,aa,hw,hi,bc,aY,vak,Option.getD_some,Nat.zero_add];rw[Ee,wM]
 cbv;refine gI (by simp) (gI (by simp) (gI (by simp) (gI (λ_=>?_) ?_)))
 .simp only[ht,aa,hw1,b9];exact⟨⟨by omega,by omega⟩,hr⟩
 refine cq (bf (mi:Int)) [.row 2 R2,.bJ] ?_ ?_ ?_ ?_
 .simp only[ht,aa,hw1,gZ,vak,gj,vaw];refine⟨⟨by omega,λh=>?_⟩,λr h=>hr r (List.mem_of_mem_drop (van h))⟩;rw[h]at KQ;simp only[List.length_nil]at KQ;omega
 .simp only[ht,aa,hw1,gZ,vak,vaw];rw[Nat.min_eq_right (by omega)]
 .simp only[ht,aa,hw1,gZ,vak,vaw];rw[ZM,vao (by rw[vaw];omega)]
 cbv;refine ia hY ?_ rfl rfl rfl ?_
 .simp only[ht,aa,hw,vak];exact⟨by omega,hY⟩
 simp only[ht,aa,hw,vak,Da,e3,List.drop_zero,tr];rw[vao (by rw[<-tr];omega)]
theorem Nn{l:List Jb}{id r:Int}(h:r=Mv l id){P:Jb->Prop}(hP:∀x∈l,P x):(r=-1/\l.findIdx? (λj=>decide (j.id=id))=none)∨
 ∃(i:Nat) (xi xa xb xc xd xn xp xt xf:Int) (xq:az) (xr:Bool) (xl:List Term),r=i/\i<l.length/\l[i]?=some ⟨xi,⟨xq,⟨xa,xb,xc,xd⟩,xn,xp,xt,xl⟩,xr,xf⟩/\l.findIdx? (λj=>decide (j.id=id))=some i/\
  l.getD i Jb.zero=⟨xi,⟨xq,⟨xa,xb,xc,xd⟩,xn,xp,xt,xl⟩,xr,xf⟩/\P ⟨xi,⟨xq,⟨xa,xb,xc,xd⟩,xn,xp,xt,xl⟩,xr,xf⟩/\xi=id:=by
 rcases dw h with⟨e1,e2,_⟩|⟨i,⟨xi,⟨xq,⟨xa,xb,xc,xd⟩,xn,xp,xt,xl⟩,xr,xf⟩,e1,e2,e3,e4,e5,_⟩
 .exact .inl ⟨e1,e2⟩
 exact .inr ⟨i,xi,xa,xb,xc,xd,xn,xp,xt,xf,xq,xr,xl,e1,e2,e3,e5,by rw[vam,e3];rfl,hP _ (vag e3),by simpa using e4⟩
theorem kS(s:cI)(j:Jb):oQ s j=⟨s.round,s.next,(oQ s j).bt,(oQ s j).tree,s.aJ,s.queue,s.ev,s.au⟩:=rfl
theorem O4(ht:TT t)(rd nx ef af:Int){nl:List Node}{pl:List Place}{tl:List aR}{jl:List Jb}{ql:List bR}{el al:List cw}{ns ps ts js qs es eO:List (List D)}(ij:ns=nl.map Node.cells)(hps:ps=pl.map Place.cells)(hts:ts=tl.map aR.cells)(gD:js=jl.map Jb.cells)(fX:qs=ql.map bR.cells)(aD:es=el.map cw.cells)(has:eO=al.map cw.cells)(id kd:Int)(iC:∀x∈jl,x.x.iI.u'/\x.x.path.length<1000000000000)(htl:tl.length<100000)(hjl:jl.length<1000000)(oB:pl.length<1000000)(X6:ql.length<1000000)(hel:el.length<1000000):
 FC 13 [.agg [aA rd,aA nx,SL ns,SL ps,SL ts,SL js,SL qs,aA ef,SL es,aA af,SL eO],aA id,bf kd] [] (.ret (T2 t (t _ λ_=>m6 ⟨rd,nx,⟨nl,pl⟩,tl,jl,ql,⟨ef,el⟩,⟨af,al⟩⟩ id kd))) []:=by
 refine cC ht Tryz.func13 (N:=49) ?_;cbv;obtain⟨dc,dm,dG,cF,cM,ay,cG⟩:=je ij hps hts gD fX aD has;refine ar (vf ht _ _ _ _ _ _ _ _ _ _ _ ‹_› (by omega)) hY (λr0 bM=>?_);simp only[ht]at bM;have ec:=Nn bM iC
 clear bM;rcases ec with⟨e1,e2⟩|⟨i,xi,xa,xb,xc,xd,xn,xp,xt,xf,xq,xr,xl,e1,e2,e3,e4,e5,⟨e6,e7⟩,e8⟩
 .cbv;apply aj<;>intro h1
  .simp[ht]at h1;cbv;refine ak ?_;(simp[m6, *];done)
  simp[ht]at h1;omega
 cbv;apply aj<;>intro h2
 .simp[ht]at h2;(simp only[aa]at*;omega)
 simp[ht]at h2;cbv;refine El ht gD (cT:=Jb.aS t) e3 ‹_› (λ_=>rfl) (λ_=>(by(simp only[ht,Jb.aS];rfl))) ?_;cbv;apply aj<;>intro h4
 .simp[ht]at h4;cbv;refine ak ?_;(simp only[ht,m6,e4,e5];simp[*];done)
 simp[ht]at h4;cbv;refine aM (KP ht _ _ _ _ ‹_› ‹_› ‹_› ‹_› ‹_› ‹_› ‹_› _ _ _ _ _ _ _ _ _ _ _ (lm ht rfl) ‹_› ‹_› ‹_› ‹_›) hY (λr5 lp=>?_);simp only[ht]at lp;(rw[kS]at lp;generalize R7:(oQ ⟨rd,nx,⟨nl,pl⟩,tl,jl,ql,⟨ef,el⟩,⟨af,al⟩⟩ ⟨xi,⟨xq,⟨xa,xb,xc,xd⟩,xn,xp,xt,xl⟩,xr,xf⟩).bt=fp at lp;generalize hft:(oQ ⟨rd,nx,⟨nl,pl⟩,tl,jl,ql,⟨ef,el⟩,⟨af,al⟩⟩ ⟨xi,⟨xq,⟨xa,xb,xc,xd⟩,xn,xp,xt,xl⟩,xr,xf⟩).tree=ft at lp;subst r5);cbv;refine aM (ue ht _ _ (lm ht rfl) ‹_›) hY (λr6 jK=>?_);simp only[ht]at jK;cbv;refine aM (O3 ht _ _ _ _ (lm ht rfl) (lm ht rfl) (lm ht rfl) (lm ht rfl) (lm ht rfl) (lm ht rfl) (lm ht rfl) _ _ _ _ _ _ _ _ _ _ _ (lm ht rfl) ‹_› ‹_› ‹_›) hY (λr7 jU=>?_);simp only[ht]at jU;have hwe:(r7).ev.l.length<1000000:=by rw[jU];exact hel
 cbv;refine aM (qD ht _ _ _ _ _ _ (lm ht rfl) (lm ht rfl) (lm ht rfl) (lm ht rfl) (lm ht rfl) (lm ht rfl) (lm ht rfl) ‹_›) hY (λr8 tV=>?_);simp only[ht]at tV;cbv;refine ak ?_;(simp only[ht,m6,e4,e5,tV,jU,jK];rw[kS,R7,hft];simp[*];done)
theorem T4(ht:TT t)(rd nx ef af:Int){nl:List Node}{pl:List Place}{tl:List aR}{jl:List Jb}{ql:List bR}{el al:List cw}{ns ps ts js qs es eO:List (List D)}(ij:ns=nl.map Node.cells)(hps:ps=pl.map Place.cells)(hts:ts=tl.map aR.cells)(gD:js=jl.map Jb.cells)(fX:qs=ql.map bR.cells)(aD:es=el.map cw.cells)(has:eO=al.map cw.cells)(id kd:Int)(iC:∀x∈jl,x.x.iI.u'/\x.x.path.length<1000000000000)(htl:tl.length<100000)(hjl:jl.length<1000000)(oB:pl.length<1000000)(X6:ql.length<1000000)(hel:el.length<1000000):
 FC 14 [.agg [aA rd,aA nx,SL ns,SL ps,SL ts,SL js,SL qs,aA ef,SL es,aA af,SL eO],aA id,bf kd] [] (.ret (T2 t (t _ λ_=>send ⟨rd,nx,⟨nl,pl⟩,tl,jl,ql,⟨ef,el⟩,⟨af,al⟩⟩ id kd))) []:=by
 refine cC ht Tryz.func14 (N:=48) ?_;cbv;obtain⟨dc,dm,dG,cF,cM,ay,cG⟩:=je ij hps hts gD fX aD has;refine ar (vf ht _ _ _ _ _ _ _ _ _ _ _ ‹_› (by omega)) hY (λr0 bM=>?_);simp only[ht]at bM;have ec:=Nn bM iC
 clear bM;rcases ec with⟨e1,e2⟩|⟨i,xi,xa,xb,xc,xd,xn,xp,xt,xf,xq,xr,xl,e1,e2,e3,e4,e5,⟨e6,e7⟩,e8⟩
 .cbv;apply aj<;>intro h1
  .simp[ht]at h1;cbv;refine ak ?_;(simp[send, *];done)
  simp[ht]at h1;omega
 cbv;apply aj<;>intro h2
 .simp[ht]at h2;(simp only[aa]at*;omega)
 simp[ht]at h2;cbv;refine El ht gD (cT:=Jb.aS t) e3 ‹_› (λ_=>rfl) (λ_=>(by(simp only[ht,Jb.aS];rfl))) ?_;cbv;apply aj<;>intro h4
 .cbv;refine bE [false,false,false,false,false,false,true,true] ?_;cbv;iterate 4 refine gI (by simp) ?_
  refine El ht gD (cT:=Jb.aS t) e3 ‹_› (λ_=>rfl) (λ_=>(by(simp only[ht,Jb.aS];rfl))) ?_;cbv;refine gI (by simp) ?_;refine aM (KP ht _ _ _ _ ‹_› ‹_› ‹_› ‹_› ‹_› ‹_› ‹_› _ _ _ _ _ _ _ _ _ _ _ (lm ht rfl) ‹_› ‹_› ‹_› ‹_›) hY (λr6 jK=>?_);simp only[ht]at jK;(rw[kS]at jK;generalize R7:(oQ ⟨rd,nx,⟨nl,pl⟩,tl,jl,ql,⟨ef,el⟩,⟨af,al⟩⟩ ⟨xi,⟨xq,⟨xa,xb,xc,xd⟩,xn,xp,xt,xl⟩,xr,xf⟩).bt=fp at jK;generalize hft:(oQ ⟨rd,nx,⟨nl,pl⟩,tl,jl,ql,⟨ef,el⟩,⟨af,al⟩⟩ ⟨xi,⟨xq,⟨xa,xb,xc,xd⟩,xn,xp,xt,xl⟩,xr,xf⟩).tree=ft at jK;subst r6);cbv;refine sj hY (uf ht (lm ht rfl) ‹_›) hY rfl (.inr rfl) ?_;cbv;(simp only[aa]at e1;refine aW [3] hY rfl rfl (yY ht (l:=jl) (i:=i) ‹_› (by simp only[ht];rw[wrap64 (by omega) (by omega),e1]) e2 (by omega)) (aH ?_));cbv;refine aM (qD ht _ _ _ _ _ _ (lm ht rfl) (lm ht rfl) (lm ht rfl) (lm ht rfl) (lm ht rfl) (lm ht rfl) (lm ht rfl) ‹_›) hY (λr7 jU=>?_);simp only[ht]at jU;cbv;refine ak ?_;(subst h4;simp only[ht,send,e4,e5,jU,if_true];rw[kS,R7,hft];done)
 cbv;refine aM (KR ht _ ‹_› ‹_›) hY (λr8 tV=>?_);simp only[ht]at tV;cbv;refine sj hY (uf ht ‹_› ‹_›) hY rfl (.inr rfl) ?_;cbv;(simp only[aa]at e1;refine aW [2] hY rfl rfl (yY ht (l:=jl) (i:=i) ‹_› (by simp only[ht];rw[wrap64 (by omega) (by omega),e1]) e2 (by omega)) (aH ?_));cbv;refine aM (qD ht _ _ _ _ _ _ ‹_› ‹_› ‹_› (lm ht rfl) (lm ht rfl) ‹_› ‹_› ‹_›) hY (λr9 dR=>?_);simp only[ht]at dR;cbv;refine ak ?_;(simp only[ht,send,e4,e5];simp[*];done)
end Dem
end
section
open Go Dem Go.Proofs Go.Maps
namespace Dem
def DN(v:Value):Option (DataW Unit×List MemPlace):=match v with
 |.int q n=>some (.lit (.int q n),[])|_=>none
abbrev Af:Int->Value:=Value.int .u64
theorem yZ{x y:Int}(h:Af x=Af y):x=y:=by injection h
theorem QH{x:Int}(h0:0<=x)(h1:x<18446744073709551616):keyOf Tryz.prog 25 (Af x)=some (.int .u64 x):=
 keyOf_int_mk Tryz.underlying25 (by simp[Lit.wf,IntKind.min,IntKind.max,IntKind.signed,IntKind.bits];omega)
theorem KT{w:World}{ok:Nat->Prop}:∀(l:List iA) (ms:List MapEntry),bB w ok false (l.map iA.cells) ms->ms.map (λe=>(e.key,e.val))=l.map (λm=>(Af m.bL,Value.int .i64 m.cnt))
 |[],ms,h=>by simp only[List.map_nil,bB]at h;subst h;rfl|m::l,ms,h=>by simp only[List.map_cons,bB]at h;obtain⟨e,r,rfl,h1,h2⟩:=h;simp only[iA.cells,iN,aP,cJ]at h1;obtain⟨h1,cs,h3,_,v,r',h5,h6,h7⟩:=h1;subst h7 h6;rw[List.map_cons,List.map_cons,KT l r h2];subst h5;rw[h1,h3];rfl
structure T6(l:List iA):Prop where
 nodup:(l.map iA.bL).Nodup
 bL:∀m∈l,0<=m.bL/\m.bL<18446744073709551616
 len:l.length<=1000000
theorem T7{w:World}{ok:Nat->Prop}{l:List iA}{ms:Array MapEntry}{clock b:Nat}(hh:w.heap[b]?=some (.map ms clock))(hs:nP ms clock)(hr:bB w ok false (l.map iA.cells) ms.toList)(hl:T6 l):
 ∃D0:DataW Unit,w.ownsMap Tryz.prog 25 DN b ms.size D0/\(∀x,has D0 (.int .u64 x)=true↔∃m∈l,m.bL=x)/\∀m∈l,∀z,D0.atKey (.int .u64 m.bL) z=.lit (.int .i64 m.cnt):=by
 have hk:=KT l ms.toList hr;have hsz:ms.size=l.length:=by have:=vac List.length hk;simpa using this
 have hread:∀x∈ms.toList,∃m∈l,x.key=Af m.bL/\x.val=.int .i64 m.cnt/\WideElems.rd Tryz.prog 25 DN x=some (.int .u64 m.bL,.lit (.int .i64 m.cnt)):=by
  intro x hx;have:(x.key,x.val)∈ms.toList.map (λe=>(e.key,e.val)):=List.mem_map.2 ⟨x,hx,rfl⟩
  rw[hk]at this;obtain⟨m,hm,e⟩:=List.mem_map.1 this;simp only[vab]at e;refine⟨m,hm,e.1.symm,e.2.symm,?_⟩;unfold WideElems.rd;rw[<-e.1,<-e.2,QH (hl.bL m hm).1 (hl.bL m hm).2];rfl
 have hmem:∀m∈l,∃x∈ms.toList,x.key=Af m.bL/\x.val=.int .i64 m.cnt:=by
  intro m hm;have:(Af m.bL,Value.int .i64 m.cnt)∈l.map (λm=>(Af m.bL,Value.int .i64 m.cnt)):=List.mem_map.2 ⟨m,hm,rfl⟩
  rw[<-hk]at this;obtain⟨x,hx,e⟩:=List.mem_map.1 this;simp only[vab]at e;exact⟨x,hx,e.1,e.2⟩
 have F:WideElems.Fit Tryz.prog 25 DN ms clock:=by
  refine⟨?_,⟨?_,hs.2,?_⟩,?_⟩
  .rw[hsz];exact Nat.le_trans hl.len (by decide)
  .intro x hx;have:=hs.1
   rw[Array.all_eq_true_iff_forall_mem]at this;simpa using this x (by simpa using hx)
  .have e1:ms.toList.map (·.key)=(l.map iA.bL).map Af:=by
    have:ms.toList.map (·.key)=(ms.toList.map (λe=>(e.key,e.val))).map Prod.fst:=by rw[vaG];rfl
    rw[this,hk];simp
   rw[e1];exact List.pairwise_map.2 (hl.nodup.imp (λh e=>h (yZ e)))
  intro x hx;obtain⟨m,_,_,_,h⟩:=hread x hx;exact⟨_,h⟩
 refine⟨_,⟨ms,clock,hh,F,vad _,rfl⟩,?_,?_⟩
 .intro x;rw[has_eq,vaM];have hp:=WideShapes.sorted_perm (ms.toList.map (WideElems.rg Tryz.prog 25 DN))
  constructor
  .rintro⟨p,Pp,N4⟩;obtain⟨e,he,rfl⟩:=List.mem_map.1 (hp.mem_iff.1 Pp);obtain⟨m,hm,_,_,h⟩:=hread e he;rw[WideElems.rg_of h]at N4;exact⟨m,hm,by simpa[Lit.sameKey]using N4⟩
  rintro⟨m,hm,rfl⟩;obtain⟨e,he,h1,h2⟩:=hmem m hm;obtain⟨m',hm',h3,h4,h⟩:=hread e he;have:m'.bL=m.bL:=yZ (h3.symm.trans h1)
  refine⟨_,hp.mem_iff.2 (List.mem_map.2 ⟨e,he,rfl⟩),?_⟩;rw[WideElems.rg_of h,this];simp[Lit.sameKey]
 intro m hm z;obtain⟨e,he,h1,h2⟩:=hmem m hm;obtain⟨m',hm',h3,h4,h⟩:=hread e he;have e1:m'.bL=m.bL:=yZ (h3.symm.trans h1)
 have e2:m'.cnt=m.cnt:=by rw[h4]at h2;injection h2
 have hris:=fit_rising (int_keyed Tryz.underlying25) F;have:=(WideShapes.atKey_sorted (ms.toList.map (WideElems.rg Tryz.prog 25 DN)) hris (.int .u64 m.bL) hY).2 (WideElems.rg Tryz.prog 25 DN e) (List.mem_map.2 ⟨e,he,rfl⟩) (by rw[WideElems.rg_of h,e1]) z
 rw[this,WideElems.rg_of h,e2]
theorem Ag{β:Nat->Nat}{bx:List av}{w w':World}{row:Option Nat}(hg:w.grownBy w' row)(hr:∀j,row=some j->w.heap.size<=j):Ext β bx w β bx w':=
 have hb:∀k,k<w.heap.size->w'.heap[k]?=w.heap[k]?:=λk hk=>hg.block k hk (λe=>by have:=hr k e.symm;omega)
 ⟨hg.os,hg.tape,hg.output,hg.size,λk hk _=>hb k hk,λk c e f hk=>⟨c,by rw[hb k (fE hk)];exact hk,rfl⟩,λi hi=>⟨rfl,hi⟩,λi b h1 h2=>.inr ⟨i,b,h1,h2,rfl⟩⟩
theorem lY{P:Program}{ops:Array Oper}{Q:Exit->Act->World->Prop}{rest:List Oper}{o:Oper}{a:Act}{w:World}{v:Value}(hg:o.guard=none)(hv:execOp a.eval o=pure (.value v))(h:wpList P ops Q rest (a.put o.dst v) w):wpList P ops Q (o::rest) a w:=
 wpList_plain hg λK hK=>by unfold Oper.wp;rw[hv];exact hK _ _ h
theorem DO{P:Program}{ops:Array Oper}{Q:Exit->Act->World->Prop}{rest:List Oper}{o:Oper}{a:Act}{w:World}{v:Value}(hg:o.guard=none)(hv:(execOp a.eval o).run P w=.ok (.value v) w)(h:wpList P ops Q rest (a.put o.dst v) w):wpList P ops Q (o::rest) a w:=
 wpList_plain hg λK hK=>by unfold Oper.wp;rw[hv];exact hK _ _ h
theorem W0{P:Program}{w:World}{t:TypeId}{k:IntKind}{x y:Int}{ρ:Operand->Value}{o:Oper}{a b:Operand}{t':TypeId}(ho:o.op=.binOp .neq t a b t')(ha:ρ a=.int k x)(hb:ρ b=.int k y):(execOp ρ o).run P w=.ok (.value (.bool (!decide (x=y)))) w:=by obtain⟨u,h1,h2⟩:=Ig (P:=P) (w:=w) (λ_=>True) (op:=.neq) (k:=k) (x:=x) (y:=y) (c:=True) (d:=.bool (!decide (x=y))) rfl hY t;simp only[aP]at h2;subst h2;unfold execOp;simp only[ho,ha,hb];simp[h1,eqGuard,Result.andThen]
theorem ug{ρ:Operand->Value}{o:Oper}{x:Operand}{i:Nat}{vs:Array Value}{v:Value}(ho:o.op=.extract x i)(hx:ρ x=.tuple vs)(hv:vs[i]?=some v):execOp ρ o=pure (.value v):=by unfold execOp;simp only[ho,Instr.extract,hx,hv];rfl
theorem fD{a:Act}{N d:Nat}{v:Value}(hs:a.tmps.size=N)(hd:d<N)(u:Nat):(a.put (some d) v).eval (.tmp u)=if u=d then v else a.eval (.tmp u):=Od a d v (by rw[hs];exact hd) u
structure ZN(N q d2:Nat)(v0 vr:Value)(a:Act):Prop where
 defers:a.defers=[]
 size:a.tmps.size=N
 q:a.eval (.tmp q)=v0
 r:a.eval (.tmp d2)=vr
theorem ZN.put {N q d2:Nat} {v0 vr:Value} {a:Act} (h:ZN N q d2 v0 vr a) {d:Nat} (h1:d≠q) (h2:d≠d2) (hN:d<N) (v:Value):ZN N q d2 v0 vr (a.put (some d) v):=
 ⟨h.defers,by rw[<-h.size];simp[Act.put],by rw[fD h.size hN,if_neg (λe=>h1 e.symm)];exact h.q,by rw[fD h.size hN,if_neg (λe=>h2 e.symm)];exact h.r⟩
theorem ZN.fr {G:Nat->Option (List D)} {N q d2:Nat} {v0 vr:Value} {a:Act} (h:ZN N q d2 v0 vr a) (hhi:UO N=N) (hlo:F2 N=0) {β:Nat->Nat} {X:Nat->Prop} {bx:List av} {w w':World} {row:Option Nat} {kv:AV} (hg:w.grownBy w' row) (hr:∀j,row=some j->w.heap.size<=j) (cx:cB G β bx w X) (hk:ai β bx w (bq β bx w X) kv v0):
 Fr G N Kp.no β w' X ⟨[(q,kv)],bx⟩ a:=by
 refine⟨cx.step (Ag hg hr) (λi b hb=>.inl ⟨hb,λhl=>hg.block _ ((cx.box i b hb).fF hl) (λe=>by have:=hr _ e.symm;have:=(cx.box i b hb).fF hl;omega)⟩) cx.inj,h.defers,by rw[hhi];exact h.size,λt ht=>by omega,λt=>?_⟩;by_cases e:t=q
 .subst e;have:fK t [(t,kv)]=kv:=by simp only[fK];rw[show Nat.beq t t=true by simp];rfl
  rw[this];have hv:a.tmps.getD t undef=v0:=h.q
  rw[hv];exact ai.mono ((Ag hg hr).dL X) _ _ hk
 have:fK t [(q,kv)]=.any:=by simp only[fK];rw[Xy e];rfl
 rw[this];simp[ai]
structure No(bx:List av)(m:AV)(good bad:Prop):Prop where
 ok:∃(b:Nat) (l:List iA) (es:List (List D)),m=.BS b/\bx[b]?=some (.mp false es)/\es=l.map iA.cells/\T6 l/\((l.all λx=>decide (x.cnt=0))=true->good)/\((l.all λx=>decide (x.cnt=0))=false->bad)
section
variable {N:Nat}{X:Nat->Prop}{β0:Nat->Nat}{aK:List av}{w0:World}
theorem W1{Q:Ex->St->Prop}{i0 i1 i2 i3 B B2 m d1 d2 d3 d4 d5 d6 d7 d8 d9 q ty tz:Nat}{t':TypeId}{kv:AV}{o1 o2 o3 o4 o5 o6 o7 o8 o9:Oper}{Qy:Code}{post:List Code}
 (hhi:UO N=N) (hlo:F2 N=0) (hd:d1≠q/\d2≠q/\d3≠q/\d4≠q/\d5≠q/\d6≠q/\d7≠q/\d8≠q/\d9≠q) (hN:d1<N/\d2<N/\d3<N/\d4<N/\d5<N/\d6<N/\d7<N/\d8<N/\d9<N) (hr:d3≠d2/\d4≠d2/\d5≠d2/\d6≠d2/\d7≠d2/\d8≠d2/\d9≠d2)
 (h1:o1.op=.move (.tmp m)/\o1.dst=some d1/\o1.guard=none) (h2:o2.op=.range ty (.tmp d1)/\o2.dst=some d2/\o2.guard=none) (h3:o3.op=.next (.tmp d2) false/\o3.dst=some d3/\o3.guard=none) (h4:o4.op=.extract (.tmp d3) 0/\o4.dst=some d4/\o4.guard=none)
 (h5:o5.op=.entry (.tmp d2)/\o5.dst=some d5/\o5.guard=none) (h6:o6.op=.extract (.tmp d5) 1/\o6.dst=some d6/\o6.guard=none) (h7:o7.op=.assign (.tmp d6)/\o7.dst=some d7/\o7.guard=none) (h8:o8.op=.move (.tmp d7)/\o8.dst=some d8/\o8.guard=none)
 (h9:o9.op=.binOp .neq tz (.tmp d8) (.const (.int .i64 0)) t'/\o9.dst=some d9/\o9.guard=none) (Yr:Tryz.prog.underlying ty=some (.map 25 3))
 {β:Nat->Nat} {w:World} {s:St} {a:Act} (ex:Ext β0 aK w0 β s.bx w) (hF:Fr gl N Kp.no β w X s a) (hq:fK q s.sl=kv)
 (h:No s.bx (fK m s.sl) (∀(w':World) (a':Act),Ext β0 aK w0 β s.bx w'->Fr gl N Kp.no β w' X ⟨[(q,kv)],s.bx⟩ a'->sn Tryz.prog post (dB gl N Kp.no X β0 aK w0 Q) a' w')
  (∀(w':World) (a':Act),Ext β0 aK w0 β s.bx w'->Fr gl N Kp.no β w' X ⟨[(q,kv)],s.bx⟩ a'->Qy.wp Tryz.prog (λe a w=>e=.ret/\dB gl N Kp.no X β0 aK w0 Q .ret a w) a' w')):
 sn Tryz.prog (.region i0 ⟨[o1,o2]⟩ false::.block B (.loop (.seq (.region i1 ⟨[o3,o4]⟩ false) (.seq (.cond (.tmp d4) .skip (.exit B)) (.block B2 (.seq (.region i2 ⟨[o5,o6,o7]⟩ false) (.seq (.region i3 ⟨[o8,o9]⟩ false) (.cond (.tmp d9) Qy .skip)))))))::post) (dB gl N Kp.no X β0 aK w0 Q) a w:=by
 obtain⟨b,l,es,hm,hb,rfl,hl,ab1,aet⟩:=h;have hFs:a.tmps.size=N:=hF.size.trans hhi
 obtain⟨q1,q2,q3,q4,q5,q6,q7,q8,q9⟩:=hd;obtain⟨n1,n2,n3,n4,n5,n6,n7,n8,n9⟩:=hN;obtain⟨r3,r4,r5,r6,r7,r8,r9⟩:=hr;have hma:a.eval (.tmp m)=.map (some (β b)):=by have:=hF.sW m;rw[hm]at this;simp only[ai]at this;exact this.1
 obtain⟨ms,clock,g1,g2,g3⟩:=hF.cx.box b _ hb;obtain⟨D0,ho,ab2,hat⟩:=T7 g1 g2 g3 hl;refine wp_region_list ?_;refine lY h1.2.2 (v:=.map (some (β b))) (by unfold execOp;simp only[h1.1,hma]) ?_;rw[h1.2.1];refine wpList_range_own _ h2.2.2 (.tmp d1) ty h2.1 25 3 (int_keyed Tryz.underlying25) Yr DN (β b) ms.size D0 (by rw[fD hFs n1];simp) ho ?_;intro w1 ab3 T8 aaI;rw[h2.2.1];refine wpList_nil ?_;obtain⟨r,hrr⟩:∃r,r=w.heap.size:=⟨_,rfl⟩;rw[<-hrr]at ab3 ⊢;have T9:(a.put (some d1) (Value.map (some (β b)))).tmps.size=N:=by rw[<-hFs];simp[Act.put]
 have hA:ZN N q d2 (a.eval (.tmp q)) (.pointer (some ⟨r,0,none⟩)) ((a.put (some d1) (Value.map (some (β b)))).put (some d2) (.pointer (some ⟨r,0,none⟩))):=
  ⟨hF.defers,by rw[<-T9];simp[Act.put],by rw[fD T9 n2,if_neg (λe=>q2 e.symm),fD hFs n1,if_neg (λe=>q1 e.symm)],by rw[fD T9 n2];simp⟩
 have hkv:ai β s.bx w (bq β s.bx w X) kv (a.eval (.tmp q)):=by rw[<-hq];exact hF.sW q
 generalize (a.put (some d1) (Value.map (some (β b)))).put (some d2) (.pointer (some ⟨r,0,none⟩))=a1 at hA ⊢;show(Code.block B _).wp Tryz.prog _ a1 w1
 refine wp_block ?_;have hro:∀j,some r=some j->w.heap.size<=j:=λj e=>by cases e;omega
 refine wp_loop_ghost (λn a' w'=>ZN N q d2 (a.eval (.tmp q)) (.pointer (some ⟨r,0,none⟩)) a'/\w.grownBy w' (some r)/\∃left,w'.ranges Tryz.prog 25 DN (β b) r ms.size D0 left n/\(∀x,left (.int .u64 x)=true->∃m∈l,m.bL=x)/\∀m∈l,left (.int .u64 m.bL)=false->m.cnt=0)
  (Maps.size D0) ⟨hA,⟨T8.os,T8.tape,T8.output,T8.size,λk hk _=>T8.block k hk (by simp)⟩,has D0,ab3,λx h=>(ab2 x).1 h,λm hm h=>by rw[(ab2 m.bL).2 ⟨m,hm,rfl⟩]at h;cases h⟩ ?_
 rintro n a2 w2 ⟨hA2,ZO,left,aev,hl1,pV⟩;refine wp_seq (wp_region_list ?_);have exw:∀{w3:World},w.grownBy w3 (some r)->Ext β0 aK w0 β s.bx w3:=λ{w3} g=>ex.trans (Ag g hro)
 refine wpList_next_ranges w2 h3.2.2 (.tmp d2) h3.1 25 (int_keyed Tryz.underlying25) DN Af (λx:IntKind×Int=>.int x.1 x.2) (λkey kl hk=>by obtain⟨x,hx,_⟩:=Maps.keyOf_int_inv Tryz.underlying25 hk;exact⟨x,hx⟩)
  (λv y hv=>by cases v<;>simp[DN]at hv;exact⟨(_,_),rfl⟩) (β b) r ms.size D0 left n hA2.r aev ?_ ?_
 .intro hc0 hl0;rw[h3.2.1];have hA3:=hA2.put q3 r3 n3 (.tuple #[.bool false])
  refine lY h4.2.2 (v:=.bool false) (ug h4.1 (by rw[fD hA2.size n3];simp;rfl) (by rfl)) ?_;rw[h4.2.1];refine wpList_nil ?_;have hA4:=hA3.put q4 r4 n4 (.bool false)
  simp only[Exit.then];refine wp_seq (wp_cond_split (t:=false) (by rw[fD hA3.size n4];simp) (λh=>by cases h) (λ_=>wp_exit ?_));simp only[Exit.then,Exit.inBlock,if_true];have:(l.all λx=>decide (x.cnt=0))=true:=by rw[vaE];intro x hx;simpa using pV x hx (hl0 _)
  exact ab1 this w2 _ (exw ZO) (hA4.fr hhi hlo ZO hro hF.cx hkv)
 intro x c kl y w3 n3' hkey hlk hv aew aex hlt aey ahq hen;obtain⟨x',e1,rfl,_⟩:=Maps.keyOf_int_inv Tryz.underlying25 hkey;obtain rfl:x=x':=yZ e1;obtain⟨k,cv⟩:=c;simp only[DN,osI]at hv;subst hv;obtain⟨mm,Pv,rfl⟩:=hl1 x hlk;have hc:=(aew .nil).symm.trans (hat mm Pv .nil)
 simp only[DataW.lit.injEq,Lit.int.injEq]at hc;obtain⟨rfl,rfl⟩:=hc;have ZP:w.grownBy w3 (some r):=ZO.andThen aey (λj e=>.inr e)
 rw[h3.2.1];have hA3:=hA2.put q3 r3 n3 (.tuple #[.bool true,Af mm.bL,.int .i64 mm.cnt])
 refine lY h4.2.2 (v:=.bool true) (ug h4.1 (by rw[fD hA2.size n3];simp;rfl) (by rfl)) ?_;rw[h4.2.1];refine wpList_nil ?_;have hA4:=hA3.put q4 r4 n4 (.bool true)
 simp only[Exit.then];refine wp_seq (wp_cond_split (t:=true) (by rw[fD hA3.size n4];simp) (λ_=>wp_skip ?_) (λh=>by cases h));simp only[Exit.then];refine wp_block (wp_seq (wp_region_list ?_));refine DO h5.2.2 (v:=.tuple #[Af mm.bL,.int .i64 mm.cnt]) (by unfold execOp;simp only[h5.1,hA4.r];simp[hen,Result.andThen]) ?_;rw[h5.2.1];have hA5:=hA4.put q5 r5 n5 (.tuple #[Af mm.bL,.int .i64 mm.cnt])
 refine lY h6.2.2 (v:=.int .i64 mm.cnt) (ug h6.1 (by rw[fD hA4.size n5];simp;rfl) (by rfl)) ?_;rw[h6.2.1];have hA6:=hA5.put q6 r6 n6 (.int .i64 mm.cnt)
 refine lY h7.2.2 (v:=.int .i64 mm.cnt) (by unfold execOp;simp only[h7.1,fD hA5.size n6,if_true]) ?_;rw[h7.2.1];have hA7:=hA6.put q7 r7 n7 (.int .i64 mm.cnt)
 refine wpList_nil ?_;simp only[Exit.then];refine wp_seq (wp_region_list ?_);refine lY h8.2.2 (v:=.int .i64 mm.cnt) (by unfold execOp;simp only[h8.1,fD hA6.size n7,if_true]) ?_;rw[h8.2.1];have hA8:=hA7.put q8 r8 n8 (.int .i64 mm.cnt)
 refine DO h9.2.2 (v:=.bool (!decide (mm.cnt=0))) (W0 h9.1 (by rw[fD hA7.size n8];simp) rfl) ?_;rw[h9.2.1];have hA9:=hA8.put q9 r9 n9 (.bool (!decide (mm.cnt=0)))
 refine wpList_nil ?_;simp only[Exit.then];refine wp_cond_split (t:=!decide (mm.cnt=0)) (by rw[fD hA8.size n9];simp) (λh=>?_) (λh=>wp_skip ?_)
 .have:(l.all λx=>decide (x.cnt=0))=false:=by rw[List.all_eq_false];exact⟨mm,Pv,by simpa using h⟩
  refine wp_mono (aet this w3 _ (exw ZP) (hA9.fr hhi hlo ZP hro hF.cx hkv)) ?_;rintro e a9 w9 ⟨rfl,hl⟩;exact hl
 have hz:mm.cnt=0:=by simpa using h
 simp only[Exit.inBlock,Exit.then];refine⟨n3',hlt,hA9,ZP,_,aex,?_,?_⟩
 .intro x hx;simp only[vae]at hx;exact hl1 x hx.1
 intro m hm hx;simp only[Bool.and_eq_false_iff]at hx;rcases hx with hx|hx
 .exact pV m hm hx
 have hj:m.bL=mm.bL:=by simpa[Lit.sameKey]using hx
 have h1:=hat m hm .nil;rw[hj,hat mm Pv .nil]at h1;simp only[DataW.lit.injEq,Lit.int.injEq,true_and]at h1;rw[<-h1];exact hz
end
end Dem
end
section
open Go Dem Go.Proofs
namespace Dem
theorem fcM{t:Th}(ht:TT t)(k:Nat){f N:Nat}{fn:Func}{c:Code}{args:List AV}{aE:List av}{res:eP}(hf:Tryz.prog.funcs[f]?=some fn)(hb:fn.body=some c)
 (hname:(fn.name== "runtime.NumGoroutine")=false) (hN:fn.ntmps=N) {rs:List ResultVar} (Bn:fn.results.toList=rs) (hlen:gq args.length N=true)
 {i0 i1 i2 i3 B B2 m d1 d2 d3 d4 d5 d6 d7 d8 d9 q ty tz:Nat} {t':TypeId} {kv:AV} {o1 o2 o3 o4 o5 o6 o7 o8 o9:Oper} {Qy:Code} {post:List Code}
 (hc:(flat c).drop k=.region i0 ⟨[o1,o2]⟩ false::.block B (.loop (.seq (.region i1 ⟨[o3,o4]⟩ false) (.seq (.cond (.tmp d4) .skip (.exit B)) (.block B2 (.seq (.region i2 ⟨[o5,o6,o7]⟩ false) (.seq (.region i3 ⟨[o8,o9]⟩ false) (.cond (.tmp d9) Qy .skip)))))))::post)
 (hd:d1≠q/\d2≠q/\d3≠q/\d4≠q/\d5≠q/\d6≠q/\d7≠q/\d8≠q/\d9≠q) (hNd:d1<N/\d2<N/\d3<N/\d4<N/\d5<N/\d6<N/\d7<N/\d8<N/\d9<N) (hr:d3≠d2/\d4≠d2/\d5≠d2/\d6≠d2/\d7≠d2/\d8≠d2/\d9≠d2)
 (h1:o1.op=.move (.tmp m)/\o1.dst=some d1/\o1.guard=none) (h2:o2.op=.range ty (.tmp d1)/\o2.dst=some d2/\o2.guard=none) (h3:o3.op=.next (.tmp d2) false/\o3.dst=some d3/\o3.guard=none) (h4:o4.op=.extract (.tmp d3) 0/\o4.dst=some d4/\o4.guard=none)
 (h5:o5.op=.entry (.tmp d2)/\o5.dst=some d5/\o5.guard=none) (h6:o6.op=.extract (.tmp d5) 1/\o6.dst=some d6/\o6.guard=none) (h7:o7.op=.assign (.tmp d6)/\o7.dst=some d7/\o7.guard=none) (h8:o8.op=.move (.tmp d7)/\o8.dst=some d8/\o8.guard=none)
 (h9:o9.op=.binOp .neq tz (.tmp d8) (.const (.int .i64 0)) t'/\o9.dst=some d9/\o9.guard=none) (Yr:Tryz.prog.underlying ty=some (.map 25 3))
 (h:wu t FC tT gl N 0 ((flat c).take k) (λe s=>match e with
  |.normal=>fK q s.sl=kv/\No s.bx (fK m s.sl) (wu t FC tT gl N 0 post (iq t tT rs 0 res aE) ⟨[(q,kv)],s.bx⟩) (ph t FC tT gl N 0 Qy (λe s=>match e with|.ret=>iq t tT rs 0 res aE .ret s|_=>False) ⟨[(q,kv)],s.bx⟩)|e=>iq t tT rs 0 res aE e s) ⟨fH 0 args,[]⟩):FC f args [] res aE:=by
 subst Bn
 have e:=ht.eq
 subst e
 refine tW HQ lE hf hb hname hN hlen (List.take_append_drop k (flat c)).symm (λs=>fK q s.sl=kv/\No s.bx (fK m s.sl) _ _) (λX β0 w0 β w s a ex hF hR=>?_) h
 rw[hc]
 obtain⟨hq,b,l,es,g1,g2,g3,g4,g5,g6⟩:=hR
 refine W1 (sH hlen).2.1 (sH hlen).2.2 hd hNd hr h1 h2 h3 h4 h5 h6 h7 h8 h9 Yr ex hF hq ⟨b,l,es,g1,g2,g3,g4,λhg w' a' qL Vs=>?_,λhg w' a' qL Vs=>?_⟩
 .exact eU HQ lE (vad _) post _ β w' ⟨[(q,kv)],s.bx⟩ a' qL Vs (g5 hg)
 refine wp_mono (eS HQ lE (vad _) Qy _ β w' ⟨[(q,kv)],s.bx⟩ a' qL Vs (g6 hg)) ?_
 intro e a w hl
 cases e<;>simp only[dB]at hl
 .obtain⟨_,_,_,_,h⟩:=hl;exact h.elim
 .obtain⟨_,_,_,_,h⟩:=hl;exact h.elim
 .exact⟨rfl,hl⟩
 obtain⟨_,_,_,_,_,_,_,_,_,_,h⟩:=hl;exact h.elim
end Dem
end
section
open Go Dem Go.Proofs
namespace Dem
variable {t:Th}
theorem FJ(j:Int):∀(l:List iA),(zk (l.map iA.cells) (.int .u64 j)=none/\gi l j=0)∨(zk (l.map iA.cells) (.int .u64 j)=some [.int .i64 (gi l j)]/\j∈l.map iA.bL/\∃m∈l,gi l j=m.cnt)
 |[]=>.inl ⟨rfl,rfl⟩|m::l=>by
  simp only[List.map_cons,iA.cells,zk,rY];by_cases h:j=m.bL
  .subst h;have e:gi (m::l) m.bL=m.cnt:=by simp[gi]
   rw[e];exact .inr ⟨by simp,by simp,m,by simp,rfl⟩
  have h2:¬m.bL=j:=λe=>h e.symm;have e:gi (m::l) j=gi l j:=by simp[gi,h2]
  rw[e];simp only[h,decide_false];rcases FJ j l with⟨a,b⟩|⟨a,b,m',c,d⟩
  .exact .inl ⟨by simpa using a,b⟩
  exact .inr ⟨by simpa using a,by simp[b],m',by simp[c],d⟩
theorem KU{u:List (List D)}{l:List iA}(hu:u=l.map iA.cells){j:Int}{c:Prop}{o:Option (List D)}{K:Option (List D)->Prop}(hc:c)(ho:o=zk u (.int .u64 j))(h0:gi l j=0->K none)(h1:∀x,x=gi l j->j∈l.map iA.bL->(∃m∈l,x=m.cnt)->K (some [.int .i64 x])):Lv true c o K:=by
 subst hu;rcases FJ j l with⟨a,b⟩|⟨a,b,d⟩
 .exact⟨none,λ_=>⟨hc,ho.trans a⟩,h0 b⟩
 exact⟨_,λ_=>⟨hc,ho.trans a⟩,h1 _ rfl b d⟩
theorem zb{u:List (List D)}{l:List iA}(hu:u=l.map iA.cells):∀r∈u,rowIs (.int .u64) 1 r:=by subst hu;intro r hr;obtain⟨m,_,rfl⟩:=List.mem_map.1 hr;exact⟨_,_,rfl,rfl,rfl⟩
def ze(m:List iA)(j:Jb):List iA:=if j.runs then fJ m j.id j.x.count else m
theorem wP{l:List Jb}{k:Nat}{x:Jb}(h:l[k]?=some x):kQ (l.take (k+1))=ze (kQ (l.take k)) x:=by unfold kQ;rw[nJ h,List.foldl_append];rfl
structure Np(l:List Jb)(w:List iA):Prop where
 nodup:(w.map iA.bL).Nodup
 bL:∀m∈w,∃j∈l,m.bL=j.id
 cnt:∀m∈w,m.cnt<9223372036854775808
 len:w.length<=l.length
theorem rT{l:List iA}{j c:Int}{m:iA}(h:m∈fJ l j c):m=⟨j,c⟩∨m∈l:=by
 induction l with
 |nil=>simp[fJ]at h;exact .inl h|cons x l ih=>
  unfold fJ at h;split at h
  .rcases List.mem_cons.1 h with h|h
   .exact .inl h
   exact .inr (by simp[h])
  rcases List.mem_cons.1 h with h|h
  .exact .inr (by simp[h])
  rcases ih h with h|h
  .exact .inl h
  exact .inr (by simp[h])
theorem Nq(l:List iA)(j c:Int):(fJ l j c).length<=l.length+1:=by have:=vac List.length (mI l j c);rw[lgM]at this;rw[this];split<;>simp
theorem KV(L:List Jb)(hc:∀x∈L,x.x.count<9223372036854775808):∀k≤L.length,Np L (kQ (L.take k))/\(kQ (L.take k)).length<=k
 |0,_=>⟨⟨by simp[kQ],by simp[kQ],by simp[kQ],by simp[kQ]⟩,by simp[kQ]⟩|k+1,hk=>by
  obtain⟨⟨a1,a2,a3,a4⟩,a5⟩:=KV L hc k (by omega);obtain⟨x,hx⟩:∃x,L[k]?=some x:=⟨_,vaj (by omega)⟩;have pM:=vag hx
  rw[wP hx];unfold ze;split
  .have:=Nq (kQ (L.take k)) x.id x.x.count;refine⟨⟨rL a1 _ _,λm hm=>?_,λm hm=>?_,by omega⟩,by omega⟩
   .rcases rT hm with rfl|hm
    .exact⟨x,pM,rfl⟩
    exact a2 m hm
   rcases rT hm with rfl|hm
   .exact hc x pM
   exact a3 m hm
  exact⟨⟨a1,a2,a3,a4⟩,by omega⟩
theorem Ua{L:List Jb}{w W:List iA}(h:w.map iA.bL=W.map iA.bL)(hW:Np L W)(hid:∀x∈L,0<=x.id/\x.id<18446744073709551616)(hl:L.length<1000000):T6 w where
 nodup:=by rw[h];exact hW.nodup
 bL:=λm hm=>by
  have:m.bL∈W.map iA.bL:=by rw[<-h];exact List.mem_map_of_mem hm
  obtain⟨m',hm',e⟩:=List.mem_map.1 this;obtain⟨j,hj,e2⟩:=hW.bL m' hm';rw[<-e,e2];exact hid j hj
 len:=by have:=vac List.length h;simp at this;have:=hW.len;omega
theorem QI(ht:TT t)(rd nx ef af:Int){nl:List Node}{pl:List Place}{tl:List aR}{jl:List Jb}{ql:List bR}{el al:List cw}{ns ps ts js qs es eO:List (List D)}(ij:ns=nl.map Node.cells)(hps:ps=pl.map Place.cells)(hts:ts=tl.map aR.cells)(gD:js=jl.map Jb.cells)(fX:qs=ql.map bR.cells)(aD:es=el.map cw.cells)(has:eO=al.map cw.cells)(hid:∀x∈jl,(0<=x.id/\x.id<18446744073709551616)/\x.x.count<9223372036854775808)(hjl:jl.length<1000000)(oB:pl.length<1000000):
 FC 56 [.agg [aA rd,aA nx,SL ns,SL ps,SL ts,SL js,SL qs,aA ef,SL es,aA af,SL eO]] [] (.ret (cA (t _ λ_=>ny ⟨rd,nx,⟨nl,pl⟩,tl,jl,ql,⟨ef,el⟩,⟨af,al⟩⟩))) []:=by
 refine fcM ht 6 Tryz.func56 rfl rfl (N:=74) rfl rfl rfl (q:=2) (kv:=.d (.bool false)) rfl (by decide) (by decide) (by decide) ⟨rfl,rfl,rfl⟩ ⟨rfl,rfl,rfl⟩ ⟨rfl,rfl,rfl⟩ ⟨rfl,rfl,rfl⟩ ⟨rfl,rfl,rfl⟩ ⟨rfl,rfl,rfl⟩ ⟨rfl,rfl,rfl⟩ ⟨rfl,rfl,rfl⟩ ⟨rfl,rfl,rfl⟩ Tryz.underlying194 ?_;cbv;obtain⟨dc,dm,dG,cF,cM,ay,cG⟩:=je ij hps hts gD fX aD has;obtain⟨J0,dZ⟩:∃J0:Nat->Int×List (List D)->Prop,∀n i u,J0 n (i,u)↔(∃(k:Nat),i=k/\k+n=jl.length/\u=(kQ (jl.take k)).map iA.cells):=⟨λn v=>match v with|(i,u)=>(∃(k:Nat),i=k/\k+n=jl.length/\u=(kQ (jl.take k)).map iA.cells),λ_ _ _=>Iff.rfl⟩;refine bw ⟨[1,2,3,15,16,17],[],[]⟩ (σ:=Int×List (List D)) (λv=>[(17,.d (.int .i64 (t _ λ_=>v.1)))]) (λv=>[(1,.mp false (t _ λ_=>v.2))]) J0 ?_;cbv;refine aC ⟨jl.length,(_,_),(dZ _ _ _).2 ?_,by simp only[ht];rfl,?_⟩
 .exact⟨0,rfl,by simp,by simp[kQ]⟩
 rintro n ⟨i,u⟩ hj;replace hj:=(dZ _ _ _).1 hj;obtain⟨k,rfl,q1,q6⟩:=hj;cbv;apply aj<;>intro h1
 .simp[ht,aa,cF]at h1;cbv;refine eT ht gD (cT:=Jb.aS t) (by(simp only[ht,aa];omega)) (by(simp only[ht,aa];omega)) (λ_=>rfl) (λ_=>(by(simp only[ht,Jb.aS];rfl))) (λx2 jX=>?_);simp[ht,aa]at jX;cbv;apply aj<;>intro h3
  .cbv;refine⟨?_,?_⟩
   ·(simp only[ht];exact⟨⟨rfl,rfl,zb q6⟩,hY⟩)
   cbv;refine bA (_,_) (by simp only[ht];rfl) (n-1) ?_ ((dZ _ _ _).2 ?_)
   .omega
   simp only[aa];(exact⟨k+1,aG (by omega),by omega,by rw[wP jX,ze,q6,Df,if_pos h3]⟩)
  cbv;refine bA (_,_) (by simp only[ht];rfl) (n-1) ?_ ((dZ _ _ _).2 ?_)
  .omega
  simp only[aa];(exact⟨k+1,aG (by omega),by omega,by rw[wP jX,ze,q6,if_neg (by simp[h3])]⟩)
 simp[ht,aa,cF]at h1;cbv;obtain⟨W,hW⟩:∃W,W=kQ jl:=⟨_,rfl⟩;have hw0:jl.length<=k->kQ (jl.take k)=W:=λh=>by rw[hW,vao h]
 have hWo:Np jl W:=by have:=(KV jl (λx hx=>(hid x hx).2) jl.length (vad _)).1;rw[List.take_length,<-hW]at this;exact this
 obtain⟨J4,HS⟩:∃J4:Nat->Bool×Int×List (List D)->Prop,∀m rb i u,J4 m (rb,i,u)↔(rb=false/\∃(k:Nat) (w:List iA),i=k/\k+m=pl.length/\u=w.map iA.cells/\w.map iA.bL=W.map iA.bL/\(∀x∈w,x.cnt<9223372036854775808)/\iK jl pl W=iK jl (pl.drop k) w):=⟨λm v=>match v with|(rb,i,u)=>(rb=false/\∃(k:Nat) (w:List iA),i=k/\k+m=pl.length/\u=w.map iA.cells/\w.map iA.bL=W.map iA.bL/\(∀x∈w,x.cnt<9223372036854775808)/\iK jl pl W=iK jl (pl.drop k) w),λ_ _ _ _=>Iff.rfl⟩;refine bw ⟨[1,2,3,33,34,35],[],[]⟩ (σ:=Bool×Int×List (List D)) (λv=>[(2,.d (.bool (t _ λ_=>v.1))),(35,.d (.int .i64 (t _ λ_=>v.2.1)))]) (λv=>[(1,.mp false (t _ λ_=>v.2.2))]) J4 ?_;cbv;refine aC ⟨pl.length,(_,_,_),(HS _ _ _ _).2 ?_,by simp only[ht];rfl,?_⟩
 .exact⟨rfl,0,W,rfl,by simp,by rw[q6,hw0 (by omega)],rfl,hWo.cnt,rfl⟩
 rintro m ⟨rb,i,u⟩ hj;replace hj:=(HS _ _ _ _).1 hj;obtain⟨q0,k,w,rfl,q1,q6,q7,q8,q9⟩:=hj;have OJ:u.length=w.length:=by rw[q6,lgM]
 cbv;apply aj<;>intro h5
 .simp[ht,aa,dm]at h5;cbv;refine eT ht hps (cT:=Place.aS t) (by(simp only[ht,aa];omega)) (by(simp only[ht,aa];omega)) (λ_=>rfl) (λ_=>rfl) (λx6 mx6=>?_);simp[ht,aa]at mx6;rw[cu mx6,iK]at q9;cbv;refine aM (yX ht _ _ _ _ _ _ _ _ _ _ _ ‹_› (by omega)) hY (λr7 jU=>?_);simp only[ht]at jU;rw[<-jU]at q9;cbv;(refine KU q6 (by simp only[ht];exact⟨rfl,rfl,zb q6⟩) (by simp only[ht]<;>rfl) (λw9=>?_) (λc9 w9 w10 w11=>?_))
  .cbv;iterate 6 refine gI (by simp[ht]) ?_
   refine pI (by simp[ht]) ?_;apply aj<;>intro h8
   .simp[ht]at h8;cbv;refine ak ?_;(have e:iK jl pl W=none:=(by rw[q9,if_pos (by omega)]);simp only[ht,ny,<-hW,e];done)
   simp[ht]at h8
  cbv;iterate 6 refine gI (by simp[ht]) ?_
  refine pI (by simp[ht]) ?_;apply aj<;>intro h9
  .simp[ht]at h9;cbv;refine ak ?_;(have e:iK jl pl W=none:=(by rw[q9];split;rfl;rw[if_pos];rw[pi];rcases h9 with h9|h9;(exfalso;omega);(intro hh;simp[hh]at h9));simp only[ht,ny,<-hW,e];done)
  simp[ht]at h9;cbv;(refine KU q6 (by simp only[ht];exact⟨rfl,rfl,zb q6⟩) (by simp only[ht]<;>rfl) (λw9=>?_) (λc9 w9 w10 w11=>?_))
  .cbv;refine⟨?_,?_⟩
   ·(simp only[ht];exact⟨⟨rfl,rfl,zb q6⟩,hY⟩)
   cbv;refine bA (_,_,_) (by simp only[ht];rfl) (m-1) ?_ ((HS _ _ _ _).2 ?_)
   .omega
   simp only[aa];(refine⟨q0,k+1,fJ w (x6).bL (c9-1),aG (by omega),by omega,?_,?_,?_,?_⟩)
   ·(simp_all;done)
   ·(rw[mI,if_pos w10,q7];done)
   ·(intro y hy;obtain⟨mm,Pv,em⟩:=w11;have hq8:=q8 mm Pv;rcases rT hy with rfl|hy;(show c9-1<_;omega);exact q8 y hy)
   (simp_all;done)
  cbv;refine⟨?_,?_⟩
  ·(simp only[ht];exact⟨⟨rfl,rfl,zb q6⟩,hY⟩)
  cbv;refine bA (_,_,_) (by simp only[ht];rfl) (m-1) ?_ ((HS _ _ _ _).2 ?_)
  .omega
  simp only[aa];(refine⟨q0,k+1,fJ w (x6).bL (c9-1),aG (by omega),by omega,?_,?_,?_,?_⟩)
  ·(obtain⟨mm,Pv,em⟩:=w11;have hq8:=q8 mm Pv;rw[q6,Df,wrap64 (by omega) (by omega)];done)
  ·(rw[mI,if_pos w10,q7];done)
  ·(intro y hy;obtain⟨mm,Pv,em⟩:=w11;have hq8:=q8 mm Pv;rcases rT hy with rfl|hy;(show c9-1<_;omega);exact q8 y hy)
  (rw[q9,if_neg (by omega),if_neg (by rw[pi];simp[h9.2]),w9];done)
 simp[ht,aa,dm]at h5;cbv;refine⟨?_,?_⟩
 ·(simp[ht];omega)
 cbv;(refine⟨1,w,_,rfl,rfl,by simp only[ht];exact q6,Ua q7 hWo (λx hx=>(hid x hx).1) hjl,λhg=>?_,λhg=>?_⟩)
 .cbv;refine ak ?_;(rw[vah (by omega),iK]at q9;simp only[ht,ny,<-hW,q9,hg];done)
 cbv;refine ak ?_;(rw[vah (by omega),iK]at q9;simp only[ht,ny,<-hW,q9,hg];done)
theorem KW(ht:TT t)(a b:Int){l:List bR}{es:List (List D)}(aD:es=l.map bR.cells)(hl:l.length<1000000000):
 FC 167 [SL es,.agg [aA a,bf b]] [] (.ret (ol (t _ λ_=>Ko (⟨a,b⟩:bR) l))) []:=by
 refine cC ht Tryz.func167 (N:=19) ?_;cbv;have ay:es.length=l.length:=by rw[aD,lgM]
 obtain⟨J0,dZ⟩:∃J0:Nat->Int->Prop,∀n i,J0 n i↔(∃k:Nat,i=k/\k+n=l.length/\∀i<k,∀y,l[i]?=some y->(⟨a,b⟩:bR)≠y):=⟨λn v=>match v with|i=>(∃k:Nat,i=k/\k+n=l.length/\∀i<k,∀y,l[i]?=some y->(⟨a,b⟩:bR)≠y),λ_ _=>Iff.rfl⟩;refine bw ⟨[0,3,7,8],[],[]⟩ (σ:=Int) (λv=>[(8,.d (.int .i64 (t _ λ_=>v)))]) (λv=>[]) J0 ?_;cbv;refine aC ⟨l.length,_,(dZ _ _).2 ?_,by simp only[ht];rfl,?_⟩
 .exact⟨0,rfl,by simp,λi hi=>by omega⟩
 rintro n i hj;replace hj:=(dZ _ _).1 hj;obtain⟨k,rfl,j1,j4⟩:=hj;cbv;apply aj<;>intro h1
 .simp[ht,aa,ay]at h1;cbv;refine bE [false,false,false,false,false,true] ?_;cbv;iterate 3 refine gI (by simp) ?_
  refine eT ht aD (cT:=bR.aS t) (by(simp only[ht,aa];omega)) (by(simp only[ht,aa];omega)) (λ_=>rfl) (λ_=>rfl) (λx2 jX=>?_);simp[ht,aa]at jX;cbv;refine gI (by simp) ?_;apply aj<;>intro h3
  .simp[ht]at h3;cbv;refine ak ?_;(simp only[ht];rw[G8 jX (by rw[Ni];simp_all) j4];done)
  simp[ht]at h3;cbv;refine bA _ (by simp only[ht];rfl) (n-1) ?_ ((dZ _ _).2 ?_)
  .omega
  simp only[aa];exact⟨k+1,aG (by omega),by omega,z6 j4 jX (by rw[ne_eq,Ni];simp_all)⟩
 simp[ht,aa,ay]at h1;cbv;refine ak ?_;(simp only[ht];rw[G9 (by omega) j4];done)
theorem QJ(ht:TT t)(a b:Int){l:List bR}{es:List (List D)}(aD:es=l.map bR.cells)(hl:l.length<1000000000):
 FC 121 [SL es,.agg [aA a,bf b]] [] (.ret (cA (t _ λ_=>l.contains ⟨a,b⟩))) []:=by
 refine cC ht Tryz.func121 (N:=9) ?_;cbv;have ay:es.length=l.length:=by rw[aD,lgM]
 refine ar (KW ht _ _ ‹_› ‹_›) hY (λr0 bM=>?_);simp only[ht]at bM;cbv;refine ak ?_;(simp[ht,bM,DE];done)
def mX(l:List Jb)(k:Nat):Option Int:=match k with
 |0=>none|k+1=>(l[k]?).map (·.id)
theorem W2{s:cI}{l:List Jb}{k:Nat}{y:Jb}(hy:0<k->l[k-1]?=some y)(j:Jb):XT s (mX l k) j=
 (if((((decide (j.id<1)||decide (s.next<=j.id))||(decide (0<k)&&decide (j.id<=y.id)))||!decide (c8 j.x=0))||!iO s.tree j.x.path)=true then false else
  if j.runs then decide (1<=j.left)&&decide (j.left<=j.x.dX)else decide (j.left=0)&&s.queue.contains ⟨j.id,j.x.prio⟩):=by
 unfold XT
 cases k with
 |zero=>
  simp only[mX]
  by_cases a:j.id<1
  .simp[a]
  by_cases b:s.next<=j.id
  .simp[a,b]
  by_cases c:c8 j.x=0
  .cases d:iO s.tree j.x.path<;>simp[a,b,c]
  simp[a,b,c]
 |succ k=>
  have hy:=hy (by omega)
  simp only[Nat.add_sub_cancel]at hy
  simp only[mX,hy,vau]
  by_cases a:j.id<1
  .simp[a]
  by_cases b:s.next<=j.id
  .simp[a,b]
  by_cases e:j.id<=y.id
  .simp[a,b,e]
  by_cases c:c8 j.x=0
  .cases d:iO s.tree j.x.path<;>simp[a,b,c,e]
  simp[a,b,c,e]
theorem ZQ(ht:TT t)(rd nx ef af:Int){nl:List Node}{pl:List Place}{tl:List aR}{jl:List Jb}{ql:List bR}{el al:List cw}{ns ps ts js qs es eO:List (List D)}(ij:ns=nl.map Node.cells)(hps:ps=pl.map Place.cells)(hts:ts=tl.map aR.cells)(gD:js=jl.map Jb.cells)(fX:qs=ql.map bR.cells)(aD:es=el.map cw.cells)(has:eO=al.map cw.cells){z:Int}(k:Nat)(hz:z=k)(hk:k<jl.length)(ji ja jb jc jd jn jp jt jf:Int)(jq:az)(jr:Bool){iv:List Term}{oE:List (List D)}(gS:oE=iv.map Term.cells)(hx:(⟨jq,⟨ja,jb,jc,jd⟩,jn,jp,jt,iv⟩:Ask).sm)(htl:tl.length<100000)(hjl:jl.length<1000000)(X6:ql.length<1000000):
 FC 54 [.agg [aA rd,aA nx,SL ns,SL ps,SL ts,SL js,SL qs,aA ef,SL es,aA af,SL eO],bf z,.agg [aA ji,ST jq,aA ja,aA jb,aA jc,aA jd,bf jn,bf jp,bf jt,SL oE,BL jr,bf jf]] [] (.ret (cA (t _ λ_=>XT ⟨rd,nx,⟨nl,pl⟩,tl,jl,ql,⟨ef,el⟩,⟨af,al⟩⟩ (mX jl k) ⟨ji,⟨jq,⟨ja,jb,jc,jd⟩,jn,jp,jt,iv⟩,jr,jf⟩))) []:=by
 subst hz;obtain⟨h1,h2,h3,h4⟩:=id hx;simp only at h1 h2 h3 h4;obtain⟨y,hy⟩:∃y,0<k->jl[k-1]?=some y:=⟨jl.getD (k-1) Jb.zero,λ_=>by rw[vam,vaj (by omega)];rfl⟩;rw[W2 hy];refine cC ht Tryz.func54 (N:=79) ?_;cbv;obtain⟨dc,dm,dG,cF,cM,ay,cG⟩:=je ij hps hts gD fX aD has;have rO:oE.length=iv.length:=by rw[gS,lgM]
 refine bE [true,true,true,true,false,false,false,false,false,true,true,true,true,true,true,false,false,false,false,false,false,false,false,false,false,true,true,true,true,true,true,true,true,true,true,false,false,false,false,false,false,true,true,true] ?_;cbv;iterate 6 refine gI (by simp[ht]) ?_
 refine pI (by simp[ht]) ?_;iterate 10 refine gI (by simp[ht]) ?_
 (refine JB ht gD (cT:=Jb.aS t) (k-1) (λg=>by simp[ht]at g ⊢;simp[g]) (λg=>by simp[ht]at g;simp only[ht];exact⟨yu (by omega) (by omega),by omega⟩) (λ_=>rfl) (λ_=>by simp only[ht,Jb.aS];rfl) (λy9 my=>?_);simp[ht]at my);cbv;iterate 3 refine gI (by simp[ht]) ?_
 refine gI (by simp[ht,ah];intros;simp_all) ?_;refine pI (by simp[ht]) ?_;iterate 2 refine gI (by simp[ht]) ?_
 refine aT (λg0=>⟨by simp[ht]at g0 ⊢;exact g0,hY,qA ht _ _ _ _ _ _ _ _ ‹_› ‹_›⟩) rfl rfl (λr1 ej=>?_);simp only[ht]at ej;cbv;refine gI (by simp[ht]) ?_;refine pI (by simp[ht];omega) ?_;iterate 6 refine gI (by simp[ht]) ?_
 refine aT (λg2=>⟨by simp[ht]at g2 ⊢;exact g2,hY,Ae ht _ ‹_› (by omega) ‹_›⟩) rfl rfl (λr3 iR=>?_);simp only[ht]at iR;cbv;refine gI (by simp[ht]) ?_;refine pI (by simp[ht];omega) ?_;apply aj<;>intro h4
 .simp[ht]at h4;cbv;refine ak ?_;(simp only[ht];grind)
 simp[ht]at h4;cbv;apply aj<;>intro h5
 .cbv;iterate 6 refine gI (by simp[ht]) ?_
  refine pI (by simp[ht]) ?_;refine ak ?_;(simp only[ht];grind)
 cbv;iterate 9 refine gI (by simp[ht]) ?_
 refine aT (λg6=>⟨by simp[ht]at g6 ⊢;exact g6,hY,QJ ht _ _ ‹_› (by omega)⟩) rfl rfl (λr7 jU=>?_);simp only[ht]at jU;cbv;refine pI (by simp[ht]) ?_;refine ak ?_;(simp only[ht];grind)
theorem QK{l:List Jb}{k:Nat}{x:Jb}(h:l[k]?=some x):iP (l.drop k)=(if x.runs then 0 else 1)+iP (l.drop (k+1)):=by rw[cu h];unfold iP;cases hx:x.runs<;>simp[hx];omega
theorem Ub(ht:TT t)(rd nx ef af:Int){nl:List Node}{pl:List Place}{tl:List aR}{jl:List Jb}{ql:List bR}{el al:List cw}{ns ps ts js qs es eO:List (List D)}(ij:ns=nl.map Node.cells)(hps:ps=pl.map Place.cells)(hts:ts=tl.map aR.cells)(gD:js=jl.map Jb.cells)(fX:qs=ql.map bR.cells)(aD:es=el.map cw.cells)(has:eO=al.map cw.cells)(hjl:jl.length<1000000):
 FC 55 [.agg [aA rd,aA nx,SL ns,SL ps,SL ts,SL js,SL qs,aA ef,SL es,aA af,SL eO]] [] (.ret (ol (t _ λ_=>(iP jl:Int)))) []:=by
 refine cC ht Tryz.func55 (N:=21) ?_;cbv;obtain⟨dc,dm,dG,cF,cM,ay,cG⟩:=je ij hps hts gD fX aD has;obtain⟨J0,dZ⟩:∃J0:Nat->Int×Int->Prop,∀n c i,J0 n (c,i)↔(∃k w:Nat,i=k/\c=w/\k+n=jl.length/\w<=k/\iP jl=w+iP (jl.drop k)):=⟨λn v=>match v with|(c,i)=>(∃k w:Nat,i=k/\c=w/\k+n=jl.length/\w<=k/\iP jl=w+iP (jl.drop k)),λ_ _ _=>Iff.rfl⟩;refine bw ⟨[3,8,9,10],[],[]⟩ (σ:=Int×Int) (λv=>[(3,.d (.int .i64 (t _ λ_=>v.1))),(10,.d (.int .i64 (t _ λ_=>v.2)))]) (λv=>[]) J0 ?_;cbv;refine aC ⟨jl.length,(_,_),(dZ _ _ _).2 ?_,by simp only[ht];rfl,?_⟩
 .exact⟨0,0,rfl,rfl,by simp,by omega,by simp⟩
 rintro n ⟨c,i⟩ hj;replace hj:=(dZ _ _ _).1 hj;obtain⟨k,w,rfl,rfl,j1,j2,j4⟩:=hj;cbv;apply aj<;>intro h1
 .simp[ht,aa,cF]at h1;cbv;refine eT ht gD (cT:=Jb.aS t) (by(simp only[ht,aa];omega)) (by(simp only[ht,aa];omega)) (λ_=>rfl) (λ_=>(by(simp only[ht,Jb.aS];rfl))) (λx2 jX=>?_);simp[ht,aa]at jX;rw[QK jX]at j4;cbv;apply aj<;>intro h3
  .simp[ht]at h3;cbv;refine bA (_,_) (by simp only[ht];rfl) (n-1) ?_ ((dZ _ _ _).2 ?_)
   .omega
   simp only[aa];(exact⟨k+1,w+1,aG (by omega),aG (by omega),by omega,by omega,by rw[j4];simp[*];omega⟩)
  simp[ht]at h3;cbv;refine bA (_,_) (by simp only[ht];rfl) (n-1) ?_ ((dZ _ _ _).2 ?_)
  .omega
  simp only[aa];(exact⟨k+1,w,aG (by omega),rfl,by omega,by omega,by rw[j4];simp[*]⟩)
 simp[ht,aa,cF]at h1;cbv;refine ak ?_;(rw[vah (by omega)]at j4;simp only[ht];rw[j4];simp[iP];done)
theorem Uc(ht:TT t)(rd nx ef af:Int){nl:List Node}{pl:List Place}{tl:List aR}{jl:List Jb}{ql:List bR}{el al:List cw}{ns ps ts js qs es eO:List (List D)}(ij:ns=nl.map Node.cells)(hps:ps=pl.map Place.cells)(hts:ts=tl.map aR.cells)(gD:js=jl.map Jb.cells)(fX:qs=ql.map bR.cells)(aD:es=el.map cw.cells)(has:eO=al.map cw.cells)(p:az)(a b c d e f g h:Int)(hjl:jl.length<1000000)(iC:∀x∈jl,x.x.path.length<1000000000000/\x.x.iI.u'):
 FC 59 [.agg [aA rd,aA nx,SL ns,SL ps,SL ts,SL js,SL qs,aA ef,SL es,aA af,SL eO],.agg [ST p,aA a,aA b,aA c,aA d,aA e,aA f,aA g,aA h]] [] (.ret (cA (t _ λ_=>sw ⟨rd,nx,⟨nl,pl⟩,tl,jl,ql,⟨ef,el⟩,⟨af,al⟩⟩ ⟨p,⟨a,b,c,d⟩,⟨e,f,g,h⟩⟩))) []:=by
 refine cC ht Tryz.func59 (N:=61) ?_;cbv;obtain⟨dc,dm,dG,cF,cM,ay,cG⟩:=je ij hps hts gD fX aD has;obtain⟨J0,dZ⟩:∃J0:Nat->Int×Int×Int×Int×Int->Prop,∀n i a' b' c' d',J0 n (i,a',b',c',d')↔(∃k:Nat,i=k/\k+n=jl.length/\oS p jl bz.zero=oS p (jl.drop k) ⟨a',b',c',d'⟩):=⟨λn v=>match v with|(i,a',b',c',d')=>(∃k:Nat,i=k/\k+n=jl.length/\oS p jl bz.zero=oS p (jl.drop k) ⟨a',b',c',d'⟩),λ_ _ _ _ _ _=>Iff.rfl⟩;refine bw ⟨[3,5,14,15,16],[],[]⟩ (σ:=Int×Int×Int×Int×Int) (λv=>[(16,.d (.int .i64 (t _ λ_=>v.1)))]) (λv=>[(1,.var [.d (.int .u64 (t _ λ_=>v.2.1)),.d (.int .u64 (t _ λ_=>v.2.2.1)),.d (.int .u64 (t _ λ_=>v.2.2.2.1)),.d (.int .u64 (t _ λ_=>v.2.2.2.2))])]) J0 ?_;cbv;refine aC ⟨jl.length,(_,_,_,_,_),(dZ _ _ _ _ _ _).2 ?_,by simp only[ht];rfl,?_⟩
 .exact⟨0,rfl,by simp,rfl⟩
 rintro n ⟨i,a',b',c',d'⟩ hj;replace hj:=(dZ _ _ _ _ _ _).1 hj;obtain⟨k,rfl,j1,j4⟩:=hj;cbv;apply aj<;>intro h1
 .simp[ht,aa,cF]at h1;cbv;refine eT ht gD (cT:=Jb.aS t) (by(simp only[ht,aa];omega)) (by(simp only[ht,aa];omega)) (λ_=>rfl) (λ_=>(by(simp only[ht,Jb.aS];rfl))) (λx2 jX=>?_);simp[ht,aa]at jX;rw[cu jX,oS]at j4;have sx2:=iC _ (vag jX)
  cbv;iterate 9 refine gI (by simp[ht]) ?_
  refine aT (λg3=>⟨by simp[ht]at g3 ⊢;exact g3,hY,DF ht _ _ (by(simp[*];done))⟩) rfl rfl (λr4 eY=>?_);simp only[ht]at eY;rw[<-eY]at j4;cbv;refine gI (by simp[ht]) ?_;refine gI (by simp[ht,ah];intros;simp_all) ?_;refine pI (by simp[ht]) ?_;apply aj<;>intro h5
  .simp[ht]at h5;cbv;refine bA (_,_,_,_,_) (by simp only[ht];rfl) (n-1) ?_ ((dZ _ _ _ _ _ _).2 ?_)
   .omega
   simp only[aa];(refine⟨k+1,aG (by omega),by omega,?_⟩;rw[j4];grind)
  simp[ht]at h5;cbv;(obtain⟨⟨⟨v1,v2,v3,v4⟩,vk⟩,hv⟩:∃r,r=eC x2.x:=⟨_,rfl⟩;refine ar (uZ ht x2.x.path x2.x.iI.a x2.x.iI.b x2.x.iI.c x2.x.iI.d x2.x.count x2.x.prio x2.x.dX (sl:=x2.x.cj) _ (iC _ (vag jX)).2) hY (λr9 dR=>?_);simp only[ht]at dR;replace dR:=dR.trans hv.symm;subst dR;rw[<-hv]at j4;simp only at j4);cbv;refine ar (OV ht _ _ _ _ _ _ _ _) hY (λr6 jK=>?_);simp only[ht]at jK;rw[<-jK]at j4;cbv;iterate 2 refine gI (by simp[ht]) ?_
  refine pI (by simp[ht]) ?_;apply aj<;>intro h7
  .simp[ht]at h7;cbv;refine ak ?_;(have e:oS p jl bz.zero=none:=(by rw[j4];grind);simp[ht,sw,e];done)
  simp[ht]at h7;cbv;refine bA (_,_,_,_,_) (by simp only[ht];rfl) (n-1) ?_ ((dZ _ _ _ _ _ _).2 ?_)
  .omega
  simp only[aa];(refine⟨k+1,aG (by omega),by omega,?_⟩;show _=oS p (jl.drop (k+1)) (r6.1);rw[j4];grind)
 simp[ht,aa,cF]at h1;cbv;refine ak ?_;(rw[vah (by omega),oS]at j4;simp only[ht,sw,j4,pi,Bool.decide_and];simp;done)
theorem QL(ht:TT t)(rd nx ef af:Int)(ns ps ts js qs es' eO:List (List D)){l:List (aR)}{es:List (List D)}(aD:es=l.map aR.cells)(f:Nat)(p:aR->Bool)(hl:l.length<9223372036854775807)
 (hf:∀x∈l,FC f [.agg [ST x.path,aA x.cU.a,aA x.cU.b,aA x.cU.c,aA x.cU.d,aA x.used.a,aA x.used.b,aA x.used.c,aA x.used.d],.ptr 0 0] [.var [aA rd,aA nx,SL ns,SL ps,SL ts,SL js,SL qs,aA ef,SL es',aA af,SL eO]] (.ret (BL (p x))) [.var [aA rd,aA nx,SL ns,SL ps,SL ts,SL js,SL qs,aA ef,SL es',aA af,SL eO]]) {r:Int} (hr:r=idxOf p l):FC 82 [SL es,.fn f [.ptr 0 0]] [.var [aA rd,aA nx,SL ns,SL ps,SL ts,SL js,SL qs,aA ef,SL es',aA af,SL eO]] (.ret (bf r)) [.var [aA rd,aA nx,SL ns,SL ps,SL ts,SL js,SL qs,aA ef,SL es',aA af,SL eO]]:=by
 have hel:es.length=l.length:=by rw[aD,lgM]
 refine kJ ht (aK:=[.var [aA rd,aA nx,SL ns,SL ps,SL ts,SL js,SL qs,aA ef,SL es',aA af,SL eO]]) Tryz.func82 rfl rfl (N:=19) rfl rfl (n:=1) rfl rfl ?_;cbv;refine bw ⟨[0,1,7,8],[],[]⟩ (σ:=Nat) (λk=>[(8,bf (t _ λ_=>(k:Int)))]) (λ_=>[]) (wL p l) ?_;cbv;refine aC ⟨l.length,0,.nil,by simp only[ht];rfl,λn k hj=>?_⟩;cbv;apply aj<;>intro h
 .simp only[ht,aa,vai]at h;have hk:k<es.length:=by omega
  obtain⟨x,hx,pM,px,hpx⟩:=hj.get (by omega);have iS:=hf x pM
  rw[<-hpx]at iS;obtain⟨nm,⟨a,b,c,d⟩,⟨e,g,u,v⟩⟩:=x;cbv;refine jG [.str nm,.int .u64 a,.int .u64 b,.int .u64 c,.int .u64 d,.int .u64 e,.int .u64 g,.int .u64 u,.int .u64 v] ?_ ?_ ?_
  .simp only[ht,aa];exact sE aD hk λ_=>rfl
  .simp[ht,aa,aD,hx]
  cbv;refine dO hY iS ?_;cbv;apply aj<;>intro hb
  .cbv;refine ak ?_;simp only[ht,aa,hr,hj.hit hx (hpx▸hb)]
  cbv;refine aC ⟨n-1,k+1,⟨hj.lt hx,hj.next hx (hpx▸hb)⟩,?_⟩;simp only[ht,aa,aG (show k<9223372036854775807 by omega)];rfl
 simp only[ht,aa,vap]at h;have hk:l.length<=k:=by omega
 clear h;cbv;refine ak ?_;rw[hr,hj.none hk]
theorem QM(ht:TT t)(rd nx ef af:Int)(ns ps ts js qs es' eO:List (List D)){l:List (aR)}{es:List (List D)}(aD:es=l.map aR.cells)(f:Nat)(p:aR->Bool)(hl:l.length<9223372036854775807)
 (hf:∀x∈l,FC f [.agg [ST x.path,aA x.cU.a,aA x.cU.b,aA x.cU.c,aA x.cU.d,aA x.used.a,aA x.used.b,aA x.used.c,aA x.used.d],.ptr 0 0] [.var [aA rd,aA nx,SL ns,SL ps,SL ts,SL js,SL qs,aA ef,SL es',aA af,SL eO]] (.ret (BL (p x))) [.var [aA rd,aA nx,SL ns,SL ps,SL ts,SL js,SL qs,aA ef,SL es',aA af,SL eO]]) {r:Bool} (hr:r=l.any p):FC 57 [SL es,.fn f [.ptr 0 0]] [.var [aA rd,aA nx,SL ns,SL ps,SL ts,SL js,SL qs,aA ef,SL es',aA af,SL eO]] (.ret (BL r)) [.var [aA rd,aA nx,SL ns,SL ps,SL ts,SL js,SL qs,aA ef,SL es',aA af,SL eO]]:=by
 obtain⟨k,hk⟩:∃k,k=idxOf p l:=⟨_,rfl⟩;refine kJ ht (aK:=[.var [aA rd,aA nx,SL ns,SL ps,SL ts,SL js,SL qs,aA ef,SL es',aA af,SL eO]]) Tryz.func57 rfl rfl (N:=9) rfl rfl (n:=1) rfl rfl ?_;cbv;refine dO hY (QL ht rd nx ef af ns ps ts js qs es' eO aD f p hl hf hk) ?_;cbv;refine ak ?_;simp only[ht,hr,fL,hk]
theorem Nr(ht:TT t)(rd nx ef af:Int){nl:List Node}{pl:List Place}{tl:List aR}{jl:List Jb}{ql:List bR}{el al:List cw}{ns ps ts js qs es eO:List (List D)}(ij:ns=nl.map Node.cells)(hps:ps=pl.map Place.cells)(hts:ts=tl.map aR.cells)(gD:js=jl.map Jb.cells)(fX:qs=ql.map bR.cells)(aD:es=el.map cw.cells)(has:eO=al.map cw.cells)(p:az)(a b c d e f g h:Int)(hjl:jl.length<1000000)(iC:∀x∈jl,x.x.path.length<1000000000000/\x.x.iI.u'){r:Bool}(hr:r=!sw ⟨rd,nx,⟨nl,pl⟩,tl,jl,ql,⟨ef,el⟩,⟨af,al⟩⟩ ⟨p,⟨a,b,c,d⟩,⟨e,f,g,h⟩⟩):
 FC 58 [.agg [ST p,aA a,aA b,aA c,aA d,aA e,aA f,aA g,aA h],.ptr 0 0] [.var [aA rd,aA nx,SL ns,SL ps,SL ts,SL js,SL qs,aA ef,SL es,aA af,SL eO]] (.ret (BL r)) [.var [aA rd,aA nx,SL ns,SL ps,SL ts,SL js,SL qs,aA ef,SL es,aA af,SL eO]]:=by
 refine kJ ht (aK:=[.var [aA rd,aA nx,SL ns,SL ps,SL ts,SL js,SL qs,aA ef,SL es,aA af,SL eO]]) Tryz.func58 rfl rfl (N:=8) rfl rfl (n:=1) rfl rfl ?_;cbv;obtain⟨dc,dm,dG,cF,cM,ay,cG⟩:=je ij hps hts gD fX aD has;refine ar (Uc ht _ _ _ _ ‹_› ‹_› ‹_› ‹_› ‹_› ‹_› ‹_› _ _ _ _ _ _ _ _ _ ‹_› ‹_›) hY (λr0 bM=>?_);simp only[ht]at bM;cbv;refine ak ?_;(simp[*];done)
theorem QN(ht:TT t)(rd nx ef af:Int){nl:List Node}{pl:List Place}{tl:List aR}{jl:List Jb}{ql:List bR}{el al:List cw}{ns ps ts js qs es eO:List (List D)}(ij:ns=nl.map Node.cells)(hps:ps=pl.map Place.cells)(hts:ts=tl.map aR.cells)(gD:js=jl.map Jb.cells)(fX:qs=ql.map bR.cells)(aD:es=el.map cw.cells)(has:eO=al.map cw.cells)(htl:tl.length<100000)(hjl:jl.length<1000000)(iC:∀x∈jl,x.x.path.length<1000000000000/\x.x.iI.u'){r:Bool}(hr:r=tl.any λe=>!sw ⟨rd,nx,⟨nl,pl⟩,tl,jl,ql,⟨ef,el⟩,⟨af,al⟩⟩ e):
 FC 57 [SL ts,.fn 58 [.ptr 0 0]] [.var [aA rd,aA nx,SL ns,SL ps,SL ts,SL js,SL qs,aA ef,SL es,aA af,SL eO]] (.ret (BL r)) [.var [aA rd,aA nx,SL ns,SL ps,SL ts,SL js,SL qs,aA ef,SL es,aA af,SL eO]]:=
 QM ht rd nx ef af ns ps ts js qs es eO hts 58 (λe=>!sw ⟨rd,nx,⟨nl,pl⟩,tl,jl,ql,⟨ef,el⟩,⟨af,al⟩⟩ e) (by omega) (λx _=>Nr ht rd nx ef af ij hps hts gD fX aD has x.path x.cU.a x.cU.b x.cU.c x.cU.d x.used.a x.used.b x.used.c x.used.d hjl iC rfl) hr
structure cI.sm (s:cI):Prop where
 nodes:s.bt.nodes.length<1000000/\∀x∈s.bt.nodes,x.sm
 places:s.bt.places.length<1000000
 tree:s.tree.length<100000/\∀x∈s.tree,x.path.length<1000000000000
 aJ:s.aJ.length<1000000/\∀x∈s.aJ,x.x.sm/\(0<=x.id/\x.id<18446744073709551616)/\x.x.count<9223372036854775808
 queue:s.queue.length<1000000
 notes:s.ev.l.length<1000000/\s.au.l.length<1000000
theorem Ns{s:cI}{k:Nat}{x:Jb}(hx:s.aJ[k]?=some x):ot s (mX s.aJ k) (s.aJ.drop k)=(XT s (mX s.aJ k) x&&ot s (mX s.aJ (k+1)) (s.aJ.drop (k+1))):=by
 rw[cu hx,ot];have:mX s.aJ (k+1)=some x.id:=by simp[mX,hx]
 rw[this]
theorem ZR{s:cI}(h:((((mQ s.bt=false∨ic s.tree=false)∨pE s.queue=false)∨(32:Int)<(s.aJ.length:Int))∨s.next<1)∨(32:Int)<max (s.ev.l.length:Int) (s.au.l.length:Int)):gR s=false:=by
 unfold gR;rcases h with((((h|h)|h)|h)|h)|h
 .rw[h];rfl
 .rw[h];split<;>rfl
 .rw[h];split;rfl;split<;>rfl
 .rw[if_pos (show 32<s.aJ.length by omega)];split;rfl;split;rfl;split<;>rfl
 .rw[if_pos h];split;rfl;split;rfl;split;rfl;split<;>rfl
 rw[if_pos (show 32<max s.ev.l.length s.au.l.length by omega)];split;rfl;split;rfl;split;rfl;split;rfl;split<;>rfl
theorem ZS{s:cI}(h:ot s none s.aJ=false):gR s=false:=by unfold gR;rw[h];split;rfl;split;rfl;split;rfl;split;rfl;split;rfl;split<;>rfl
theorem ZT{a b c:Bool}:(bif (bif a then b else false)then c else false)=(a&&b&&c):=by cases a<;>cases b<;>rfl
theorem ZU{a b:Nat}:decide ((a:Int)=(b:Int))=decide (a=b):=by rw[decide_eq_decide];omega
theorem W3{s:cI}(h:((((mQ s.bt=true/\ic s.tree=true)/\pE s.queue=true)/\(s.aJ.length:Int)<=(32:Int))/\1<=s.next)/\max (s.ev.l.length:Int) (s.au.l.length:Int)<=(32:Int))(hj:ot s none s.aJ=true):
 gR s=(decide (iP s.aJ=s.queue.length)&&ny s&&!(s.tree.any λe=>!sw s e)):=by
 obtain⟨⟨⟨⟨⟨h1,h2⟩,h3⟩,h4⟩,h5⟩,h6⟩:=h;unfold gR;rw[h1,h2,h3,hj];simp only[Bool.not_true,Bool.false_eq_true,if_false];rw[if_neg (by omega),if_neg (by omega),if_neg (by omega)]
theorem rU(ht:TT t)(rd nx ef af:Int){nl:List Node}{pl:List Place}{tl:List aR}{jl:List Jb}{ql:List bR}{el al:List cw}{ns ps ts js qs es eO:List (List D)}(ij:ns=nl.map Node.cells)(hps:ps=pl.map Place.cells)(hts:ts=tl.map aR.cells)(gD:js=jl.map Jb.cells)(fX:qs=ql.map bR.cells)(aD:es=el.map cw.cells)(has:eO=al.map cw.cells)(hs:(⟨rd,nx,⟨nl,pl⟩,tl,jl,ql,⟨ef,el⟩,⟨af,al⟩⟩:cI).sm):
 FC 18 [.agg [aA rd,aA nx,SL ns,SL ps,SL ts,SL js,SL qs,aA ef,SL es,aA af,SL eO]] [] (.ret (cA (t _ λ_=>gR ⟨rd,nx,⟨nl,pl⟩,tl,jl,ql,⟨ef,el⟩,⟨af,al⟩⟩))) []:=by
 obtain⟨⟨s1,s2⟩,s3,⟨s4,s5⟩,⟨s6,s7⟩,s8,s9,s10⟩:=id hs;simp only at s1 s2 s3 s4 s5 s6 s7 s8 s9 s10;have s11:∀x∈jl,x.x.path.length<1000000000000/\x.x.iI.u':=λx hx=>⟨(s7 x hx).1.1,(s7 x hx).1.2.1⟩
 have s12:∀x∈jl,(0<=x.id/\x.id<18446744073709551616)/\x.x.count<9223372036854775808:=λx hx=>⟨(s7 x hx).2.1,(s7 x hx).2.2⟩;refine cC ht Tryz.func18 (N:=78) ?_;cbv;obtain⟨dc,dm,dG,cF,cM,ay,cG⟩:=je ij hps hts gD fX aD has;refine ar (Fu ht ‹_› ‹_› (by omega) (by omega) ‹_›) hY (λr0 bM=>?_);simp only[ht]at bM;cbv;iterate 2 refine gI (by simp[ht]) ?_
 refine aT (λg1=>⟨by simp[ht]at g1 ⊢;exact g1,hY,FF ht ‹_› ‹_› ‹_›⟩) rfl rfl (λr2 dj=>?_);simp only[ht]at dj;cbv;refine gI (by simp[ht]) ?_;refine pI (by simp[ht]) ?_;iterate 2 refine gI (by simp[ht]) ?_
 refine aT (λg3=>⟨by simp[ht]at g3 ⊢;exact g3,hY,QC ht ‹_› ‹_›⟩) rfl rfl (λr4 eY=>?_);simp only[ht]at eY;cbv;refine gI (by simp[ht]) ?_;refine pI (by simp[ht]) ?_;iterate 4 refine gI (by simp[ht]) ?_
 refine pI (by simp[ht]) ?_;iterate 3 refine gI (by simp[ht]) ?_
 refine pI (by simp[ht]) ?_;iterate 10 refine gI (by simp[ht]) ?_
 refine pI (by simp[ht]) ?_;apply aj<;>intro h5
 .simp[ht,aa,cF,ay,cG]at h5;cbv;refine ak ?_;(simp only[ht];rw[ZR (by simp only[<-bM,<-dj,<-eY];exact h5)];done)
 simp[ht,aa,cF,ay,cG]at h5;cbv;obtain⟨J6,HU⟩:∃J6:Nat->Int->Prop,∀n i,J6 n i↔(∃k:Nat,i=k/\k+n=jl.length/\ot ⟨rd,nx,⟨nl,pl⟩,tl,jl,ql,⟨ef,el⟩,⟨af,al⟩⟩ none jl=ot ⟨rd,nx,⟨nl,pl⟩,tl,jl,ql,⟨ef,el⟩,⟨af,al⟩⟩ (mX jl k) (jl.drop k)):=⟨λn v=>match v with|i=>(∃k:Nat,i=k/\k+n=jl.length/\ot ⟨rd,nx,⟨nl,pl⟩,tl,jl,ql,⟨ef,el⟩,⟨af,al⟩⟩ none jl=ot ⟨rd,nx,⟨nl,pl⟩,tl,jl,ql,⟨ef,el⟩,⟨af,al⟩⟩ (mX jl k) (jl.drop k)),λ_ _=>Iff.rfl⟩;refine bw ⟨[1,3,48,49,50],[],[]⟩ (σ:=Int) (λv=>[(50,.d (.int .i64 (t _ λ_=>v)))]) (λv=>[]) J6 ?_;cbv;refine aC ⟨jl.length,_,(HU _ _).2 ?_,by simp only[ht];rfl,?_⟩
 .exact⟨0,rfl,by simp,rfl⟩
 rintro n i hj;replace hj:=(HU _ _).1 hj;obtain⟨k,rfl,j1,j4⟩:=hj;cbv;apply aj<;>intro h7
 .simp[ht,aa,cF]at h7;cbv;refine eT ht gD (cT:=Jb.aS t) (by(simp only[ht,aa];omega)) (by(simp only[ht,aa];omega)) (λ_=>rfl) (λ_=>(by(simp only[ht,Jb.aS];rfl))) (λx8 mx8=>?_);simp[ht,aa]at mx8;have j5:=Ns (s:=⟨rd,nx,⟨nl,pl⟩,tl,jl,ql,⟨ef,el⟩,⟨af,al⟩⟩) mx8
  simp only at j5;rw[j5]at j4;have sx8:=(s7 _ (vag mx8)).1
  cbv;refine ar (ZQ ht _ _ _ _ ‹_› ‹_› ‹_› ‹_› ‹_› ‹_› ‹_› _ (by(simp only[ht];rfl)) ‹_› _ _ _ _ _ _ _ _ _ _ _ (lm ht rfl) ‹_› ‹_› ‹_› ‹_›) hY (λr9 dR=>?_);simp only[ht]at dR;(have e9:XT ⟨rd,nx,⟨nl,pl⟩,tl,jl,ql,⟨ef,el⟩,⟨af,al⟩⟩ (mX jl k) x8=r9:=(dR).symm;rw[e9]at j4);cbv;apply aj<;>intro h10
  .simp[ht]at h10;cbv;refine ak ?_;(simp only[ht];rw[ZS (by rw[j4,h10];rfl)];done)
  simp[ht]at h10;cbv;refine bA _ (by simp only[ht];rfl) (n-1) ?_ ((HU _ _).2 ?_)
  .omega
  simp only[aa];exact⟨k+1,aG (by omega),by omega,by rw[j4,h10];rfl⟩
 simp[ht,aa,cF]at h7;cbv;refine bE [false,false,false,false,false,true,true,true,true,true,true,false,false,false,true,true,true,true] ?_;cbv;refine gI (by simp) ?_;refine .inl ?_;refine aT (λg11=>⟨hY,hY,Ub ht _ _ _ _ ‹_› ‹_› ‹_› ‹_› ‹_› ‹_› ‹_› ‹_›⟩) rfl rfl (λZn qx=>?_);simp only[ht]at qx;cbv;iterate 3 refine gI (by simp) ?_
 refine gI (by simp[ht]) ?_;refine aT (λg13=>⟨by simp[ht]at g13 ⊢;exact g13,hY,QI ht _ _ _ _ ‹_› ‹_› ‹_› ‹_› ‹_› ‹_› ‹_› ‹_› ‹_› ‹_›⟩) rfl rfl (λZo qy=>?_);simp only[ht]at qy;cbv;refine pI (by simp[ht]) ?_;iterate 3 refine gI (by simp[ht]) ?_
 (obtain⟨r19,ab7⟩:∃r,r=tl.any (λe=>!sw ⟨rd,nx,⟨nl,pl⟩,tl,jl,ql,⟨ef,el⟩,⟨af,al⟩⟩ e):=⟨_,rfl⟩;refine VK [true,false] [1] (λg=>⟨⟨g,g,hY⟩,hY,QN ht rd nx ef af ij hps hts gD fX aD has s4 s6 s11 ab7⟩) rfl rfl rfl (.inl rfl) rfl rfl rfl rfl ?_);cbv;refine gI (by simp[ht]) ?_;refine pI (by simp[ht]) ?_;refine ak ?_;(rw[vah (by omega),ot]at j4;simp only[ht];rw[W3 (by simp only[<-bM,<-dj,<-eY];exact h5) j4];simp only[qx,qy,ab7,cM,ZT,ZU];done)
theorem KX(ht:TT t)(rd nx ef af p:Int)(ns ps ts js qs es eO:List (List D))(ok:Bool)(s:az):FDR 25 [.ptr 0 0,.ptr 1 0] [.var [aA rd,aA nx,SL ns,SL ps,SL ts,SL js,SL qs,aA ef,SL es,aA af,SL eO],.var [BL ok],.var [ST s,bf p]] (.ret (.c5 [])) [.var [aA rd,aA nx,SL ns,SL ps,SL ts,SL js,SL qs,aA ef,SL es,aA af,SL eO],.var [BL ok],.var [ST s,bf p]]:=by refine Y9 ht (aK:=[.var [aA rd,aA nx,SL ns,SL ps,SL ts,SL js,SL qs,aA ef,SL es,aA af,SL eO],.var [BL ok],.var [ST s,bf p]]) Tryz.func25 rfl rfl (N:=11) rfl rfl (n:=3) rfl rfl rfl ?_;cbv;refine p9 rfl ?_;cbv;exact ak rfl
theorem W4(ht:TT t)(s:az){p1 p2 p3 p4 p5 p6 p7 c e:Int}(rd nx ef af:Int){nl:List Node}{pl:List Place}{tl:List aR}{jl:List Jb}{ql:List bR}{el al:List cw}{ns ps ts js qs es eO:List (List D)}(ij:ns=nl.map Node.cells)(hps:ps=pl.map Place.cells)(hts:ts=tl.map aR.cells)(gD:js=jl.map Jb.cells)(fX:qs=ql.map bR.cells)(aD:es=el.map cw.cells)(has:eO=al.map cw.cells)(hs:s.length<9223372036854775000)(hq:ql=[])(he:e=s.length)
 (g1:aV s 0=⟨rd,p1,true⟩) (g2:aV s p1=⟨nx,p2,true⟩) (g3:tK s p2=⟨⟨nl,pl⟩,p3,true⟩) (l3:p3<=s.length) (g4:pG s p3=⟨tl,p4,true⟩) (l4:p4<=s.length)
 (g5:aV s p4=⟨c,p5,true⟩) (g6:lV s c.toNat [] p5=some (jl,p6)) (g7:fB s p6=some (⟨ef,el⟩,p7)) (g8:fB s p7=some (⟨af,al⟩,e))
 (iC:(⟨rd,nx,⟨nl,pl⟩,tl,jl,ql,⟨ef,el⟩,⟨af,al⟩⟩:cI).sm) (hr:gR ⟨rd,nx,⟨nl,pl⟩,tl,jl,ql,⟨ef,el⟩,⟨af,al⟩⟩=true):
 FC 7 [ST s] [] (.ret (.c5 [.agg [aA rd,aA nx,SL ns,SL ps,SL ts,SL js,SL qs,aA ef,SL es,aA af,SL eO],BL true])) []:=by
 have h6:=iC.aJ;have h7:=iC.notes
 simp only at h6 h7;refine Wg ht (aK:=[]) Tryz.func7 rfl rfl (N:=25) rfl rfl (n:=0) rfl rfl rfl ?_;cbv;obtain⟨dc,dm,dG,cF,cM,ay,cG⟩:=je ij hps hts gD fX aD has;(refine aW [2] hY rfl rfl (Qx ht s rd nx ef af ij hps hts gD fX aD has hs (by decide) hq g1 g2 g3 l3 g4 l4 g5 g6 h6.1 (λj hj=>(h6.2 j hj).1) g7 h7.1 g8 h7.2) (aH ?_));cbv;refine gI (by simp[ht]) ?_;refine aT (λg0=>⟨by simp[ht]at g0 ⊢;exact g0,hY,rU ht _ _ _ _ ‹_› ‹_› ‹_› ‹_› ‹_› ‹_› ‹_› ‹_›⟩) rfl rfl (λr1 ej=>?_);simp only[ht]at ej;(rw[hr]at ej;subst ej);cbv;refine gI (by simp[ht]) ?_;refine pI (by simp[ht]) ?_;apply aj<;>intro h2
 .simp[ht,aa]at h2;contradiction
 simp[ht,aa]at h2;cbv;(refine C2 (KX ht _ _ _ _ _ _ _ _ _ _ _ _ _ _) ?_);cbv;refine ak ?_;rfl
abbrev ZST:AV:=.agg [aA 0,aA 0,SL [],SL [],SL [],SL [],SL [],aA 0,SL [],aA 0,SL []]
theorem Ud(ht:TT t)(s:az){p1 p2 p3 p4 p5 p6 p7 c e:Int}(rd nx ef af:Int){nl:List Node}{pl:List Place}{tl:List aR}{jl:List Jb}{ql:List bR}{el al:List cw}{ns ps ts js qs es eO:List (List D)}(ij:ns=nl.map Node.cells)(hps:ps=pl.map Place.cells)(hts:ts=tl.map aR.cells)(gD:js=jl.map Jb.cells)(fX:qs=ql.map bR.cells)(aD:es=el.map cw.cells)(has:eO=al.map cw.cells)(hs:s.length<9223372036854775000)(he:e=s.length)
 (g1:aV s 0=⟨rd,p1,true⟩) (g2:aV s p1=⟨nx,p2,true⟩) (g3:tK s p2=⟨⟨nl,pl⟩,p3,true⟩) (l3:p3<=s.length) (g4:pG s p3=⟨tl,p4,true⟩) (l4:p4<=s.length)
 (g5:aV s p4=⟨c,p5,true⟩) (g6:gT s c.toNat [] [] p5=some (jl,ql,p6)) (g7:fB s p6=some (⟨ef,el⟩,p7)) (g8:fB s p7=some (⟨af,al⟩,e))
 (iC:(⟨rd,nx,⟨nl,pl⟩,tl,jl,ql,⟨ef,el⟩,⟨af,al⟩⟩:cI).sm) (hr:gR ⟨rd,nx,⟨nl,pl⟩,tl,jl,ql,⟨ef,el⟩,⟨af,al⟩⟩=true):
 FC 7 [ST s] [] (.ret (.c5 [.agg [aA rd,aA nx,SL ns,SL ps,SL ts,SL js,SL qs,aA ef,SL es,aA af,SL eO],BL true])) []:=by
 have h6:=iC.aJ;have h7:=iC.notes
 simp only at h6 h7;refine Wg ht (aK:=[]) Tryz.func7 rfl rfl (N:=25) rfl rfl (n:=0) rfl rfl rfl ?_;cbv;obtain⟨dc,dm,dG,cF,cM,ay,cG⟩:=je ij hps hts gD fX aD has;(refine aW [2] hY rfl rfl (DL ht s rd nx ef af ij hps hts gD fX aD has hs (by decide) g1 g2 g3 l3 g4 l4 g5 g6 h6.1 (λj hj=>(h6.2 j hj).1) g7 h7.1 g8 h7.2) (aH ?_));cbv;refine gI (by simp[ht,ah]) ?_;refine aT (λg0=>⟨by simp[ht]at g0 ⊢;exact g0,hY,rU ht _ _ _ _ ‹_› ‹_› ‹_› ‹_› ‹_› ‹_› ‹_› ‹_›⟩) rfl rfl (λr1 ej=>?_);simp only[ht]at ej;(rw[hr]at ej;subst ej);cbv;refine gI (by simp[ht,ah]) ?_;refine pI (by simp[ht,ah]) ?_;apply aj<;>intro h2
 .simp[ht,aa,dc,dm,dG,cF,cM,ay,cG]at h2;contradiction
 simp[ht,aa,dc,dm,dG,cF,cM,ay,cG]at h2;cbv;(refine C2 (KX ht _ _ _ _ _ _ _ _ _ _ _ _ _ _) ?_);cbv;refine ak ?_;rfl
theorem Ue(ht:TT t)(s:az)(p:Int)(ok:Bool):FDR 25 [.ptr 0 0,.ptr 1 0] [.var [aA 0,aA 0,.cl [],.cl [],.cl [],.cl [],.cl [],aA 0,.cl [],aA 0,.cl []],.var [BL ok],.var [ST s,bf p]] (.ret (.c5 [])) [.var [aA 0,aA 0,.cl [],.cl [],.cl [],.cl [],.cl [],aA 0,.cl [],aA 0,.cl []],.var [BL ok],.var [ST s,bf p]]:=by refine Y9 ht (aK:=[.var [aA 0,aA 0,.cl [],.cl [],.cl [],.cl [],.cl [],aA 0,.cl [],aA 0,.cl []],.var [BL ok],.var [ST s,bf p]]) Tryz.func25 rfl rfl (N:=11) rfl rfl (n:=3) rfl rfl rfl ?_;cbv;refine p9 rfl ?_;cbv;exact ak rfl
theorem Uf(ht:TT t)(s:az){p1 p2 p3 p4 p5 p6 p7 c e:Int}(rd nx ef af:Int){nl:List Node}{pl:List Place}{tl:List aR}{jl:List Jb}{ql:List bR}{el al:List cw}{ns ps ts js qs es eO:List (List D)}(ij:ns=nl.map Node.cells)(hps:ps=pl.map Place.cells)(hts:ts=tl.map aR.cells)(gD:js=jl.map Jb.cells)(fX:qs=ql.map bR.cells)(aD:es=el.map cw.cells)(has:eO=al.map cw.cells)(hs:s.length<9223372036854775000)(he:e≠s.length)
 (g1:aV s 0=⟨rd,p1,true⟩) (g2:aV s p1=⟨nx,p2,true⟩) (g3:tK s p2=⟨⟨nl,pl⟩,p3,true⟩) (l3:p3<=s.length) (g4:pG s p3=⟨tl,p4,true⟩) (l4:p4<=s.length)
 (g5:aV s p4=⟨c,p5,true⟩) (g6:gT s c.toNat [] [] p5=some (jl,ql,p6)) (g7:fB s p6=some (⟨ef,el⟩,p7)) (g8:fB s p7=some (⟨af,al⟩,e))
 (iC:(⟨rd,nx,⟨nl,pl⟩,tl,jl,ql,⟨ef,el⟩,⟨af,al⟩⟩:cI).sm):
 FC 7 [ST s] [] (.ret (.c5 [ZST,BL false])) []:=by
 have h6:=iC.aJ;have h7:=iC.notes
 simp only at h6 h7;refine Wg ht (aK:=[]) Tryz.func7 rfl rfl (N:=25) rfl rfl (n:=0) rfl rfl rfl ?_;cbv;obtain⟨dc,dm,dG,cF,cM,ay,cG⟩:=je ij hps hts gD fX aD has;(refine aW [2] hY rfl rfl (DL ht s rd nx ef af ij hps hts gD fX aD has hs (by decide) g1 g2 g3 l3 g4 l4 g5 g6 h6.1 (λj hj=>(h6.2 j hj).1) g7 h7.1 g8 h7.2) (aH ?_));cbv;refine gI (by simp[ht,ah]) ?_;(refine aT (E:=cA) (r0:=t _ λ_=>true) (λg9=>by exfalso;simp[ht,he]at g9) rfl rfl (λr7 jU=>?_));cbv;refine gI (by simp[ht,ah]) ?_;refine pI (by simp[ht,ah]) ?_;apply aj<;>intro h0
 .simp[ht,aa,dc,dm,dG,cF,cM,ay,cG]at h0;cbv;(refine C2 (Ue ht _ _ _) ?_);cbv;refine ak ?_;rfl
 simp[ht,aa,dc,dm,dG,cF,cM,ay,cG]at h0;(simp only[aa]at*;omega)
theorem Ug(ht:TT t):FDP 25 [.ptr 0 0,.ptr 1 0] [.var [aA 0,aA 0,.cl [],.cl [],.cl [],.cl [],.cl [],aA 0,.cl [],aA 0,.cl []],.var [BL false],.dead] Qy [.var [aA 0,aA 0,.cl [],.cl [],.cl [],.cl [],.cl [],aA 0,.cl [],aA 0,.cl []],.var [BL false],.dead]:=by
 refine ZE ht (aK:=[.var [aA 0,aA 0,.cl [],.cl [],.cl [],.cl [],.cl [],aA 0,.cl [],aA 0,.cl []],.var [BL false],.dead]) Tryz.func25 rfl rfl (N:=11) rfl rfl (n:=3) rfl rfl rfl ?_;cbv;apply aj<;>intro h0
 .simp[ht,aa]at h0;cbv;refine ak ?_;rfl
 simp[ht,aa]at h0
theorem Uh(ht:TT t)(s:az)(hs:s.length<9223372036854775000)(hA:yW s 0):
 FC 7 [ST s] [] (.ret (.c5 [ZST,BL false])) []:=by
 refine abX ht 4 (aK:=[]) Tryz.func7 rfl rfl (N:=25) rfl rfl (n:=0) rfl rfl rfl ?_;cbv;(refine bU [2] hY rfl rfl (Nk ht s hs (by decide) hA) (bK ?_));cbv;(refine Hs (Ug ht) ?_);cbv;refine ak ?_;rfl
end Dem
end
