/- Parts of a proof, joined. -/
import Derived.Test.YtmlnckcbblcbbaaGreatDoorW07
set_option linter.all false
set_option maxRecDepth 100000
set_option maxHeartbeats 4000000
section
open Go Dem Go.Proofs
namespace Dem
variable {t:Th}
theorem OS(ht:TT t)(s:az)(hs:s.length<1000000000000):FC 96 [ST s] [] (.ret (.ow 0 1 (t _ λ_=>((om s).map bp).length))) [.row 1 (t _ λ_=>(om s).map bp)]:=by
 have hp:=lF s;refine cC ht Tryz.func96 (N:=22) ?_;cbv;refine aM (yR ht _ ‹_›) hY (λr0 bM=>?_);simp only[ht]at bM;have hrl:(r0).length=(parts s).length:=by rw[bM]
 cbv;obtain⟨J1,iB⟩:∃J1:Nat->List (List D)×Int->Prop,∀n u i,J1 n (u,i)↔(∃k:Nat,i=k/\k+n=(parts s).length/\u=((om s).take k).map bp):=⟨λn v=>match v with|(u,i)=>(∃k:Nat,i=k/\k+n=(parts s).length/\u=((om s).take k).map bp),λ_ _ _=>Iff.rfl⟩;refine bw ⟨[0,3,7,8],[(3,1)],[]⟩ (σ:=List (List D)×Int) (λv=>[(3,.ow 0 1 (t _ λ_=>(v.1).length)),(8,.d (.int .i64 (t _ λ_=>v.2)))]) (λv=>[(0,.row 1 (t _ λ_=>v.1))]) J1 ?_;cbv;refine aC ⟨(parts s).length,([],_),(iB _ _ _).2 ?_,by simp only[ht];rfl,?_⟩
 .exact⟨0,rfl,by simp,rfl⟩
 rintro n ⟨u,i⟩ hj;replace hj:=(iB _ _ _).1 hj;obtain⟨k,rfl,j1,j4⟩:=hj;cbv;apply aj<;>intro h2
 .simp[ht,aa]at h2;cbv;refine aM (yR ht _ ‹_›) hY (λr3 iR=>?_);simp only[ht]at iR;have hrl:(r3).length=(parts s).length:=by rw[iR]
  cbv;refine⟨?_,?_⟩
  ·(simp only[ht];refine⟨?_,λr hr=>by obtain⟨y,_,rfl⟩:=List.mem_map.1 hr;rfl⟩;rw[aG (by omega)];simp only[b9];rw[lgM];omega)
  cbv;(refine ar (OP ht (l:=r3.take (k+1)) (by simp only[ht,gZ];rw[aG (by omega),List.map_take];rfl) (by simp;omega) (by rw[iR];exact Nat.le_trans (Fc s (k+1)) (by omega))) hY (λr4 eY=>?_);simp only[ht]at eY;rw[iR]at eY);cbv;refine⟨?_,?_⟩
  ·(simp only[ht];grind)
  cbv;refine bA (_,_) (by simp only[ht,<-vaa];rfl) (n-1) ?_ ((iB _ _ _).2 ?_)
  .omega
  simp only[aa];exact⟨k+1,aG (by omega),by omega,by rw[Fe (by omega),j4,<-eY];simp⟩
 simp[ht,aa]at h2;cbv;refine GA hY rfl rfl rfl rfl ?_ ?_
 ·(simp[ht,j4,vao (show(om s).length<=k by rw[iX];omega)];done)
 (simp[ht,j4,vao (show(om s).length<=k by rw[iX];omega)];done)
theorem Hg(ht:TT t){es:List (List D)}{x:D}{row:List D}{i n c:Nat}(hn:n=es.length)(hi:i<=n)(hc:n<=c)(hc0:n=0->c=0)(aD:∀r∈es,r.length=1)(hrow:(x::row).length=1)(hs:n<1000000){r:List (List D)}(hr:r=es.take i++(x::row)::es.drop i):
 FC 181 [.vw 0 1 0 n c true,bf (i:Int),SL [x::row]] [.row 1 es] (.ret (SL r)) [.dead]:=by
 obtain⟨n1,LR⟩:∃n1,n1=n+1:=⟨_,rfl⟩;obtain⟨i1,hi1⟩:∃i1,i1=i+1:=⟨_,rfl⟩;obtain⟨ni,hni⟩:∃ni,ni=n-i:=⟨_,rfl⟩;obtain⟨ci,wM⟩:∃ci,ci=c-i:=⟨_,rfl⟩;obtain⟨Bw,Tb⟩:∃Bw,Bw=c-i1:=⟨_,rfl⟩;obtain⟨rM,wN⟩:∃rM,rM=n1-i:=⟨_,rfl⟩;have hW:∀P:Prop,((IntKind.i64.wrap ((n:Int)+1)=(n1:Int))->(IntKind.i64.wrap ((n1:Int)-(i:Int))=(rM:Int))->(IntKind.i64.wrap ((i:Int)+1)=(i1:Int))->P)->P:=
  λP h=>h (by rw[wrap64 (by omega) (by omega)];omega) (by rw[wrap64 (by omega) (by omega)];omega) (by rw[wrap64 (by omega) (by omega)];omega)
 have hrl:r.length=n1:=by rw[hr,vaa,List.length_cons,vav,vaw];omega
 have Za:n≠0->FC 210 [SL [x::row],.vw 0 1 i1 ni Bw true] [.row 1 es] (.ret (BL false)) [.row 1 es]:=λh0=>
  jw HQ Tryz.func210 rfl rfl rfl rfl (tS:=56) (tR:=4) rfl rfl (by intro h;rw[h]at hn;exact h0 hn)
 refine kJ ht (aK:=[.row 1 es]) Tryz.func181 rfl rfl (N:=95) rfl rfl (n:=1) rfl rfl ?_;cbv;refine cq (.vw 0 1 i ni ci true) [.row 1 es] ?_ ?_ rfl ?_
 .simp[ht,eX,b9];omega
 .simp[ht,bc,aY,hni,wM]
 cbv;refine p9 (by simp[ht]) ?_;cbv;apply aj<;>intro h
 .have hin:i=n:=by simp[ht,aa]at h;omega
  clear h;cbv;refine cq (.ow 1 1 n1) [.dead,.row 1 r] ?_ ?_ ?_ ?_
  .simp only[ht];refine⟨⟨hn,by simp;omega,?_⟩,rfl,hn,λh=>⟨hc0 (by rw[hn,h];rfl),rfl⟩⟩;intro r hr;rcases List.mem_append.1 hr with hr|hr
   .exact aD r hr
   simp at hr;subst hr;exact hrow
  .simp[ht,LR,hn]
  .simp only[ht];rw[hr];have:i=es.length:=by omega
   subst this;simp
  cbv;refine ia hY ?_ rfl rfl rfl rfl;simp only[ht];exact hrl.symm
 have hin:i<n:=by simp[ht,aa]at h;omega
 clear h;have wK:r=(r.drop 0).take n1:=by rw[List.drop_zero,vao (by omega)]
 cbv;apply aj<;>intro h2
 .have Zb:c=n:=by refine hW _ λe1 e2 e3=>?_;simp[ht,aa,e1]at h2;omega
  clear h2;obtain⟨L,hL⟩:∃L:List (List D),L=es.take i++List.replicate (es.length+1-i) [D.str []]:=⟨_,rfl⟩;have Lq:L.length=n1:=by rw[hL];simp;omega
  obtain⟨L1,wO⟩:∃L1,L1=wrote L i [x::row]:=⟨_,rfl⟩;have ou:L1.length=n1:=by rw[wO];simp[wrote,Lq];omega
  have sA:r=wrote L1 i1 (es.drop i):=by rw[hi1,wO,hL,yM (by omega),hr]
  cbv;refine cq (.vw 0 1 0 i c true) [.row 1 es] ?_ ?_ rfl ?_
  .simp[ht,eX,b9];omega
  .simp[ht,bc,aY]
  cbv;refine cq (.vw 1 1 0 n1 n1 false) [.row 1 es,.row 1 L] ?_ ?_ ?_ ?_
  .refine hW _ λe1 e2 e3=>?_;simp[ht,aa,e1,e2];omega
  .refine hW _ λe1 e2 e3=>?_;simp[ht,aa,e1,e2];omega
  .refine hW _ λe1 e2 e3=>?_;simp[ht,aa,e1,e2,hL];omega
  cbv;refine cq (.vw 1 1 i rM rM false) [.row 1 es,.row 1 L] ?_ ?_ rfl ?_
  .simp[ht,eX,b9];omega
  .simp[ht,bc,aY,wN]
  cbv;refine cq (bf 1) [.row 1 es,.row 1 L1] ?_ ?_ ?_ ?_
  .simp only[ht,gj];refine⟨⟨by omega,?_⟩,?_⟩
   .intro h;rw[h]at Lq;simp at Lq;omega
   intro r hr;have:=van hr;simp at this;rw[this];exact hrow
  .simp[ht,aa];omega
  .simp[ht,wO,show min 1 rM=1 by omega]
  cbv;refine bE [false,false,false,false,false,false,false,false,true] ?_;cbv;repeat (refine gI (by(simp;done)) ?_)
  refine kI (.vw 1 1 i1 ni ni false) (λ_=>⟨?_,?_⟩) ?_
  .refine hW _ λe1 e2 e3=>?_;simp[ht,aa,e3,eX,b9];omega
  .refine hW _ λe1 e2 e3=>?_;simp[ht,aa,e3,bc,aY];omega
  cbv;repeat (refine gI (by(simp;done)) ?_)
  refine kI (.vw 0 1 i ni ci true) (λ_=>⟨?_,?_⟩) ?_
  .simp[ht,eX,b9];omega
  .simp[ht,bc,aY,hni,wM]
  cbv;refine cq (bf (ni:Nat)) [.row 1 es,.row 1 r,.bJ] ?_ ?_ ?_ ?_
  .simp only[ht,gj];refine⟨by omega,⟨by omega,?_⟩,?_⟩
   .intro h;rw[h]at ou;simp at ou;omega
   intro r hr;exact aD r (List.mem_of_mem_drop (van hr))
  .simp[ht,aa]
  .simp only[ht,sA];rw[vao (by simp;omega)]
  cbv;refine CZ [true] hY ?_ rfl rfl rfl ?_
  .simp only[ht];omega
  simp only[ht];rw[<-wK]
 have Zb:n<c:=by refine hW _ λe1 e2 e3=>?_;simp[ht,aa,e1]at h2;omega
 clear h2;obtain⟨L1,wO⟩:∃L1,L1=wrote es i1 (es.drop i):=⟨_,rfl⟩;have sA:r=wrote L1 i [x::row]:=by rw[wO,hi1,GW (by omega),hr]
 have ou:L1.length=n1:=by rw[wO];simp[wrote];omega
 cbv;refine cq (.vw 0 1 0 n1 c true) [.row 1 es] ?_ ?_ rfl ?_
 .refine hW _ λe1 e2 e3=>?_;simp[ht,aa,e1,eX,b9];omega
 .refine hW _ λe1 e2 e3=>?_;simp[ht,aa,e1,bc,aY]
 cbv;refine cq (.vw 0 1 i1 ni Bw true) [.row 1 es] ?_ ?_ rfl ?_
 .refine hW _ λe1 e2 e3=>?_;simp[ht,aa,e3,eX,b9];omega
 .refine hW _ λe1 e2 e3=>?_;simp[ht,aa,e3,bc,aY];omega
 cbv;refine dO hY (Za (by omega)) ?_;cbv;refine oe (by simp[ht]) ?_;cbv;refine bE [false,false,false,false,false,false,false,false,true] ?_;cbv;repeat (refine gI (by(simp;done)) ?_)
 refine kI (.vw 0 1 i1 ni Bw true) (λ_=>⟨?_,?_⟩) ?_
 .refine hW _ λe1 e2 e3=>?_;simp[ht,aa,e3,eX,b9];omega
 .refine hW _ λe1 e2 e3=>?_;simp[ht,aa,e3,bc,aY];omega
 cbv;repeat (refine gI (by(simp;done)) ?_)
 refine kI (.vw 0 1 i rM ci true) (λ_=>⟨?_,?_⟩) ?_
 .simp[ht,eX,b9];omega
 .simp[ht,bc,aY,wN,wM]
 cbv;refine cq (bf (ni:Nat)) [.row 1 L1,.bJ] ?_ ?_ ?_ ?_
 .simp only[ht,gj];refine⟨by omega,⟨by omega,?_⟩,?_⟩
  .intro h;rw[h]at hn;simp at hn;omega
  intro r hr;exact aD r (List.mem_of_mem_drop (van hr))
 .simp[ht,aa];omega
 .simp only[ht,wO];rw[vao (by simp;omega)]
 cbv;refine cq (.vw 0 1 i rM ci true) [.row 1 L1,.bJ] ?_ ?_ rfl ?_
 .simp[ht,eX,b9];omega
 .simp[ht,bc,aY,wN,wM]
 cbv;refine cq (bf 1) [.row 1 r,.bJ] ?_ ?_ ?_ ?_
 .simp only[ht,gj];refine⟨⟨by omega,?_⟩,?_⟩
  .intro h;rw[h]at ou;simp at ou;omega
  intro r hr;have:=van hr;simp at this;rw[this];exact hrow
 .simp[ht,aa];omega
 .simp[ht,sA,show min 1 rM=1 by omega]
 cbv;refine CZ [true] hY ?_ rfl rfl rfl ?_
 .simp only[ht];omega
 simp only[ht];rw[<-wK]
theorem Ks(ht:TT t){es:List (List D)}{x:D}{row:List D}{i n:Nat}(hn:n=es.length)(hi:i<=n)(aD:∀r∈es,r.length=1)(hrow:(x::row).length=1)(hs:n<1000000){r:List (List D)}(hr:r=es.take i++(x::row)::es.drop i):
 FC 181 [.ow 0 1 n,bf (i:Int),SL [x::row]] [.row 1 es] (.ret (SL r)) [.dead]:=
 gJ λc hc hc0=>Hg ht hn hi hc hc0 aD hrow hs hr
theorem Hh(ht:TT t){l:List az}{x:az}{k:Nat}{i:Int}(hi:i=k)(hk:k<=l.length)(hl:l.length<1000000):
 FC 181 [.ow 0 1 (t _ λ_=>(l.map bp).length),bf i,.cl [[.str x]]] [.row 1 (t _ λ_=>l.map bp)] (.ret (SL (t _ λ_=>(l.take k++x::l.drop k).map bp))) [.dead]:=by
 simp only[ht];subst hi;refine rE (args':=[.ow 0 1 (l.map bp).length,bf k,SL [bp x]]) ?_ (Ks ht (by simp) (by simpa using hk) ?_ rfl (by simpa using hl) (by simp))
 .intro β w ok vs h;simp only[an]at h ⊢;obtain⟨u1,us1,rfl,h1,u2,RG,rfl,h2,u3,Zi,rfl,h3,h4⟩:=h;exact⟨u1,_,rfl,h1,u2,_,rfl,h2,u3,Zi,rfl,Ow h3,h4⟩
 intro r hr;obtain⟨y,_,rfl⟩:=List.mem_map.1 hr;rfl
theorem Kt(ht:TT t)(s:az)(hs:s.length<1000000000000):FC 136 [ST s] [] (.ret (JA t (t _ λ_=>above s))) []:=by
 have hp:=lF s;have hl:=iX s
 refine cC ht Tryz.func136 (N:=7) ?_;cbv;refine sj hY (OS ht s ‹_›) hY rfl (.inr rfl) ?_;cbv;refine aW [0] hY rfl rfl (Hh ht (l:=om s) (x:=[]) (k:=0) rfl (by omega) (by omega)) (aH ?_);cbv;refine ak ?_;(simp[ht,above];done)
theorem yS(ht:TT t)(s:az)(hs:s.length<1000000000000):FC 78 [ST s] [] (.ret (cA (t _ λ_=>named s))) []:=by
 refine cC ht Tryz.func78 (N:=10) ?_;cbv;iterate 2 refine gI (by simp[ht]) ?_
 refine aT (λg0=>⟨by simp[ht]at g0 ⊢;exact g0,hY,DF ht _ _ ‹_›⟩) rfl rfl (λr1 ej=>?_);simp only[ht]at ej;cbv;refine pI (by simp[ht]) ?_;refine ak ?_;(simp[named, *];done)
theorem u7(ht:TT t)(s:az)(hs:s.length<1000000000000):FC 79 [ST s] [] (.ret (rD (t _ λ_=>parent s))) []:=by
 have hp:=lF s;have hl:=iX s
 obtain⟨ps,hps⟩:∃p,p=parent s:=⟨_,rfl⟩;refine cC ht Tryz.func79 (N:=13) ?_;cbv;refine aM (Kt ht _ ‹_›) hY (λr0 bM=>?_);simp only[ht]at bM;have hla:(r0).length=(parts s).length+1:=by rw[bM];simp[above,iX]
 have hpx:(r0)[(r0).length-2]?=some ps:=by rw[hps,bM,parent,vam,vaj (by rw[bM]at hla;omega)];rfl
 cbv;(refine El ht (l:=r0) (cells:=bp) (cT:=fM t) (i:=r0.length-2) (x:=ps) (by simp only[ht];done) hpx (by simp only[ht,aa,lgM];rw[wrap64 (by omega) (by omega)];omega) (λ_=>rfl) (λ_=>rfl) ?_);cbv;refine ak ?_;(simp[ht,hps];done)
def aR.aS (_:Th) (e:aR):List D:=[.str e.path,.int .u64 e.cU.a,.int .u64 e.cU.b,.int .u64 e.cU.c,.int .u64 e.cU.d,.int .u64 e.used.a,.int .u64 e.used.b,.int .u64 e.used.c,.int .u64 e.used.d]
def Zy(e:aR):AV:=.agg [ST e.path,aA e.cU.a,aA e.cU.b,aA e.cU.c,aA e.cU.d,aA e.used.a,aA e.used.b,aA e.used.c,aA e.used.d]
def abT(r:aR×Bool):AV:=.c5 [Zy r.1,BL r.2]
def OU(t:Th)(l:List aR):AV:=SL (t _ λ_=>l.map aR.cells)
def Hi(t:Th)(r:List aR×Int):AV:=.c5 [OU t r.1,bf r.2]
theorem Qh(ht:TT t)(q:az){l:List (aR)}{es:List (List D)}(aD:es=l.map aR.cells)(f:Nat)(p:aR->Bool)(hl:l.length<9223372036854775807)
 (hf:∀x∈l,FC f [.agg [ST x.path,aA x.cU.a,aA x.cU.b,aA x.cU.c,aA x.cU.d,aA x.used.a,aA x.used.b,aA x.used.c,aA x.used.d],.ptr 0 0] [.var [ST q]] (.ret (BL (p x))) [.var [ST q]]) {r:Int} (hr:r=idxOf p l):FC 114 [SL es,.fn f [.ptr 0 0]] [.var [ST q]] (.ret (bf r)) [.var [ST q]]:=by
 have hel:es.length=l.length:=by rw[aD,lgM]
 refine kJ ht (aK:=[.var [ST q]]) Tryz.func114 rfl rfl (N:=19) rfl rfl (n:=1) rfl rfl ?_;cbv;refine bw ⟨[0,1,7,8],[],[]⟩ (σ:=Nat) (λk=>[(8,bf (t _ λ_=>(k:Int)))]) (λ_=>[]) (wL p l) ?_;cbv;refine aC ⟨l.length,0,.nil,by simp only[ht];rfl,λn k hj=>?_⟩;cbv;apply aj<;>intro h
 .simp only[ht,aa,vai]at h;have hk:k<es.length:=by omega
  obtain⟨x,hx,pM,px,hpx⟩:=hj.get (by omega);have iS:=hf x pM
  rw[<-hpx]at iS;obtain⟨nm,⟨a,b,c,d⟩,⟨e,g,u,v⟩⟩:=x;cbv;refine jG [.str nm,.int .u64 a,.int .u64 b,.int .u64 c,.int .u64 d,.int .u64 e,.int .u64 g,.int .u64 u,.int .u64 v] ?_ ?_ ?_
  .simp only[ht,aa];exact sE aD hk λ_=>rfl
  .simp[ht,aa,aD,hx]
  cbv;refine dO hY iS ?_;cbv;apply aj<;>intro hb
  .cbv;refine ak ?_;simp only[ht,aa,hr,hj.hit hx (hpx▸hb)]
  cbv;refine aC ⟨n-1,k+1,⟨hj.lt hx,hj.next hx (hpx▸hb)⟩,?_⟩;simp only[ht,aa,aG (show k<9223372036854775807 by omega)];rfl
 simp only[ht,aa,vap]at h;have hk:l.length<=k:=by omega
 clear h;cbv;refine ak ?_;rw[hr,hj.none hk]
theorem Qi(ht:TT t)(q:az)(x:aR):FC 115 [.agg [ST x.path,aA x.cU.a,aA x.cU.b,aA x.cU.c,aA x.cU.d,aA x.used.a,aA x.used.b,aA x.used.c,aA x.used.d],.ptr 0 0] [.var [ST q]] (.ret (BL (decide (x.path=q)))) [.var [ST q]]:=by obtain⟨nm,⟨a,b,c,d⟩,⟨e,g,u,v⟩⟩:=x;refine kJ ht (aK:=[.var [ST q]]) Tryz.func115 rfl rfl (N:=8) rfl rfl (n:=1) rfl rfl ?_;cbv;refine ak ?_;simp[ht]
theorem lS(ht:TT t)(q:az){l:List aR}{es:List (List D)}(aD:es=l.map aR.cells)(hl:l.length<1000000000):
 FC 50 [SL es,ST q] [] (.ret (ol (t _ λ_=>bZ l q))) []:=by
 obtain⟨r,hr⟩:∃r,r=bZ l q:=⟨_,rfl⟩;refine cC ht Tryz.func50 (N:=8) ?_;cbv;refine dO hY (Qh ht q aD 115 (λx=>decide (x.path=q)) (by omega) (λx _=>Qi ht q x) (r:=r) hr) ?_;cbv;exact ak (by simp[ht,hr])
theorem Hj{l:List aR}{q:az}{r:Int}(h:r=bZ l q):(r=-1/\qi l q=(aR.zero,false))∨∃(k:Nat) (x:aR),r=k/\k<l.length/\l[k]?=some x/\qi l q=(x,true):=by
 rcases dw (p:=λe:aR=>decide (e.path=q)) (l:=l) (r:=r) h with⟨e1,e2,e3⟩|⟨i,x,hi,hil,e1,e2,e3,e4⟩
 .exact .inl ⟨e1,by simp[qi,e3]⟩
 exact .inr ⟨i,x,hi,hil,e1,by simp[qi,e4]⟩
theorem Ku(ht:TT t)(q:az){l:List aR}{es:List (List D)}(aD:es=l.map aR.cells)(hl:l.length<1000000000):
 FC 15 [SL es,ST q] [] (.ret (abT (t _ λ_=>qi l q))) []:=by
 refine cC ht Tryz.func15 (N:=17) ?_;cbv;have ay:es.length=l.length:=by rw[aD,lgM]
 refine ar (lS ht _ ‹_› ‹_›) hY (λr0 bM=>?_);simp only[ht]at bM;have ec:=Hj bM
 clear bM;rcases ec with⟨e1,e2⟩|⟨i,x,hi,hil,e1,e2⟩
 .cbv;apply aj<;>intro h1
  .simp[ht]at h1;cbv;refine ak ?_;(simp[ht,e2,aR.zero,bz.zero];done)
  simp[ht]at h1;omega
 cbv;apply aj<;>intro h2
 .simp[ht]at h2;(simp only[aa]at*;omega)
 simp[ht]at h2;cbv;refine El ht aD (cT:=aR.aS t) e1 ‹_› (λ_=>rfl) (λ_=>rfl) ?_;cbv;refine ak ?_;(simp[ht,e2];done)
theorem WK(ht:TT t)(a b c d:Int):FC 40 [V4 a b c d] [] (.ret (OU t (t _ λ_=>[⟨[],⟨a,b,c,d⟩,bz.zero⟩]))) []:=by refine cC ht Tryz.func40 (N:=6) ?_;cbv;refine ak ?_;(simp[ht,bz.zero];done)
theorem M1(ht:TT t){es:List (List D)}(aD:∀r∈es,r.length=9)(hs:es.length*80<=140737488355328){m:Nat}(hm:m=es.length):
 FC 81 [SL es] [] (.ret (.ow 0 9 m)) [.row 9 es]:=by
 refine cC ht Tryz.func81 (N:=8) ?_;cbv;refine⟨λb hb=>?_⟩;simp only[ht]at hb;cbv;apply aj<;>intro h
 .have he:=hb h;subst he;cbv;exact Mi hY rfl rfl (by rw[hm];rfl) rfl
 clear hb h;cbv;refine⟨?_,?_⟩
 .simp only[ht];simp;exact⟨hs,aD⟩
 refine GA hY rfl rfl rfl rfl ?_ ?_
 .simp only[ht];rw[hm];simp
 simp only[ht];rfl
theorem Hl(ht:TT t){es:List (List D)}{x:D}{row:List D}{i n c:Nat}(hn:n=es.length)(hi:i<=n)(hc:n<=c)(hc0:n=0->c=0)(aD:∀r∈es,r.length=9)(hrow:(x::row).length=9)(hs:n<1000000){r:List (List D)}(hr:r=es.take i++(x::row)::es.drop i):
 FC 84 [.vw 0 9 0 n c true,bf (i:Int),SL [x::row]] [.row 9 es] (.ret (SL r)) [.dead]:=by
 obtain⟨n1,LR⟩:∃n1,n1=n+1:=⟨_,rfl⟩;obtain⟨i1,hi1⟩:∃i1,i1=i+1:=⟨_,rfl⟩;obtain⟨ni,hni⟩:∃ni,ni=n-i:=⟨_,rfl⟩;obtain⟨ci,wM⟩:∃ci,ci=c-i:=⟨_,rfl⟩;obtain⟨Bw,Tb⟩:∃Bw,Bw=c-i1:=⟨_,rfl⟩;obtain⟨rM,wN⟩:∃rM,rM=n1-i:=⟨_,rfl⟩;have hW:∀P:Prop,((IntKind.i64.wrap ((n:Int)+1)=(n1:Int))->(IntKind.i64.wrap ((n1:Int)-(i:Int))=(rM:Int))->(IntKind.i64.wrap ((i:Int)+1)=(i1:Int))->P)->P:=
  λP h=>h (by rw[wrap64 (by omega) (by omega)];omega) (by rw[wrap64 (by omega) (by omega)];omega) (by rw[wrap64 (by omega) (by omega)];omega)
 have hrl:r.length=n1:=by rw[hr,vaa,List.length_cons,vav,vaw];omega
 have Za:n≠0->FC 138 [SL [x::row],.vw 0 9 i1 ni Bw true] [.row 9 es] (.ret (BL false)) [.row 9 es]:=λh0=>
  jw HQ Tryz.func138 rfl rfl rfl rfl (tS:=30) (tR:=4) rfl rfl (by intro h;rw[h]at hn;exact h0 hn)
 refine kJ ht (aK:=[.row 9 es]) Tryz.func84 rfl rfl (N:=95) rfl rfl (n:=1) rfl rfl ?_;cbv;refine cq (.vw 0 9 i ni ci true) [.row 9 es] ?_ ?_ rfl ?_
 .simp[ht,eX,b9];omega
 .simp[ht,bc,aY,hni,wM]
 cbv;refine p9 (by simp[ht]) ?_;cbv;apply aj<;>intro h
 .have hin:i=n:=by simp[ht,aa]at h;omega
  clear h;cbv;refine cq (.ow 1 9 n1) [.dead,.row 9 r] ?_ ?_ ?_ ?_
  .simp only[ht];refine⟨⟨hn,by simp;omega,?_⟩,rfl,hn,λh=>⟨hc0 (by rw[hn,h];rfl),rfl⟩⟩;intro r hr;rcases List.mem_append.1 hr with hr|hr
   .exact aD r hr
   simp at hr;subst hr;exact hrow
  .simp[ht,LR,hn]
  .simp only[ht];rw[hr];have:i=es.length:=by omega
   subst this;simp
  cbv;refine ia hY ?_ rfl rfl rfl rfl;simp only[ht];exact hrl.symm
 have hin:i<n:=by simp[ht,aa]at h;omega
 clear h;have wK:r=(r.drop 0).take n1:=by rw[List.drop_zero,vao (by omega)]
 cbv;apply aj<;>intro h2
 .have Zb:c=n:=by refine hW _ λe1 e2 e3=>?_;simp[ht,aa,e1]at h2;omega
  clear h2;obtain⟨L,hL⟩:∃L:List (List D),L=es.take i++List.replicate (es.length+1-i) [D.str [],D.int IntKind.u64 0,D.int IntKind.u64 0,D.int IntKind.u64 0,D.int IntKind.u64 0,D.int IntKind.u64 0,D.int IntKind.u64 0,D.int IntKind.u64 0,D.int IntKind.u64 0]:=⟨_,rfl⟩;have Lq:L.length=n1:=by rw[hL];simp;omega
  obtain⟨L1,wO⟩:∃L1,L1=wrote L i [x::row]:=⟨_,rfl⟩;have ou:L1.length=n1:=by rw[wO];simp[wrote,Lq];omega
  have sA:r=wrote L1 i1 (es.drop i):=by rw[hi1,wO,hL,yM (by omega),hr]
  cbv;refine cq (.vw 0 9 0 i c true) [.row 9 es] ?_ ?_ rfl ?_
  .simp[ht,eX,b9];omega
  .simp[ht,bc,aY]
  cbv;refine cq (.vw 1 9 0 n1 n1 false) [.row 9 es,.row 9 L] ?_ ?_ ?_ ?_
  .refine hW _ λe1 e2 e3=>?_;simp[ht,aa,e1,e2];omega
  .refine hW _ λe1 e2 e3=>?_;simp[ht,aa,e1,e2];omega
  .refine hW _ λe1 e2 e3=>?_;simp[ht,aa,e1,e2,hL];omega
  cbv;refine cq (.vw 1 9 i rM rM false) [.row 9 es,.row 9 L] ?_ ?_ rfl ?_
  .simp[ht,eX,b9];omega
  .simp[ht,bc,aY,wN]
  cbv;refine cq (bf 1) [.row 9 es,.row 9 L1] ?_ ?_ ?_ ?_
  .simp only[ht,gj];refine⟨⟨by omega,?_⟩,?_⟩
   .intro h;rw[h]at Lq;simp at Lq;omega
   intro r hr;have:=van hr;simp at this;rw[this];exact hrow
  .simp[ht,aa];omega
  .simp[ht,wO,show min 1 rM=1 by omega]
  cbv;refine bE [false,false,false,false,false,false,false,false,true] ?_;cbv;repeat (refine gI (by(simp;done)) ?_)
  refine kI (.vw 1 9 i1 ni ni false) (λ_=>⟨?_,?_⟩) ?_
  .refine hW _ λe1 e2 e3=>?_;simp[ht,aa,e3,eX,b9];omega
  .refine hW _ λe1 e2 e3=>?_;simp[ht,aa,e3,bc,aY];omega
  cbv;repeat (refine gI (by(simp;done)) ?_)
  refine kI (.vw 0 9 i ni ci true) (λ_=>⟨?_,?_⟩) ?_
  .simp[ht,eX,b9];omega
  .simp[ht,bc,aY,hni,wM]
  cbv;refine cq (bf (ni:Nat)) [.row 9 es,.row 9 r,.bJ] ?_ ?_ ?_ ?_
  .simp only[ht,gj];refine⟨by omega,⟨by omega,?_⟩,?_⟩
   .intro h;rw[h]at ou;simp at ou;omega
   intro r hr;exact aD r (List.mem_of_mem_drop (van hr))
  .simp[ht,aa]
  .simp only[ht,sA];rw[vao (by simp;omega)]
  cbv;refine CZ [true] hY ?_ rfl rfl rfl ?_
  .simp only[ht];omega
  simp only[ht];rw[<-wK]
 have Zb:n<c:=by refine hW _ λe1 e2 e3=>?_;simp[ht,aa,e1]at h2;omega
 clear h2;obtain⟨L1,wO⟩:∃L1,L1=wrote es i1 (es.drop i):=⟨_,rfl⟩;have sA:r=wrote L1 i [x::row]:=by rw[wO,hi1,GW (by omega),hr]
 have ou:L1.length=n1:=by rw[wO];simp[wrote];omega
 cbv;refine cq (.vw 0 9 0 n1 c true) [.row 9 es] ?_ ?_ rfl ?_
 .refine hW _ λe1 e2 e3=>?_;simp[ht,aa,e1,eX,b9];omega
 .refine hW _ λe1 e2 e3=>?_;simp[ht,aa,e1,bc,aY]
 cbv;refine cq (.vw 0 9 i1 ni Bw true) [.row 9 es] ?_ ?_ rfl ?_
 .refine hW _ λe1 e2 e3=>?_;simp[ht,aa,e3,eX,b9];omega
 .refine hW _ λe1 e2 e3=>?_;simp[ht,aa,e3,bc,aY];omega
 cbv;refine dO hY (Za (by omega)) ?_;cbv;refine oe (by simp[ht]) ?_;cbv;refine bE [false,false,false,false,false,false,false,false,true] ?_;cbv;repeat (refine gI (by(simp;done)) ?_)
 refine kI (.vw 0 9 i1 ni Bw true) (λ_=>⟨?_,?_⟩) ?_
 .refine hW _ λe1 e2 e3=>?_;simp[ht,aa,e3,eX,b9];omega
 .refine hW _ λe1 e2 e3=>?_;simp[ht,aa,e3,bc,aY];omega
 cbv;repeat (refine gI (by(simp;done)) ?_)
 refine kI (.vw 0 9 i rM ci true) (λ_=>⟨?_,?_⟩) ?_
 .simp[ht,eX,b9];omega
 .simp[ht,bc,aY,wN,wM]
 cbv;refine cq (bf (ni:Nat)) [.row 9 L1,.bJ] ?_ ?_ ?_ ?_
 .simp only[ht,gj];refine⟨by omega,⟨by omega,?_⟩,?_⟩
  .intro h;rw[h]at hn;simp at hn;omega
  intro r hr;exact aD r (List.mem_of_mem_drop (van hr))
 .simp[ht,aa];omega
 .simp only[ht,wO];rw[vao (by simp;omega)]
 cbv;refine cq (.vw 0 9 i rM ci true) [.row 9 L1,.bJ] ?_ ?_ rfl ?_
 .simp[ht,eX,b9];omega
 .simp[ht,bc,aY,wN,wM]
 cbv;refine cq (bf 1) [.row 9 r,.bJ] ?_ ?_ ?_ ?_
 .simp only[ht,gj];refine⟨⟨by omega,?_⟩,?_⟩
  .intro h;rw[h]at ou;simp at ou;omega
  intro r hr;have:=van hr;simp at this;rw[this];exact hrow
 .simp[ht,aa];omega
 .simp[ht,sA,show min 1 rM=1 by omega]
 cbv;refine CZ [true] hY ?_ rfl rfl rfl ?_
 .simp only[ht];omega
 simp only[ht];rw[<-wK]
theorem Kv(ht:TT t){es:List (List D)}{x:D}{row:List D}{i n:Nat}(hn:n=es.length)(hi:i<=n)(aD:∀r∈es,r.length=9)(hrow:(x::row).length=9)(hs:n<1000000){r:List (List D)}(hr:r=es.take i++(x::row)::es.drop i):
 FC 84 [.ow 0 9 n,bf (i:Int),SL [x::row]] [.row 9 es] (.ret (SL r)) [.dead]:=
 gJ λc hc hc0=>Hl ht hn hi hc hc0 aD hrow hs hr
theorem TE(ht:TT t)(q:az){l:List (aR)}{es:List (List D)}(aD:es=l.map aR.cells)(f:Nat)(p:aR->Bool)(hl:l.length<9223372036854775807)
 (hf:∀x∈l,FC f [.agg [ST x.path,aA x.cU.a,aA x.cU.b,aA x.cU.c,aA x.cU.d,aA x.used.a,aA x.used.b,aA x.used.c,aA x.used.d],.ptr 0 0] [.var [ST q]] (.ret (BL (p x))) [.var [ST q]]) {r:Int} (hr:r=idxOf p l):FC 82 [SL es,.fn f [.ptr 0 0]] [.var [ST q]] (.ret (bf r)) [.var [ST q]]:=by
 have hel:es.length=l.length:=by rw[aD,lgM]
 refine kJ ht (aK:=[.var [ST q]]) Tryz.func82 rfl rfl (N:=19) rfl rfl (n:=1) rfl rfl ?_;cbv;refine bw ⟨[0,1,7,8],[],[]⟩ (σ:=Nat) (λk=>[(8,bf (t _ λ_=>(k:Int)))]) (λ_=>[]) (wL p l) ?_;cbv;refine aC ⟨l.length,0,.nil,by simp only[ht];rfl,λn k hj=>?_⟩;cbv;apply aj<;>intro h
 .simp only[ht,aa,vai]at h;have hk:k<es.length:=by omega
  obtain⟨x,hx,pM,px,hpx⟩:=hj.get (by omega);have iS:=hf x pM
  rw[<-hpx]at iS;obtain⟨nm,⟨a,b,c,d⟩,⟨e,g,u,v⟩⟩:=x;cbv;refine jG [.str nm,.int .u64 a,.int .u64 b,.int .u64 c,.int .u64 d,.int .u64 e,.int .u64 g,.int .u64 u,.int .u64 v] ?_ ?_ ?_
  .simp only[ht,aa];exact sE aD hk λ_=>rfl
  .simp[ht,aa,aD,hx]
  cbv;refine dO hY iS ?_;cbv;apply aj<;>intro hb
  .cbv;refine ak ?_;simp only[ht,aa,hr,hj.hit hx (hpx▸hb)]
  cbv;refine aC ⟨n-1,k+1,⟨hj.lt hx,hj.next hx (hpx▸hb)⟩,?_⟩;simp only[ht,aa,aG (show k<9223372036854775807 by omega)];rfl
 simp only[ht,aa,vap]at h;have hk:l.length<=k:=by omega
 clear h;cbv;refine ak ?_;rw[hr,hj.none hk]
theorem Zz(ht:TT t)(q:az)(x:aR){r:Bool}(hr:r=!Op.bytesLess x.path q):FC 83 [.agg [ST x.path,aA x.cU.a,aA x.cU.b,aA x.cU.c,aA x.cU.d,aA x.used.a,aA x.used.b,aA x.used.c,aA x.used.d],.ptr 0 0] [.var [ST q]] (.ret (BL r)) [.var [ST q]]:=by obtain⟨nm,⟨a,b,c,d⟩,⟨e,g,u,v⟩⟩:=x;refine kJ ht (aK:=[.var [ST q]]) Tryz.func83 rfl rfl (N:=8) rfl rfl (n:=1) rfl rfl ?_;cbv;refine ak ?_;simp only[ht,hr]
theorem A9(ht:TT t){l:List aR}{es:List (List D)}(aD:es=l.map aR.cells)(hs:l.length<1000000000):
 FC 81 [SL es] [] (.ret (.ow 0 9 (t _ λ_=>(l.map aR.cells).length))) [.row 9 (t _ λ_=>l.map aR.cells)]:=by
 simp only[ht];subst aD;refine M1 ht ?_ ?_ (by simp)
 .intro r hr;obtain⟨y,_,rfl⟩:=List.mem_map.1 hr;rfl
 simp;omega
theorem yT(ht:TT t){l:List aR}{x:aR}{k:Nat}{i:Int}(hi:i=k)(hk:k<=l.length)(hl:l.length<1000000):
 FC 84 [.ow 0 9 (t _ λ_=>(l.map aR.cells).length),bf i,.cl [aR.cells x]] [.row 9 (t _ λ_=>l.map aR.cells)] (.ret (SL (t _ λ_=>(l.take k++x::l.drop k).map aR.cells))) [.dead]:=by
 simp only[ht];subst hi;refine rE (args':=[.ow 0 9 (l.map aR.cells).length,bf k,SL [aR.cells x]]) ?_ (Kv ht (by simp) (by simpa using hk) ?_ rfl (by simpa using hl) (by simp))
 .intro β w ok vs h;simp only[an]at h ⊢;obtain⟨u1,us1,rfl,h1,u2,RG,rfl,h2,u3,Zi,rfl,h3,h4⟩:=h;exact⟨u1,_,rfl,h1,u2,_,rfl,h2,u3,Zi,rfl,Ow h3,h4⟩
 intro r hr;obtain⟨y,_,rfl⟩:=List.mem_map.1 hr;rfl
theorem elemAt{α:Type}[Inhabited α](l:List α)(k:Nat):∃x,k<l.length->l[k]?=some x:=by
 by_cases h:k<l.length
 .exact⟨l[k],λ_=>vaj h⟩
 exact⟨default,λh'=>absurd h' h⟩
theorem TF{t:Th}(ht:TT t){α:Type}{l:List α}{cells cT:α->List D}{es:List (List D)}{g:Bool}{c:Prop}(aD:es=l.map cells){z:Int}{n:Nat}(i:Nat)(x:α){K:List D->Prop}(hi:g=true->z=i/\l[i]?=some x)(hn:∀x,(cells x).length=n)(hT:∀x,cells x=cT x)
 (hc:g=true->c) (hK:K (cT x)):pN g (c/\(t Prop λ_=>0<=z/\z<es.length/\∀r∈es,r.length=n)) (t _ λ_=>es.getD z.toNat []) K:=by
 refine SA (cT x) (λhg=>?_) hK;obtain⟨h1,h2⟩:=hi hg;obtain⟨ds,h,hk⟩:=El (K:=λds=>ds=cT x) ht aD h2 h1 hn hT rfl;obtain⟨h3,h4⟩:=h rfl;exact⟨⟨hc hg,h3⟩,h4.trans hk⟩
theorem uc{l:List aR}{q:az}{r:Int}(h:r=bZ l q):(r=-1/\bZ l q=-1/\l.findIdx? (λe=>decide (e.path=q))=none)∨∃(k:Nat) (x:aR),r=k/\bZ l q=k/\k<l.length/\l[k]?=some x/\l.findIdx? (λe=>decide (e.path=q))=some k:=by
 rcases dw (p:=λe:aR=>decide (e.path=q)) (l:=l) (r:=r) h with⟨e1,e2,e3⟩|⟨i,x,hi,hil,e1,e2,e3,e4⟩
 .exact .inl ⟨e1,by rw[<-h,e1],e2⟩
 exact .inr ⟨i,x,hi,by rw[<-h,hi],hil,e1,e3⟩
def WL(l:List aR)(q:az):Nat:=match l.findIdx? (λe=>!Op.bytesLess e.path q)with
 |some k=>k|none=>l.length
theorem FB{l:List aR}{q:az}{v:bz}(h:l.findIdx? (λe=>decide (e.path=q))=none)(h1:named q=true)(h2:¬q=[]->0<=bZ l (parent q))(h3:bZ l q<0->(l.length:Int)<16):
 yA l q v=(l.take (WL l q)++⟨q,v,bz.zero⟩::l.drop (WL l q),0):=by
 have e0:bZ l q=-1:=by unfold bZ idxOf;rw[h]
 have h3:=h3 (by omega);unfold yA WL;rw[if_neg (by simp[h1]),if_neg (by simp;exact λg=>by have:=h2 g;omega),if_neg (by simp;omega)];simp only[h];cases l.findIdx? (λe=>!Op.bytesLess e.path q)<;>simp
theorem Qj{l:List aR}{q:az}{v:bz}(h1:named q=true)(h2:¬q=[]->0<=bZ l (parent q))(h3:bZ l q<0)(h4:(16:Int)<=l.length):yA l q v=(l,9):=by unfold yA;rw[if_neg (by simp[h1]),if_neg (by simp;exact λg=>by have:=h2 g;omega),if_pos (by simp;omega)]
theorem FE{l:List aR}{q:az}{v:bz}{k:Nat}{x:aR}(h:l.findIdx? (λe=>decide (e.path=q))=some k)(hx:l[k]?=some x)(h1:named q=true)(h2:¬q=[]->0<=bZ l (parent q)):
 yA l q v=if oh x.used v then(l.set k {x with cU:=v},0)else(l,10):=by
 have e0:bZ l q=k:=by unfold bZ idxOf;rw[h]
 unfold yA;rw[if_neg (by simp[h1]),if_neg (by simp;exact λg=>by have:=h2 g;omega),if_neg (by simp;omega)];simp only[h,vam,hx,Option.getD_some];cases oh x.used v<;>simp
theorem BQ(ht:TT t)(q:az)(a b c d:Int){l:List aR}{es:List (List D)}(aD:es=l.map aR.cells)(hl:l.length<100000)(hq:q.length<1000000000000)(hpq:(parent q).length<1000000000000):
 FC 33 [SL es,ST q,V4 a b c d] [] (.ret (Hi t (t _ λ_=>yA l q ⟨a,b,c,d⟩))) []:=by
 obtain⟨pq,Ls⟩:∃p,p=parent q:=⟨_,rfl⟩;obtain⟨nq,HT⟩:∃p,p=named q:=⟨_,rfl⟩;refine cC ht Tryz.func33 (N:=77) ?_;cbv;have ay:es.length=l.length:=by rw[aD,lgM]
 refine ar (lS ht _ ‹_› (by omega)) hY (λr0 bM=>?_);simp only[ht]at bM;(rcases uc (q:=q) bM with⟨e1,e0,e2⟩|⟨i,x,e1,e0,hil,e3,e2⟩)
 .cbv;refine ar (yS ht _ ‹_›) hY (λr1 ej=>?_);simp only[ht]at ej;rw[<-HT]at ej;subst r1;cbv;apply aj<;>intro h2
  .simp[ht]at h2;cbv;refine ak ?_;(subst Ls HT;simp_all[yA];done)
  simp[ht]at h2;cbv;iterate 2 refine gI (by simp[ht]) ?_
  refine aT (λg3=>⟨by simp[ht]at g3 ⊢;exact g3,hY,u7 ht _ ‹_›⟩) rfl rfl (λr4 eY=>?_);simp only[ht]at eY;rw[<-Ls]at eY;subst r4;cbv;refine aT (λg5=>⟨by simp[ht]at g5 ⊢;exact g5,hY,lS ht _ ‹_› (by omega)⟩) rfl rfl (λr6 jK=>?_);simp only[ht]at jK;skip;cbv;refine gI (by simp[ht]) ?_;refine pI (by simp[ht]) ?_;apply aj<;>intro h7
  .simp[ht]at h7;cbv;refine ak ?_;(subst Ls HT;simp_all[yA];done)
  simp[ht]at h7;cbv;iterate 3 refine gI (by simp[ht]) ?_
  refine pI (by simp[ht]) ?_;apply aj<;>intro h8
  .simp[ht,aa,ay]at h8;cbv;refine ak ?_;(simp only[ht];rw[Qj (by rw[<-HT];assumption) (λg=>by rw[<-Ls,<-jK];exact h7 g) (by omega) h8.2];simp[aD];done)
  simp[ht,aa,ay]at h8;cbv;refine bE [true,true,true,false,false,false,false,false,false,true,true,true,true] ?_;cbv;iterate 2 refine gI (by simp[ht]) ?_
  (refine TF ht aD (cT:=aR.aS t) 0 default (λg=>absurd g (by simp[ht,e1])) (λ_=>rfl) (λ_=>by simp only[aR.aS]) (λg=>by exact⟨g,g,hY⟩) ?_);cbv;iterate 3 refine gI (by simp[ht]) ?_
  refine aT (λg9=>⟨by simp[ht]at g9 ⊢;exact g9,hY,qu ht _ _ _ _ _ _ _ _⟩) rfl rfl (λr10 Dz=>?_);simp only[ht]at Dz;cbv;refine gI (by simp[ht]) ?_;refine pI (by simp[ht]) ?_;apply aj<;>intro h11
  .simp[ht]at h11;omega
  simp[ht]at h11;cbv;refine sj hY (A9 ht ‹_› (by omega)) hY rfl (.inr rfl) ?_;cbv;apply aj<;>intro h12
  .simp[ht]at h12;omega
  simp[ht]at h12;cbv;(obtain⟨r9,dR⟩:∃r,r=idxOf (λo:aR=>!Op.bytesLess o.path q) l:=⟨_,rfl⟩;refine aW [0] hY rfl rfl (TE ht q aD 83 (λo:aR=>!Op.bytesLess o.path q) (by omega) (λx _=>Zz ht q x rfl) dR) (aH ?_);have ec:=dw dR;clear dR;rcases ec with⟨f1,f2,f3⟩|⟨z,y,f0,fz,f1,f2,f3,f4⟩)
  .cbv;apply aj<;>intro OH
   .simp[ht]at OH;cbv;refine aW [3] hY rfl rfl (yT ht (l:=l) (x:=⟨q,⟨a,b,c,d⟩,bz.zero⟩) (k:=WL l q) (by(simp[ht,WL,f2,ay];done)) (by(simp[WL,f2];done)) (by simp only[aa]at*;omega)) (aH ?_);cbv;refine ak ?_;(simp only[ht];rw[FB e2 (by rw[<-HT];assumption) (λg=>by rw[<-Ls,<-jK];exact h7 g) (λg=>h8 (by omega))])
   simp[ht]at OH;omega
  cbv;apply aj<;>intro X3
  .simp[ht]at X3;(simp only[aa]at*;omega)
  simp[ht]at X3;cbv;refine aW [3] hY rfl rfl (yT ht (l:=l) (x:=⟨q,⟨a,b,c,d⟩,bz.zero⟩) (k:=WL l q) (by(simp only[WL,f3];exact f0)) (by(simp only[WL,f3];omega)) (by simp only[aa]at*;omega)) (aH ?_);cbv;refine ak ?_;(simp only[ht];rw[FB e2 (by rw[<-HT];assumption) (λg=>by rw[<-Ls,<-jK];exact h7 g) (λg=>h8 (by omega))])
 cbv;refine ar (yS ht _ ‹_›) hY (λr15 M2=>?_);simp only[ht]at M2;rw[<-HT]at M2;subst r15;cbv;apply aj<;>intro TG
 .simp[ht]at TG;cbv;refine ak ?_;(subst Ls HT;simp_all[yA];done)
 simp[ht]at TG;cbv;iterate 2 refine gI (by simp[ht]) ?_
 refine aT (λg17=>⟨by simp[ht]at g17 ⊢;exact g17,hY,u7 ht _ ‹_›⟩) rfl rfl (λr18 Qk=>?_);simp only[ht]at Qk;rw[<-Ls]at Qk;subst r18;cbv;refine aT (λg19=>⟨by simp[ht]at g19 ⊢;exact g19,hY,lS ht _ ‹_› (by omega)⟩) rfl rfl (λr20 Ql=>?_);simp only[ht]at Ql;skip;cbv;refine gI (by simp[ht]) ?_;refine pI (by simp[ht]) ?_;apply aj<;>intro h21
 .simp[ht]at h21;cbv;refine ak ?_;(subst Ls HT;simp_all[yA];done)
 simp[ht]at h21;cbv;iterate 3 refine gI (by simp[ht]) ?_
 refine pI (by simp[ht]) ?_;apply aj<;>intro h22
 .simp[ht,aa,ay]at h22;(simp only[aa]at*;omega)
 simp[ht,aa,ay]at h22;cbv;refine bE [true,true,true,false,false,false,false,false,false,true,true,true,true] ?_;cbv;iterate 2 refine gI (by simp[ht]) ?_
 (refine TF ht aD (cT:=aR.aS t) i x (λg=>⟨e1,e3⟩) (λ_=>rfl) (λ_=>by simp only[aR.aS]) (λg=>by exact⟨g,g,hY⟩) ?_);cbv;iterate 3 refine gI (by simp[ht]) ?_
 refine aT (λg23=>⟨by simp[ht]at g23 ⊢;exact g23,hY,qu ht _ _ _ _ _ _ _ _⟩) rfl rfl (λr24 aee=>?_);simp only[ht]at aee;cbv;refine gI (by simp[ht]) ?_;refine pI (by simp[ht]) ?_;apply aj<;>intro h25
 .simp[ht]at h25;cbv;refine ak ?_;(have ts:=FE (v:=⟨a,b,c,d⟩) e2 e3 (by rw[<-HT];assumption) (λg=>by rw[<-Ls,<-Ql];exact h21 g);simp only[ht];rw[ts];simp_all;done)
 simp[ht]at h25;cbv;refine sj hY (A9 ht ‹_› (by omega)) hY rfl (.inr rfl) ?_;cbv;apply aj<;>intro h26
 .simp[ht]at h26;cbv;refine⟨?_,?_⟩
  ·(subst Ls HT;simp_all;done)
  refine⟨?_,?_⟩
  ·(subst Ls HT;simp_all;done)
  cbv;refine ia hY (by simp[ht]) rfl rfl rfl ?_;(have ts:=FE (v:=⟨a,b,c,d⟩) e2 e3 (by rw[<-HT];assumption) (λg=>by rw[<-Ls,<-Ql];exact h21 g);simp only[ht];rw[ts];simp_all[List.map_set,bP];done)
 simp[ht]at h26;(simp only[aa]at*;omega)
def TH(r:aR×Int):AV:=.c5 [Zy r.1,bf r.2]
theorem OV(ht:TT t)(a0 a1 a2 a3 b0 b1 b2 b3:Int):FC 122 [V4 a0 a1 a2 a3,V4 b0 b1 b2 b3] [] (.ret (EVB (t _ λ_=>jW ⟨a0,a1,a2,a3⟩ ⟨b0,b1,b2,b3⟩))) []:=by simp only[ht];exact Tg ht _ _ _ _ _ _ _ _ rfl
theorem WM(ht:TT t)(a0 a1 a2 a3 b0 b1 b2 b3:Int):FC 137 [V4 a0 a1 a2 a3,V4 b0 b1 b2 b3] [] (.ret (EVB (t _ λ_=>ix ⟨a0,a1,a2,a3⟩ ⟨b0,b1,b2,b3⟩))) []:=by simp only[ht];exact GY ht _ _ _ _ _ _ _ _ rfl
theorem M3(ht:TT t)(v1 v2 v3 v4:Int)(p:az)(a b c d e f g h:Int):
 FC 109 [V4 v1 v2 v3 v4,.agg [ST p,aA a,aA b,aA c,aA d,aA e,aA f,aA g,aA h]] [] (.ret (TH (t _ λ_=>iu ⟨v1,v2,v3,v4⟩ ⟨p,⟨a,b,c,d⟩,⟨e,f,g,h⟩⟩))) []:=by
 obtain⟨⟨⟨s1,s2,s3,s4⟩,k⟩,hS⟩:∃r,r=jW ⟨e,f,g,h⟩ ⟨v1,v2,v3,v4⟩:=⟨_,rfl⟩;refine cC ht Tryz.func109 (N:=28) ?_;cbv;refine iW hY (Tg ht _ _ _ _ _ _ _ _ ‹_›) hY rfl rfl ?_;cbv;apply aj<;>intro h0
 .simp[ht]at h0;cbv;refine ak ?_;(simp only[ht,iu,<-hS];simp_all;done)
 simp[ht]at h0;cbv;refine ar (qu ht _ _ _ _ _ _ _ _) hY (λr1 ej=>?_);simp only[ht]at ej;cbv;apply aj<;>intro h2
 .simp[ht]at h2;cbv;refine ak ?_;(simp only[ht,iu,<-hS];simp_all;done)
 simp[ht]at h2;cbv;refine ak ?_;(simp only[ht,iu,<-hS];simp_all;done)
theorem M4(ht:TT t)(v1 v2 v3 v4:Int)(p:az)(a b c d e f g h:Int):
 FC 163 [V4 v1 v2 v3 v4,.agg [ST p,aA a,aA b,aA c,aA d,aA e,aA f,aA g,aA h]] [] (.ret (TH (t _ λ_=>ff ⟨v1,v2,v3,v4⟩ ⟨p,⟨a,b,c,d⟩,⟨e,f,g,h⟩⟩))) []:=by
 obtain⟨⟨⟨s1,s2,s3,s4⟩,k⟩,hS⟩:∃r,r=ix ⟨e,f,g,h⟩ ⟨v1,v2,v3,v4⟩:=⟨_,rfl⟩;refine cC ht Tryz.func163 (N:=22) ?_;cbv;refine iW hY (GY ht _ _ _ _ _ _ _ _ ‹_›) hY rfl rfl ?_;cbv;apply aj<;>intro h0
 .simp[ht]at h0;cbv;refine ak ?_;(simp only[ht,ff,<-hS];simp_all;done)
 simp[ht]at h0;cbv;refine ak ?_;(simp only[ht,ff,<-hS];simp_all;done)
theorem WN(ht:TT t)(q:az){l:List aR}{es:List (List D)}(aD:es=l.map aR.cells)(hl:l.length<1000000000){r:Bool}(hr:r=decide (bZ l q<0)):
 FC 160 [ST q,.ptr 0 0] [.var [SL es]] (.ret (BL r)) [.var [SL es]]:=by
 refine kJ ht (aK:=[.var [SL es]]) Tryz.func160 rfl rfl (N:=8) rfl rfl (n:=1) rfl rfl ?_;cbv;have ay:es.length=l.length:=by rw[aD,lgM]
 refine ar (lS ht _ ‹_› ‹_›) hY (λr0 bM=>?_);simp only[ht]at bM;cbv;refine ak ?_;(simp[*];done)
theorem Qm(ht:TT t)(ts:List (List D)){l:List (az)}{es:List (List D)}(aD:es=l.map bp)(f:Nat)(p:az->Bool)(hl:l.length<9223372036854775807)
 (hf:∀x∈l,FC f [.d (.str x),.ptr 0 0] [.var [SL ts]] (.ret (BL (p x))) [.var [SL ts]]) {r:Int} (hr:r=idxOf p l):FC 149 [SL es,.fn f [.ptr 0 0]] [.var [SL ts]] (.ret (bf r)) [.var [SL ts]]:=by
 have hel:es.length=l.length:=by rw[aD,lgM]
 refine kJ ht (aK:=[.var [SL ts]]) Tryz.func149 rfl rfl (N:=19) rfl rfl (n:=1) rfl rfl ?_;cbv;refine bw ⟨[0,1,7,8],[],[]⟩ (σ:=Nat) (λk=>[(8,bf (t _ λ_=>(k:Int)))]) (λ_=>[]) (wL p l) ?_;cbv;refine aC ⟨l.length,0,.nil,by simp only[ht];rfl,λn k hj=>?_⟩;cbv;apply aj<;>intro h
 .simp only[ht,aa,vai]at h;have hk:k<es.length:=by omega
  obtain⟨x,hx,pM,px,hpx⟩:=hj.get (by omega);have iS:=hf x pM
  rw[<-hpx]at iS;skip;cbv;refine jG [.str x] ?_ ?_ ?_
  .simp only[ht,aa];exact sE aD hk λ_=>rfl
  .simp[ht,aa,aD,hx]
  cbv;refine dO hY iS ?_;cbv;apply aj<;>intro hb
  .cbv;refine ak ?_;simp only[ht,aa,hr,hj.hit hx (hpx▸hb)]
  cbv;refine aC ⟨n-1,k+1,⟨hj.lt hx,hj.next hx (hpx▸hb)⟩,?_⟩;simp only[ht,aa,aG (show k<9223372036854775807 by omega)];rfl
 simp only[ht,aa,vap]at h;have hk:l.length<=k:=by omega
 clear h;cbv;refine ak ?_;rw[hr,hj.none hk]
theorem Qn(ht:TT t)(ts:List (List D)){l:List (az)}{es:List (List D)}(aD:es=l.map bp)(f:Nat)(p:az->Bool)(hl:l.length<9223372036854775807)
 (hf:∀x∈l,FC f [.d (.str x),.ptr 0 0] [.var [SL ts]] (.ret (BL (p x))) [.var [SL ts]]) {r:Bool} (hr:r=l.any p):FC 95 [SL es,.fn f [.ptr 0 0]] [.var [SL ts]] (.ret (BL r)) [.var [SL ts]]:=by
 obtain⟨k,hk⟩:∃k,k=idxOf p l:=⟨_,rfl⟩;refine kJ ht (aK:=[.var [SL ts]]) Tryz.func95 rfl rfl (N:=9) rfl rfl (n:=1) rfl rfl ?_;cbv;refine dO hY (Qm ht ts aD f p hl hf hk) ?_;cbv;refine ak ?_;simp only[ht,hr,fL,hk]
theorem Qo(ht:TT t){l:List aR}{qs:List az}{es ss:List (List D)}(aD:es=l.map aR.cells)(hss:ss=qs.map bp)(hl:l.length<1000000000)(hq:qs.length<1000000000){r:Bool}(hr:r=qs.any (λq=>decide (bZ l q<0))):
 FC 95 [SL ss,.fn 160 [.ptr 0 0]] [.var [SL es]] (.ret (BL r)) [.var [SL es]]:=
 Qn ht es hss 160 (λq=>decide (bZ l q<0)) (by omega) (λx _=>WN ht x aD hl rfl) hr
theorem Kw(ht:TT t){es:List (List D)}(aD:∀r∈es,r.length=9)(hs:es.length*80<=140737488355328){m:Nat}(hm:m=es.length):
 FC 161 [SL es] [] (.ret (.ow 0 9 m)) [.row 9 es]:=by
 refine cC ht Tryz.func161 (N:=8) ?_;cbv;refine⟨λb hb=>?_⟩;simp only[ht]at hb;cbv;apply aj<;>intro h
 .have he:=hb h;subst he;cbv;exact Mi hY rfl rfl (by rw[hm];rfl) rfl
 clear hb h;cbv;refine⟨?_,?_⟩
 .simp only[ht];simp;exact⟨hs,aD⟩
 refine GA hY rfl rfl rfl rfl ?_ ?_
 .simp only[ht];rw[hm];simp
 simp only[ht];rfl
theorem Ho(ht:TT t){l:List aR}{es:List (List D)}(aD:es=l.map aR.cells)(hs:l.length<1000000000):
 FC 161 [SL es] [] (.ret (.ow 0 9 (t _ λ_=>(l.map aR.cells).length))) [.row 9 (t _ λ_=>l.map aR.cells)]:=by
 simp only[ht];subst aD;refine Kw ht ?_ ?_ (by simp)
 .intro r hr;obtain⟨y,_,rfl⟩:=List.mem_map.1 hr;rfl
 simp;omega
theorem Qp(q:az):(above q).length<=4:=by
 have h1:=iX q;have h2:=lF q
 simp only[above,List.length_cons];omega
theorem ZA{l:List aR}{qs:List az}{k:Nat}{x:az}(h:qs.any (λq=>decide (bZ l q<0))=false)(hx:qs[k]?=some x):∃(i:Nat) (y:aR),bZ l x=i/\l[i]?=some y/\i<l.length:=by
 have h1:¬bZ l x<0:=by
  intro h2;have:qs.any (λq=>decide (bZ l q<0))=true:=List.any_eq_true.2 ⟨x,vag hx,by simpa using h2⟩
  rw[h]at this;cases this
 rcases uc (q:=x) (r:=bZ l x) rfl with⟨e1,_,_⟩|⟨i,y,e1,_,e2,e3,_⟩
 .omega
 exact⟨i,y,e1,e3,e2⟩
theorem OW(ht:TT t)(f:Nat)(g:aR->aR×Int)(v1 v2 v3 v4:Int)(q:az){l:List aR}{es:List (List D)}(aD:es=l.map aR.cells)(hl:l.length<100000)(hq:q.length<1000000000000)
 (hf:∀(p:az) (a b c d e z g0 h:Int),FC f [V4 v1 v2 v3 v4,.agg [ST p,aA a,aA b,aA c,aA d,aA e,aA z,aA g0,aA h]] [] (.ret (TH (t _ λ_=>g ⟨p,⟨a,b,c,d⟩,⟨e,z,g0,h⟩⟩))) []):
 FC 108 [SL es,ST q,.fn f [.c5 [V4 v1 v2 v3 v4]]] [] (.ret (Hi t (t _ λ_=>sq g l q))) []:=by
 have hal:=Qp q;obtain⟨nq,HT⟩:∃p,p=named q:=⟨_,rfl⟩;obtain⟨aq,haq⟩:∃p,p=above q:=⟨_,rfl⟩;rw[<-haq]at hal;refine cC ht Tryz.func108 (N:=55) ?_;cbv;have ay:es.length=l.length:=by rw[aD,lgM]
 refine ar (yS ht _ ‹_›) hY (λr0 bM=>?_);simp only[ht]at bM;rw[<-HT]at bM;subst r0;cbv;apply aj<;>intro h1
 .simp[ht]at h1;cbv;refine ak ?_;(simp only[ht,sq,<-HT,<-haq];simp_all;done)
 simp[ht]at h1;cbv;refine aM (Kt ht _ ‹_›) hY (λr2 dj=>?_);simp only[ht]at dj;rw[<-haq]at dj;subst r2;cbv;(obtain⟨r9,dR⟩:∃r,r=aq.any (λq=>decide (bZ l q<0)):=⟨_,rfl⟩;refine aW [0] hY rfl rfl (Qo ht aD (qs:=aq) (by simp only[ht]) (by omega) (by omega) dR) (aH ?_));cbv;apply aj<;>intro h3
 .cbv;refine ak ?_;(simp only[ht,sq,<-HT,<-haq];simp_all;done)
 cbv;refine sj hY (Ho ht ‹_› (by omega)) hY rfl (.inr rfl) ?_;cbv;obtain⟨J4,HS⟩:∃J4:Nat->Int×List (List D)->Prop,∀n i u,J4 n (i,u)↔(∃(k:Nat) (o:List aR),i=k/\k+n=aq.length/\u=o.map aR.cells/\o.length=l.length/\sq g l q=lG g l (aq.drop k) o):=⟨λn v=>match v with|(i,u)=>(∃(k:Nat) (o:List aR),i=k/\k+n=aq.length/\u=o.map aR.cells/\o.length=l.length/\sq g l q=lG g l (aq.drop k) o),λ_ _ _=>Iff.rfl⟩;refine bw ⟨[2,3,9,27,28,29],[],[]⟩ (σ:=Int×List (List D)) (λv=>[(29,.d (.int .i64 (t _ λ_=>v.1)))]) (λv=>[(1,.row 9 (t _ λ_=>v.2))]) J4 ?_;cbv;refine aC ⟨aq.length,(_,_),(HS _ _ _).2 ?_,by simp only[ht];rfl,?_⟩
 .exact⟨0,l,rfl,by simp,rfl,rfl,by rw[sq,<-HT,<-haq,<-dR];simp_all⟩
 rintro n ⟨i,u⟩ hj;replace hj:=(HS _ _ _).1 hj;obtain⟨k,o,rfl,j1,j2,j3,j4⟩:=hj;have OJ:u.length=o.length:=by rw[j2,lgM]
 cbv;apply aj<;>intro h5
 .simp[ht,aa]at h5;cbv;(refine eT ht (l:=aq) (cells:=bp) (cT:=fM t) (by simp only[ht];done) (by simp only[ht,aa];omega) (by simp only[ht,aa];omega) (λ_=>rfl) (λ_=>rfl) (λxn TJ=>?_);simp only[ht]at TJ;replace TJ:aq[k]?=some xn:=TJ;rw[cu TJ,lG]at j4;obtain⟨zz,y,e1,e2,e3⟩:=ZA (dR.symm.trans ‹_›) TJ;rw[e1]at j4;simp only[vak,vam,e2,Option.getD_some]at j4);cbv;refine ar (lS ht _ ‹_› (by omega)) hY (λr6 jK=>?_);simp only[ht]at jK;rw[e1]at jK;cbv;refine El ht aD (cT:=aR.aS t) e2 ‹_› (λ_=>rfl) (λ_=>rfl) ?_;cbv;(refine ar (hf _ _ _ _ _ _ _ _ _) hY (λrg erg=>?_);simp only[ht]at erg;obtain⟨⟨gp,⟨ga,gb,gc,gd⟩,⟨ge,gf,gg,gh⟩⟩,ge0⟩:=rg;replace erg:_=g y:=erg;rw[<-erg]at j4;simp only at j4);cbv;apply aj<;>intro h8
  .simp[ht]at h8;cbv;refine ak ?_;(simp[*];done)
  simp[ht]at h8;cbv;refine⟨?_,?_⟩
  ·(simp only[ht];simp_all;done)
  refine⟨?_,?_⟩
  ·(simp only[ht];simp_all;done)
  cbv;refine bA (_,_) (by simp only[ht];rfl) (n-1) ?_ ((HS _ _ _).2 ?_)
  .omega
  simp only[aa];(refine⟨k+1,o.set zz ⟨gp,⟨ga,gb,gc,gd⟩,⟨ge,gf,gg,gh⟩⟩,aG (by omega),by omega,?_,by simp[j3],?_⟩<;>simp_all[bP,List.map_set])
 simp[ht,aa]at h5;cbv;(refine ia hY (by simp only[ht];simp[OJ,j3]) rfl rfl rfl ?_;rw[vah (by omega),lG]at j4;simp only[ht,j4,j2];done)
theorem M5(ht:TT t)(q:az)(v1 v2 v3 v4:Int){l:List aR}{es:List (List D)}(aD:es=l.map aR.cells)(hl:l.length<100000)(hq:q.length<1000000000000):
 FC 43 [SL es,ST q,V4 v1 v2 v3 v4] [] (.ret (Hi t (t _ λ_=>jz l q ⟨v1,v2,v3,v4⟩))) []:=by
 have hc:=OW ht 109 (iu ⟨v1,v2,v3,v4⟩) v1 v2 v3 v4 q aD hl hq (λp a b c d e z g0 h=>M3 ht v1 v2 v3 v4 p a b c d e z g0 h);refine cC ht Tryz.func43 (N:=16) ?_;cbv;have ay:es.length=l.length:=by rw[aD,lgM]
 (refine aM hc hY (λr9 dR=>?_);simp only[ht]at dR);cbv;refine ak ?_;(simp[jz, *];done)
theorem M6(ht:TT t)(q:az)(v1 v2 v3 v4:Int){l:List aR}{es:List (List D)}(aD:es=l.map aR.cells)(hl:l.length<100000)(hq:q.length<1000000000000):
 FC 112 [SL es,ST q,V4 v1 v2 v3 v4] [] (.ret (Hi t (t _ λ_=>uO l q ⟨v1,v2,v3,v4⟩))) []:=by
 have hc:=OW ht 163 (ff ⟨v1,v2,v3,v4⟩) v1 v2 v3 v4 q aD hl hq (λp a b c d e z g0 h=>M4 ht v1 v2 v3 v4 p a b c d e z g0 h);refine cC ht Tryz.func112 (N:=16) ?_;cbv;have ay:es.length=l.length:=by rw[aD,lgM]
 (refine aM hc hY (λr9 dR=>?_);simp only[ht]at dR);cbv;refine ak ?_;(simp[uO, *];done)
theorem Qq(ht:TT t)(p:az)(a b c d e f g h:Int){l:List aR}{es:List (List D)}(aD:es=l.map aR.cells)(hl:l.length<100000)(iC:∀x∈l,x.path.length<1000000000000):
 FC 120 [SL es,.agg [ST p,aA a,aA b,aA c,aA d,aA e,aA f,aA g,aA h]] [] (.ret (cA (t _ λ_=>mT l ⟨p,⟨a,b,c,d⟩,⟨e,f,g,h⟩⟩))) []:=by
 refine cC ht Tryz.func120 (N:=49) ?_;cbv;have ay:es.length=l.length:=by rw[aD,lgM]
 obtain⟨J0,dZ⟩:∃J0:Nat->Int×Int×Int×Int×Int->Prop,∀n i s1 s2 s3 s4,J0 n (i,s1,s2,s3,s4)↔(∃k:Nat,i=k/\k+n=l.length/\su p l bz.zero=su p (l.drop k) ⟨s1,s2,s3,s4⟩):=⟨λn v=>match v with|(i,s1,s2,s3,s4)=>(∃k:Nat,i=k/\k+n=l.length/\su p l bz.zero=su p (l.drop k) ⟨s1,s2,s3,s4⟩),λ_ _ _ _ _ _=>Iff.rfl⟩;refine bw ⟨[3,5,10,11,12],[],[]⟩ (σ:=Int×Int×Int×Int×Int) (λv=>[(12,.d (.int .i64 (t _ λ_=>v.1)))]) (λv=>[(1,.var [.d (.int .u64 (t _ λ_=>v.2.1)),.d (.int .u64 (t _ λ_=>v.2.2.1)),.d (.int .u64 (t _ λ_=>v.2.2.2.1)),.d (.int .u64 (t _ λ_=>v.2.2.2.2))])]) J0 ?_;cbv;refine aC ⟨l.length,(_,_,_,_,_),(dZ _ _ _ _ _ _).2 ?_,by simp only[ht];rfl,?_⟩
 .exact⟨0,rfl,by simp,rfl⟩
 rintro n ⟨i,s1,s2,s3,s4⟩ hj;replace hj:=(dZ _ _ _ _ _ _).1 hj;obtain⟨k,rfl,j1,j4⟩:=hj;cbv;apply aj<;>intro h1
 .simp[ht,aa,ay]at h1;cbv;refine eT ht aD (cT:=aR.aS t) (by(simp only[ht,aa];omega)) (by(simp only[ht,aa];omega)) (λ_=>rfl) (λ_=>rfl) (λx2 jX=>?_);simp[ht,aa]at jX;obtain⟨pp,Ls⟩:∃pp,pp=parent (x2).path:=⟨_,rfl⟩;obtain⟨⟨⟨w1,w2,w3,w4⟩,wk⟩,hW⟩:∃r,r=jW ⟨s1,s2,s3,s4⟩ (x2).used:=⟨_,rfl⟩;rw[cu jX,su,<-Ls,<-hW]at j4;have sx2:=iC _ (vag jX)
  cbv;refine bE [true,true,true,true,false,false,false,false,false,true,true] ?_;cbv;iterate 2 refine gI (by simp[ht]) ?_
  refine aT (λg3=>⟨by simp[ht]at g3 ⊢;exact g3,hY,u7 ht _ ‹_›⟩) rfl rfl (λr4 eY=>?_);simp only[ht]at eY;rw[<-Ls]at eY;subst r4;cbv;iterate 3 refine gI (by simp[ht]) ?_
  refine pI (by simp[ht]) ?_;apply aj<;>intro h5
  .simp[ht]at h5;cbv;refine bA (_,_,_,_,_) (by simp only[ht];rfl) (n-1) ?_ ((dZ _ _ _ _ _ _).2 ?_)
   .omega
   simp only[aa];(refine⟨k+1,aG (by omega),by omega,?_⟩;rw[j4];clear j4 dZ;rcases h5 with h5|h5<;>simp[h5];done)
  simp[ht]at h5;cbv;refine ar (OV ht _ _ _ _ _ _ _ _) hY (λr6 jK=>?_);simp only[ht]at jK;replace jK:=jK.trans (show _=((⟨w1,w2,w3,w4⟩,wk):bz×Bool)from hW.symm);subst r6;cbv;apply aj<;>intro h7
  .simp[ht]at h7;cbv;refine ak ?_;(simp only[ht,mT];rw[j4];simp_all;done)
  simp[ht]at h7;cbv;refine bA (_,_,_,_,_) (by simp only[ht];rfl) (n-1) ?_ ((dZ _ _ _ _ _ _).2 ?_)
  .omega
  simp only[aa];(refine⟨k+1,aG (by omega),by omega,?_⟩;simp only at j4;rw[j4];simp_all;done)
 simp[ht,aa,ay]at h1;cbv;refine ar (qu ht _ _ _ _ _ _ _ _) hY (λr8 tV=>?_);simp only[ht]at tV;cbv;iterate 3 refine gI (by simp) ?_
 refine aT (λg9=>⟨by simp at g9 ⊢;exact g9,hY,qu ht _ _ _ _ _ _ _ _⟩) rfl rfl (λr10 Dz=>?_);simp only[ht]at Dz;cbv;refine pI (by simp) ?_;refine ak ?_;(rw[vah (by omega),su]at j4;simp[mT, *];done)
theorem TK(ht:TT t)(x:aR){l:List aR}{es:List (List D)}(aD:es=l.map aR.cells)(hl:l.length<100000)(iC:∀x∈l,x.path.length<1000000000000){r:Bool}(hr:r=!mT l x):
 FC 119 [.agg [ST x.path,aA x.cU.a,aA x.cU.b,aA x.cU.c,aA x.cU.d,aA x.used.a,aA x.used.b,aA x.used.c,aA x.used.d],.ptr 0 0] [.var [SL es]] (.ret (BL r)) [.var [SL es]]:=by
 obtain⟨nm,⟨a,b,c,d⟩,⟨e,g,u,v⟩⟩:=x;refine kJ ht (aK:=[.var [SL es]]) Tryz.func119 rfl rfl (N:=8) rfl rfl (n:=1) rfl rfl ?_;cbv;have ay:es.length=l.length:=by rw[aD,lgM]
 refine ar (Qq ht _ _ _ _ _ _ _ _ _ ‹_› ‹_› ‹_›) hY (λr0 bM=>?_);simp only[ht]at bM;cbv;refine ak ?_;(simp[*];done)
theorem Qr(ht:TT t)(ts:List (List D)){l:List (aR)}{es:List (List D)}(aD:es=l.map aR.cells)(f:Nat)(p:aR->Bool)(hl:l.length<9223372036854775807)
 (hf:∀x∈l,FC f [.agg [ST x.path,aA x.cU.a,aA x.cU.b,aA x.cU.c,aA x.cU.d,aA x.used.a,aA x.used.b,aA x.used.c,aA x.used.d],.ptr 0 0] [.var [SL ts]] (.ret (BL (p x))) [.var [SL ts]]) {r:Int} (hr:r=idxOf p l):FC 82 [SL es,.fn f [.ptr 0 0]] [.var [SL ts]] (.ret (bf r)) [.var [SL ts]]:=by
 have hel:es.length=l.length:=by rw[aD,lgM]
 refine kJ ht (aK:=[.var [SL ts]]) Tryz.func82 rfl rfl (N:=19) rfl rfl (n:=1) rfl rfl ?_;cbv;refine bw ⟨[0,1,7,8],[],[]⟩ (σ:=Nat) (λk=>[(8,bf (t _ λ_=>(k:Int)))]) (λ_=>[]) (wL p l) ?_;cbv;refine aC ⟨l.length,0,.nil,by simp only[ht];rfl,λn k hj=>?_⟩;cbv;apply aj<;>intro h
 .simp only[ht,aa,vai]at h;have hk:k<es.length:=by omega
  obtain⟨x,hx,pM,px,hpx⟩:=hj.get (by omega);have iS:=hf x pM
  rw[<-hpx]at iS;obtain⟨nm,⟨a,b,c,d⟩,⟨e,g,u,v⟩⟩:=x;cbv;refine jG [.str nm,.int .u64 a,.int .u64 b,.int .u64 c,.int .u64 d,.int .u64 e,.int .u64 g,.int .u64 u,.int .u64 v] ?_ ?_ ?_
  .simp only[ht,aa];exact sE aD hk λ_=>rfl
  .simp[ht,aa,aD,hx]
  cbv;refine dO hY iS ?_;cbv;apply aj<;>intro hb
  .cbv;refine ak ?_;simp only[ht,aa,hr,hj.hit hx (hpx▸hb)]
  cbv;refine aC ⟨n-1,k+1,⟨hj.lt hx,hj.next hx (hpx▸hb)⟩,?_⟩;simp only[ht,aa,aG (show k<9223372036854775807 by omega)];rfl
 simp only[ht,aa,vap]at h;have hk:l.length<=k:=by omega
 clear h;cbv;refine ak ?_;rw[hr,hj.none hk]
theorem Qs(ht:TT t)(ts:List (List D)){l:List (aR)}{es:List (List D)}(aD:es=l.map aR.cells)(f:Nat)(p:aR->Bool)(hl:l.length<9223372036854775807)
 (hf:∀x∈l,FC f [.agg [ST x.path,aA x.cU.a,aA x.cU.b,aA x.cU.c,aA x.cU.d,aA x.used.a,aA x.used.b,aA x.used.c,aA x.used.d],.ptr 0 0] [.var [SL ts]] (.ret (BL (p x))) [.var [SL ts]]) {r:Bool} (hr:r=l.any p):FC 57 [SL es,.fn f [.ptr 0 0]] [.var [SL ts]] (.ret (BL r)) [.var [SL ts]]:=by
 obtain⟨k,hk⟩:∃k,k=idxOf p l:=⟨_,rfl⟩;refine kJ ht (aK:=[.var [SL ts]]) Tryz.func57 rfl rfl (N:=9) rfl rfl (n:=1) rfl rfl ?_;cbv;refine dO hY (Qr ht ts aD f p hl hf hk) ?_;cbv;refine ak ?_;simp only[ht,hr,fL,hk]
theorem Qt(ht:TT t){l:List aR}{es:List (List D)}(aD:es=l.map aR.cells)(hl:l.length<100000)(iC:∀x∈l,x.path.length<1000000000000){r:Bool}(hr:r=l.any (λe=>!mT l e)):
 FC 57 [SL es,.fn 119 [.ptr 0 0]] [.var [SL es]] (.ret (BL r)) [.var [SL es]]:=
 Qs ht es aD 119 (λe=>!mT l e) (by omega) (λx _=>TK ht x aD hl iC rfl) hr
def qB(l:List aR)(k:Nat):Option az:=match k with
 |0=>none|k+1=>(l[k]?).map (·.path)
def Qu(all:List aR)(q:az)(e:aR):Bool:=!sle e.path q&&named e.path&&!decide (bZ all (parent e.path)<0)
theorem Kx{all l:List aR}{k:Nat}{x:aR}(hx:all[k]?=some x):fG all (qB all k) (x::l)=((decide (k=0)||match all[k-1]? with|none=>true|some y=>Qu all y.path x)&&fG all (qB all (k+1)) l):=by
 cases k with
 |zero=>simp[qB,fG,hx]|succ k=>
  have hk:k<all.length:=by have:=(List.getElem?_eq_some_iff.1 hx).1;omega
  simp only[qB,hx,vaj hk,vau,fG,Qu];simp[vaj hk]
theorem Qv{l:List aR}(h:l.length<1∨16<l.length∨∃x,l[0]?=some x/\x.path≠[]):ic l=false:=by
 unfold ic;rcases h with h|h|⟨x,h,h2⟩
 .rw[if_pos h]
 .rw[if_neg (by omega),if_pos h]
 by_cases a:l.length<1
 .rw[if_pos a]
 by_cases b:16<l.length
 .rw[if_neg a,if_pos b]
 rw[if_neg a,if_neg b,if_pos (by simpa[vam,h]using h2)]
theorem M7{l:List aR}{x0:aR}(hx0:0<l.length->l[0]?=some x0)(h0:((l.length:Int)<1∨16<(l.length:Int))∨¬x0.path=[]):ic l=false:=by
 refine Qv ?_;by_cases a:l.length<1
 .exact .inl a
 rcases h0 with(h|h)|h
 .omega
 .exact .inr (.inl (by omega))
 exact .inr (.inr ⟨x0,hx0 (by omega),h⟩)
theorem Ba{l:List aR}{x0:aR}(hx0:0<l.length->l[0]?=some x0)(h0:(1<=(l.length:Int)/\(l.length:Int)<=16)/\x0.path=[]):ic l=(fG l none l&&!(l.any λe=>!mT l e)):=by unfold ic;rw[if_neg (by omega),if_neg (by omega),if_neg (by have:=hx0 (by omega);simp[vam,this,h0.2])]
theorem Ky{l:List aR}{x0 x y:aR}{k:Nat}{r5 rest:Bool}{r7:az}{r9:Int}(hx0:0<l.length->l[0]?=some x0)(h0:(1<=(l.length:Int)/\(l.length:Int)<=16)/\x0.path=[])
 (j4:fG l none l=((decide (k=0)||match l[k-1]? with|none=>true|some y=>Qu l y.path x)&&rest)) (my:0<k->l[k-1]?=some y) (e5:r5=named x.path) (e7:r7=parent x.path) (e9:r9=bZ l r7)
 (h:0<k/\(((Op.bytesLess x.path y.path=true∨x.path=y.path)∨r5=false)∨r9<0)):ic l=false:=by
 subst e7 e5 e9;rw[Ba hx0 h0,j4,my h.1];have k0:¬k=0:=by omega
 rcases h.2 with((h1|h1)|h1)|h1<;>simp[k0,Qu,sle,h1]
theorem Qw{l:List aR}{x y:aR}{k:Nat}{r5 rest:Bool}{r7:az}{r9:Int}
 (my:0<k->l[k-1]?=some y) (e5:r5=named x.path) (e7:r7=parent x.path) (e9:r9=bZ l r7)
 (h:0<k->((Op.bytesLess x.path y.path=false/\¬x.path=y.path)/\r5=true)/\0<=r9):((decide (k=0)||match l[k-1]? with|none=>true|some y=>Qu l y.path x)&&rest)=rest:=by
 subst e7 e5 e9;by_cases k0:k=0
 .simp[k0]
 have h:=h (by omega);rw[my (by omega)];have:=h.2
 simp[k0,Qu,sle,h.1.1.1,h.1.1.2,h.1.2];omega
theorem FF(ht:TT t){l:List aR}{es:List (List D)}(aD:es=l.map aR.cells)(hl:l.length<100000)(iC:∀x∈l,x.path.length<1000000000000):
 FC 52 [SL es] [] (.ret (cA (t _ λ_=>ic l))) []:=by
 obtain⟨x0,hx0⟩:=elemAt l 0;refine cC ht Tryz.func52 (N:=59) ?_;cbv;have ay:es.length=l.length:=by rw[aD,lgM]
 iterate 3 refine gI (by simp[ht]) ?_
 refine pI (by simp[ht]) ?_;refine gI (by simp[ht]) ?_;(refine TF ht aD (cT:=aR.aS t) 0 x0 (λg=>by simp[ht,aa]at g;exact⟨rfl,hx0 (by omega)⟩) (λ_=>rfl) (λ_=>rfl) (λg=>by exact⟨g,hY⟩) ?_);cbv;iterate 3 refine gI (by simp[ht]) ?_
 refine pI (by simp[ht]) ?_;apply aj<;>intro h0
 .simp[ht,aa,ay]at h0;cbv;refine ak ?_;(simp only[ht];rw[M7 hx0 h0])
 simp[ht,aa,ay]at h0;cbv;obtain⟨J1,iB⟩:∃J1:Nat->Int->Prop,∀n i,J1 n i↔(∃k:Nat,i=k/\k+n=l.length/\fG l none l=fG l (qB l k) (l.drop k)):=⟨λn v=>match v with|i=>(∃k:Nat,i=k/\k+n=l.length/\fG l none l=fG l (qB l k) (l.drop k)),λ_ _=>Iff.rfl⟩;refine bw ⟨[1,20,21,22],[],[]⟩ (σ:=Int) (λv=>[(22,.d (.int .i64 (t _ λ_=>v)))]) (λv=>[]) J1 ?_;cbv;refine aC ⟨l.length,_,(iB _ _).2 ?_,by simp only[ht];rfl,?_⟩
 .exact⟨0,rfl,by simp,rfl⟩
 rintro n i hj;replace hj:=(iB _ _).1 hj;obtain⟨k,rfl,j1,j4⟩:=hj;cbv;apply aj<;>intro h2
 .simp[ht,aa,ay]at h2;cbv;refine eT ht aD (cT:=aR.aS t) (by(simp only[ht,aa];omega)) (by(simp only[ht,aa];omega)) (λ_=>rfl) (λ_=>rfl) (λx3 oU=>?_);simp[ht,aa]at oU;rw[cu oU,Kx oU]at j4;have sx3:=iC _ (vag oU)
  cbv;refine bE [true,true,true,false,false,false,false,false,false,false,false,true,true,true,true,true,true,true,true,false,false,false,false,true,true,true,true] ?_;cbv;iterate 5 refine gI (by simp[ht]) ?_
  (refine JB ht aD (cT:=aR.aS t) (k-1) (λg=>by simp[ht,aa]at g ⊢;simp[g]) (λg=>by simp[ht,aa]at g;simp only[ht,aa];exact⟨yu (by omega) (by omega),by omega⟩) (λ_=>rfl) (λ_=>rfl) (λy my=>?_);simp[ht,aa]at my);cbv;iterate 6 refine gI (by simp[ht]) ?_
  refine aT (λg4=>⟨by simp[ht]at g4 ⊢;exact g4,hY,yS ht _ ‹_›⟩) rfl rfl (λr5 lp=>?_);simp only[ht]at lp;cbv;refine gI (by simp[ht]) ?_;refine gI (by simp[ht,ah];intros;simp_all) ?_;iterate 4 refine gI (by simp[ht]) ?_
  refine aT (λg6=>⟨by simp[ht]at g6 ⊢;exact g6,hY,u7 ht _ ‹_›⟩) rfl rfl (λr7 jU=>?_);simp only[ht]at jU;cbv;refine aT (λg8=>⟨by simp[ht]at g8 ⊢;exact g8,hY,lS ht _ ‹_› (by omega)⟩) rfl rfl (λr9 dR=>?_);simp only[ht]at dR;cbv;refine gI (by simp[ht]) ?_;refine gI (by simp[ht,ah];intros;simp_all) ?_;refine pI (by simp[ht]) ?_;apply aj<;>intro h10
  .simp[ht,aa]at h10;cbv;refine ak ?_;(simp only[ht];rw[Ky hx0 h0 j4 my lp jU dR h10])
  simp[ht,aa]at h10;cbv;refine bA _ (by simp only[ht];rfl) (n-1) ?_ ((iB _ _).2 ?_)
  .omega
  simp only[aa];exact⟨k+1,aG (by omega),by omega,j4.trans (Qw my lp jU dR h10)⟩
 simp[ht,aa,ay]at h2;cbv;(obtain⟨r9,dR⟩:∃r,r=l.any (λe=>!mT l e):=⟨_,rfl⟩;refine aW [0] hY rfl rfl (Qt ht aD (by omega) iC dR) (aH ?_));cbv;refine ak ?_;(rw[vah (by omega),fG]at j4;simp only[ht,Ba hx0 h0,j4,Bool.true_and,<-dR];done)
theorem Kz{s:az}{p m:Int}:((aI s p m).t.length:Int)<=max m 0:=by
 unfold aI;split
 .rename_i h;simp only[vav,vaw];omega
 simp[GI.no];omega
def abV(r:bD aR):AV:=.c5 [Zy r.x,bf r.next,BL r.ok]
def TL(t:Th)(r:bD (List aR)):AV:=.c5 [OU t r.x,bf r.next,BL r.ok]
theorem WO(ht:TT t)(s:az)(p:Int)(hs:s.length<9223372036854775000)(hp:p<9223372036854775808):FC 132 [ST s,bf p] [] (.ret (abV (t _ λ_=>tN s p))) []:=by
 refine cC ht Tryz.func132 (N:=40) ?_;cbv;refine ar (fW ht _ _ _ ‹_› ‹_› (by omega)) hY (λr0 bM=>?_);simp only[ht]at bM;have To:=dx (s:=s) (p:=p) (m:=98) hs
 (try rw[<-bM]at To);(try obtain⟨ad3,ad4,ad5⟩:=To);cbv;apply aj<;>intro h1
 .simp[ht]at h1;cbv;refine ak ?_;(simp only[ht,tN,bD.VT,aR.zero,bz.zero];grind)
 simp[ht]at h1;cbv;refine ar (uV ht _ _ ‹_› (by(refine Int.lt_of_le_of_lt ‹_› (by((try simp only[aa]at*);omega))))) hY (λr2 dj=>?_);simp only[ht]at dj;have ahe:(r2).next<=s.length:=by rw[dj];exact rF
 cbv;apply aj<;>intro h3
 .simp[ht]at h3;cbv;refine ak ?_;(simp only[ht,tN,bD.VT,aR.zero,bz.zero];grind)
 simp[ht]at h3;cbv;refine ar (uV ht _ _ ‹_› (by(refine Int.lt_of_le_of_lt ‹_› (by((try simp only[aa]at*);omega))))) hY (λr4 eY=>?_);simp only[ht]at eY;have ahf:(r4).next<=s.length:=by rw[eY];exact rF
 cbv;refine ak ?_;(simp only[ht,tN,bD.VT,aR.zero,bz.zero];grind)
theorem WQ{s:az}{p:Int}:(tN s p).next<=s.length:=by
 unfold tN;split;· simp[bD.VT]
 split;· simp[bD.VT]
 exact rF
theorem WR{s:az}{p:Int}:(tN s p).x.path.length<1000000000000:=by
 have:=Kz (s:=s) (p:=p) (m:=98);unfold tN;split;· simp[bD.VT,aR.zero]
 split;· simp[bD.VT,aR.zero]
 simp only;omega
theorem M8{s:az}{n:Nat}{l:List aR}{p:Int}{r:bD aR}(e:r=tN s p):gM s (n+1) l p=if !r.ok then bD.py else if decide (r.x=aR.zero)&&decide (0<l.length)then bD.py else gM s n (l++[r.x]) r.next:=by rw[gM,e]
theorem ZB{x y:aR}:x=y↔x.path=y.path/\x.cU=y.cU/\x.used=y.used:=by cases x;cases y;simp
theorem KA{x:aR}:x=aR.zero↔x.path=[]/\(x.cU.a=0/\x.cU.b=0/\x.cU.c=0/\x.cU.d=0)/\x.used.a=0/\x.used.b=0/\x.used.c=0/\x.used.d=0:=by rw[ZB,pi,pi];simp[aR.zero,bz.zero]
theorem TM{s:az}{p:Int}{r:BK}(e:r=aV s p)(h:r.ok=false∨16<r.u):pG s p=bD.py:=by
 unfold pG;rw[<-e];by_cases a:r.ok=true
 .rcases h with h|h
  .rw[a]at h;cases h
  simp[a,h]
 simp[a]
theorem TN{s:az}{p:Int}{r:BK}(e:r=aV s p)(h:r.ok=true/\r.u<=16)(j:gM s r.u.toNat [] r.next=bD.py):pG s p=bD.py:=by unfold pG;rw[<-e,j];simp only[h.1,bD.py];split<;>simp
theorem KB{s:az}{p a:Int}{r:BK}{rs:List aR}(e:r=aV s p)(h:r.ok=true/\r.u<=16)(j:gM s r.u.toNat [] r.next=⟨rs,a,true⟩):pG s p=if ic rs then⟨rs,a,true⟩else bD.py:=by
 unfold pG;rw[<-e,j];have:¬16<r.u:=by omega
 cases hr:ic rs<;>simp[h.1,this]
theorem M9{r:bD aR}{rs:List aR}{z:bD (List aR)}(h:r.ok=false∨(r.x.path=[]/\(r.x.cU.a=0/\r.x.cU.b=0/\r.x.cU.c=0/\r.x.cU.d=0)/\r.x.used.a=0/\r.x.used.b=0/\r.x.used.c=0/\r.x.used.d=0)/\0<rs.length):
 (if(!r.ok)=true then bD.py else if(decide (r.x=aR.zero)&&decide (0<rs.length))=true then bD.py else z)=bD.py:=by
 rcases h with h|⟨h,h2⟩
 .simp[h]
 rw[<-KA]at h;split;· rfl
 rw[if_pos (by simp[h,h2])]
theorem TO{r:bD aR}{rs:List aR}{z:bD (List aR)}(h:r.ok=true/\(r.x.path=[]->r.x.cU.a=0->r.x.cU.b=0->r.x.cU.c=0->r.x.cU.d=0->r.x.used.a=0->r.x.used.b=0->r.x.used.c=0->r.x.used.d=0->rs=[])):
 (if(!r.ok)=true then bD.py else if(decide (r.x=aR.zero)&&decide (0<rs.length))=true then bD.py else z)=z:=by
 rw[if_neg (by simp[h.1]),if_neg];rw[vae];rintro⟨h1,h2⟩;rw[vai,KA]at h1;obtain⟨a,⟨b,c,d,e⟩,f,g,i,j⟩:=h1;rw[h.2 a b c d e f g i j]at h2;simp at h2
theorem Hp(ht:TT t)(s:az)(p:Int)(hs:s.length<9223372036854775000)(hp:p<9223372036854775808):FC 70 [ST s,bf p] [] (.ret (TL t (t _ λ_=>pG s p))) []:=by
 refine cC ht Tryz.func70 (N:=57) ?_;cbv;refine ar (eF ht _ _ ‹_› ‹_›) hY (λr0 bM=>?_);simp only[ht]at bM;have gb:=eE (s:=s) (p:=p)
 rw[<-bM]at gb;cbv;iterate 2 refine gI (by simp[ht]) ?_
 refine pI (by simp[ht]) ?_;apply aj<;>intro h1
 .simp[ht]at h1;cbv;refine ak ?_;(simp only[ht,TM bM h1,bD.py];rfl)
 simp[ht]at h1;cbv;obtain⟨J2,MV⟩:∃J2:Nat->Int×List (List D)×Int->Prop,∀n a o i,J2 n (a,o,i)↔(∃(k:Nat) (rs:List aR),i=k/\k+n=r0.u.toNat/\o=rs.map aR.cells/\rs.length=k/\a<9223372036854775808/\(∀x∈rs,x.path.length<1000000000000)/\gM s r0.u.toNat [] r0.next=gM s n rs a):=⟨λn v=>match v with|(a,o,i)=>(∃(k:Nat) (rs:List aR),i=k/\k+n=r0.u.toNat/\o=rs.map aR.cells/\rs.length=k/\a<9223372036854775808/\(∀x∈rs,x.path.length<1000000000000)/\gM s r0.u.toNat [] r0.next=gM s n rs a),λ_ _ _ _=>Iff.rfl⟩;refine bw ⟨[0,1,4,24,25],[(4,9)],[]⟩ (σ:=Int×List (List D)×Int) (λv=>[(1,.d (.int .i64 (t _ λ_=>v.1))),(4,.ow 0 9 (t _ λ_=>(v.2.1).length)),(25,.d (.int .u64 (t _ λ_=>v.2.2)))]) (λv=>[(0,.row 9 (t _ λ_=>v.2.1))]) J2 ?_;cbv;refine aC ⟨r0.u.toNat,(_,[],_),(MV _ _ _ _).2 ?_,by simp only[ht];rfl,?_⟩
 ·(have g:=gb (by simp_all);exact⟨0,[],rfl,by omega,rfl,rfl,Int.lt_of_le_of_lt g.2.2.1 (by((try simp only[aa]at*);omega)),by simp,rfl⟩)
 rintro n ⟨a,o,i⟩ hj;replace hj:=(MV _ _ _ _).1 hj;obtain⟨k,rs,j1,j3,j2,j5,j6,j7,j4⟩:=hj;have vM:o.length=rs.length:=by rw[j2,lgM]
 cbv;apply aj<;>intro h3
 .simp[ht]at h3;cbv;refine ar (WO ht _ _ ‹_› (by(simp only[ht];omega))) hY (λr4 eY=>?_);simp only[ht]at eY;have Tp:=WQ (s:=s) (p:=a)
  have gb3:=WR (s:=s) (p:=a);rw[<-eY]at Tp gb3;obtain⟨m,rfl⟩:∃m,n=m+1:=⟨n-1,by((try simp only[aa]at*);omega)⟩;rw[M8 eY]at j4;cbv;iterate 7 refine gI (by simp[ht]) ?_
  refine gI (by simp[ht,ah];intros;simp_all) ?_;refine pI (by simp[ht]) ?_;apply aj<;>intro h5
  .simp[ht,aa,vM]at h5;cbv;refine ak ?_;(simp only[ht,TN bM h1 (j4.trans (M9 h5)),bD.py];rfl)
  simp[ht,aa,vM]at h5;cbv;refine⟨?_,?_⟩
  ·(simp only[ht,true_and];exact C6 j2 (λ_=>rfl) rfl (by omega) (by decide))
  cbv;refine bA (_,_,_) (by simp only[ht,<-vaa];rfl) m ?_ ((MV _ _ _ _).2 ?_)
  .omega
  simp only[aa];exact⟨k+1,rs++[(r4).x],by rw[bW];((try simp only[aa]at*);omega),by omega,by rw[j2];simp,by simp;omega,Int.lt_of_le_of_lt Tp (by((try simp only[aa]at*);omega)),(by intro y hy;rcases List.mem_append.1 hy with hy|hy;exact j7 y hy;simp at hy;rw[hy];exact gb3),j4.trans (TO h5)⟩
 simp[ht]at h3;cbv;refine ar (FF ht (by(simp only[ht];omega)) (by omega) ‹_›) (by simp[ht]) (λr6 jK=>?_);simp only[ht]at jK;cbv;apply aj<;>intro h7
 .simp[ht]at h7;cbv;refine ak ?_;(have n0:n=0:=(by((try simp only[aa]at*);omega));subst n0;rw[gM]at j4;have te:=KB bM h1 j4;rw[<-jK,h7]at te;simp only[ht,te,bD.py];rfl)
 simp[ht]at h7;cbv;refine ia hY (by simp[ht]) rfl rfl rfl ?_;(have n0:n=0:=(by((try simp only[aa]at*);omega));subst n0;rw[gM]at j4;have te:=KB bM h1 j4;rw[<-jK,h7]at te;simp[ht,te,j2];done)
def lV(s:az):Nat->List Jb->Int->Option (List Jb×Int)
 |0,l,p=>some (l,p)|n+1,l,p=>match FA s p with
  |some (j,q)=>lV s n (l++[j]) q|none=>none
theorem Bb{s:az}{n:Nat}{l L:List Jb}{p e:Int}(h:lV s n l p=some (L,e)):n=0∨∃m j q,n=m+1/\FA s p=some (j,q)/\lV s m (l++[j]) q=some (L,e):=by
 cases n with
 |zero=>exact .inl rfl|succ m=>
  rw[lV]at h;split at h
  .rename_i j q g;exact .inr ⟨m,j,q,rfl,g,h⟩
  cases h
theorem Aa{s:az}:∀{n:Nat} {l L:List Jb} {p e:Int},lV s n l p=some (L,e)->0<=p->p<=s.length->(0<=e/\e<=s.length)/\L.length=l.length+n/\∀x∈l,x∈L
 |0,l,L,p,e,h,h1,h2=>by rw[lV]at h;simp only[osI,vab]at h;obtain⟨rfl,rfl⟩:=h;exact⟨⟨h1,h2⟩,rfl,λx h=>h⟩
 |n+1,l,L,p,e,h,h1,h2=>by
  rcases Bb h with h0|⟨m,j,q,e1,g1,g2⟩
  .cases h0
  cases e1;have b:=OR g1
  have:=Aa g2 b.1 b.2;simp only[vaa,List.length_singleton,vaD,vaL]at this;exact⟨this.1,by omega,λx hx=>this.2.2 x (.inl hx)⟩
theorem DH{l:List Jb}{a b c d e f g h j:Int}{q:az}{r:Bool}{sr:List (List D)}(hl:l.length<1000000):((l.map Jb.cells).length+[[D.int .u64 a,D.str q,D.int .u64 b,D.int .u64 c,D.int .u64 d,D.int .u64 e,D.int .i64 f,D.int .i64 g,D.int .i64 h,D.sl sr,D.bool r,D.int .i64 j]].length)*120<=140737488355328/\∀x,x∈l.map Jb.cells++[[D.int .u64 a,D.str q,D.int .u64 b,D.int .u64 c,D.int .u64 d,D.int .u64 e,D.int .i64 f,D.int .i64 g,D.int .i64 h,D.sl sr,D.bool r,D.int .i64 j]]->x.length=12:=by
 refine⟨by simp;omega,?_⟩;intro x hx;rcases List.mem_append.1 hx with hx|hx
 .obtain⟨y,_,rfl⟩:=List.mem_map.1 hx;rfl
 rw[List.mem_singleton.1 hx];rfl
theorem Qx(ht:TT t)(s:az){p p1 p2 p3 p4 p5 p6 p7 e c:Int}(rd nx ef af:Int){nl:List Node}{pl:List Place}{tl:List aR}{jl:List Jb}{ql:List bR}{el al:List cw}{ns ps ts js qs es eO:List (List D)}(ij:ns=nl.map Node.cells)(hps:ps=pl.map Place.cells)(hts:ts=tl.map aR.cells)(gD:js=jl.map Jb.cells)(fX:qs=ql.map bR.cells)(aD:es=el.map cw.cells)(has:eO=al.map cw.cells)(hs:s.length<9223372036854775000)(hp:p<9223372036854775808)(hq:ql=[])
 (g1:aV s p=⟨rd,p1,true⟩) (g2:aV s p1=⟨nx,p2,true⟩) (g3:tK s p2=⟨⟨nl,pl⟩,p3,true⟩) (l3:p3<=s.length) (g4:pG s p3=⟨tl,p4,true⟩) (l4:p4<=s.length)
 (g5:aV s p4=⟨c,p5,true⟩) (g6:lV s c.toNat [] p5=some (jl,p6)) (hjl:jl.length<1000000) (iC:∀j∈jl,j.x.sm)
 (g7:fB s p6=some (⟨ef,el⟩,p7)) (hel:el.length<1000000) (g8:fB s p7=some (⟨af,al⟩,e)) (hal:al.length<1000000):
 FC 26 [.ptr 0 0] [.var [ST s,bf p]] (.ret (.agg [aA rd,aA nx,SL ns,SL ps,SL ts,SL js,SL qs,aA ef,SL es,aA af,SL eO])) [.var [ST s,bf e]]:=by
 have b1:=bH g1;have b2:=bH g2
 have b5:=bH g5;have b6:=Aa g6 b5.2.2.1 b5.2.2.2
 have b7:=mL g7;have b8:=mL g8
 have b60:=b6.1;have b61:=b6.2.1
 simp only[List.length_nil,Nat.zero_add]at b61;subst hq;refine kJ ht (aK:=[.var [ST s,bf p]]) Tryz.func26 rfl rfl (N:=89) rfl rfl (n:=1) rfl rfl ?_;cbv;have dc:ns.length=nl.length:=by rw[ij,lgM]
 have dm:ps.length=pl.length:=by rw[hps,lgM]
 have dG:ts.length=tl.length:=by rw[hts,lgM]
 have cF:js.length=jl.length:=by rw[gD,lgM]
 have ay:es.length=el.length:=by rw[aD,lgM]
 have cG:eO.length=al.length:=by rw[has,lgM]
 (refine aW [0] hY rfl rfl (bI ht s hs (by omega) g1) (aH ?_));cbv;(refine aW [0] hY rfl rfl (bI ht s hs (by((try simp only[aa]at*);omega)) g2) (aH ?_));cbv;refine mV [0,4] [0,4,9,10,11,12] [false,false,false,false,false,false,false,false,false,false,false,false,false,false,true,true,true] ?_;cbv;iterate 8 refine gI (by simp) ?_
 refine .inl ?_;refine iJ (λg0=>⟨hY,hY,G0 ht _ _ ‹_› (by((try simp only[aa]at*);omega))⟩) rfl rfl rfl (λr1 ej=>?_);simp only[ht]at ej;(rw[g3]at ej;subst ej);cbv;iterate 4 refine gI (by simp) ?_
 (refine aW [0] hY rfl rfl (gC ht s _ _) (aH ?_));cbv;refine bE [false,false,false,false,false,false,false,false,true,true,false,false,false,false,false,true] ?_;cbv;iterate 8 refine gI (by simp) ?_
 refine aM (Hp ht _ _ ‹_› (by((try simp only[aa]at*);omega))) hY (λr2 dj=>?_);simp only[ht]at dj;(rw[g4]at dj;subst dj);cbv;iterate 5 refine gI (by simp) ?_
 (refine aW [0] hY rfl rfl (gC ht s _ _) (aH ?_));cbv;(refine aW [0] hY rfl rfl (bI ht s hs (by((try simp only[aa]at*);omega)) g5) (aH ?_));cbv;obtain⟨J3,yP⟩:∃J3:Nat->Int×List (List D)×Int->Prop,∀n i o a,J3 n (i,o,a)↔(∃(k:Nat) (l:List Jb),i=k/\k+n=c.toNat/\o=l.map Jb.cells/\l.length=k/\0<=a/\a<=s.length/\lV s n l a=some (jl,p6)):=⟨λn v=>match v with|(i,o,a)=>(∃(k:Nat) (l:List Jb),i=k/\k+n=c.toNat/\o=l.map Jb.cells/\l.length=k/\0<=a/\a<=s.length/\lV s n l a=some (jl,p6)),λ_ _ _ _=>Iff.rfl⟩;refine bw ⟨[0,2,3,54,55],[],[(2,5,12)]⟩ (σ:=Int×List (List D)×Int) (λv=>[(55,.d (.int .u64 (t _ λ_=>v.1)))]) (λv=>[(3,.row 12 (t _ λ_=>v.2.1)),(2,.var [AV.d (D.int IntKind.u64 rd),AV.d (D.int IntKind.u64 nx),AV.d (D.sl (t (List (List D)) λx=>List.map (λx=>[D.str (Node.name x),D.int IntKind.u64 (bz.a (Node.cap x)),D.int IntKind.u64 (bz.b (Node.cap x)),D.int IntKind.u64 (bz.c (Node.cap x)),D.int IntKind.u64 (bz.d (Node.cap x)),D.sl (List.map (λp=>[D.str (bT.key p),D.str (bT.value p)]) (Node.labels x)),D.bool (Node.up x)]) (cR.nodes {nodes:=nl,places:=pl}))),AV.d (D.sl (t (List (List D)) λx=>List.map (λx=>[D.int IntKind.u64 (Place.bL x),D.str (Place.node x),D.int IntKind.u64 (bz.a (Place.v x)),D.int IntKind.u64 (bz.b (Place.v x)),D.int IntKind.u64 (bz.c (Place.v x)),D.int IntKind.u64 (bz.d (Place.v x))]) (cR.places {nodes:=nl,places:=pl}))),AV.d (D.sl (t (List (List D)) λx=>List.map (λe=>[D.str (aR.path e),D.int IntKind.u64 (bz.a (aR.cU e)),D.int IntKind.u64 (bz.b (aR.cU e)),D.int IntKind.u64 (bz.c (aR.cU e)),D.int IntKind.u64 (bz.d (aR.cU e)),D.int IntKind.u64 (bz.a (aR.used e)),D.int IntKind.u64 (bz.b (aR.used e)),D.int IntKind.u64 (bz.c (aR.used e)),D.int IntKind.u64 (bz.d (aR.used e))]) tl)),.ow 3 12 (t _ λ_=>(v.2.1).length),AV.cl [],AV.d (D.int IntKind.u64 0),AV.cl [],AV.d (D.int IntKind.u64 0),AV.cl []]),(0,.var [AV.d (D.str s),.d (.int .i64 (t _ λ_=>v.2.2))])]) J3 ?_;cbv;refine aC ⟨c.toNat,(_,[],_),(yP _ _ _ _).2 ?_,by simp only[ht];rfl,?_⟩
 .exact⟨0,[],rfl,by omega,rfl,rfl,b5.2.2.1,b5.2.2.2,g6⟩
 rintro n ⟨i,o,a⟩ hj;replace hj:=(yP _ _ _ _).1 hj;obtain⟨k,l,rfl,j1,rfl,j3,j4,j5,j6⟩:=hj;have hx:=Bb j6
 cbv;apply aj<;>intro h4
 .simp[ht,aa]at h4;cbv;(obtain⟨m,⟨ji,⟨jq,⟨ja,jb,jc,jd⟩,jn,jp,jt,iv⟩,jr,jf⟩,q,rfl,gx,gy⟩:=hx.resolve_left (by((try simp only[aa]at*);omega));have bx:=OR gx;have bm:=(Aa gy bx.1 bx.2).2.2 _ (List.mem_append_right _ (List.mem_singleton.2 rfl));have bs:=iC _ bm;obtain⟨_,_,_,_,_,br,_,_⟩:=z7 gx;simp only at br;subst br;obtain⟨oE,gS⟩:∃oE,oE=iv.map Term.cells:=⟨_,rfl⟩;refine aW [0] hY rfl rfl (WJ ht s ji ja jb jc jd jn jp jt jf jq true gS hs (by simp only[ht];((try simp only[aa]at*);omega)) bs (by simp only[ht];exact gx)) (aH ?_));cbv;refine⟨?_,?_⟩
  ·(simp only[ht,true_and];exact DH (l:=l) (by omega))
  cbv;apply aj<;>intro h5
  .simp[ht]at h5
  simp[ht]at h5;cbv;refine bA (_,_,_) (by simp only[ht,<-vaa];rfl) m ?_ ((yP _ _ _ _).2 ?_)
  .omega
  simp only[aa];exact⟨k+1,l++[⟨ji,⟨jq,⟨ja,jb,jc,jd⟩,jn,jp,jt,iv⟩,true,jf⟩],kT (by omega),by omega,by simp[Jb.cells,gS],by simp;omega,bx.1,bx.2,gy⟩
 simp[ht,aa]at h4;cbv;((have hn:n=0:=(by((try simp only[aa]at*);omega));subst hn;rw[lV]at j6;simp only[osI,vab]at j6;obtain⟨j7,j8⟩:=j6;refine aW [0] hY rfl rfl (jg ht s hs (by simp only[ht];((try simp only[aa]at*);omega)) hel aD (by simp only[ht];rw[j8];exact g7)) (aH ?_)));cbv;((refine aW [0] hY rfl rfl (jg ht s hs (by((try simp only[aa]at*);omega)) hal has g8) (aH ?_)));cbv;(exact ia hY (by simp[ht]) rfl (by simp only[ht];rfl) rfl (by simp only[ht,ij,hps,hts,gD,fX,j7];rfl))
end Dem
end
section
open Go
namespace Dem
section
variable {P:Program}{T:Nat->Option TI}{G:Nat->Option (List D)}{N:Nat}{X:Nat->Prop}
structure ZC(n:Nat)(v:AV)(bx:List av)(res:eP)(aE:List av):Prop where
 ok:v.within n=true/\res=.zh v/\∃ks,aE=(kill ks bx).take n/\bY n aE=true
def Na(n:Nat)(res:eP)(aE:List av):Ex->St->Prop
 |.panic v,s=>ZC n v s.bx res aE|_,_=>False
theorem oy{n:Nat}{v:AV}{bx aE:List av}{res:eP}(ks:List Bool)(hv:v.within n=true)(hr:res=.zh v)(hb:aE=(kill ks bx).take n)(hw:bY n aE=true):ZC n v bx res aE:=⟨hv,hr,ks,hb,hw⟩
theorem WS{β:Nat->Nat}{w w':World}{aK gY aE:List av}{res:eP}{β':Nat->Nat}{v:AV}{u:Value}(ex:Ext β aK w β' gY w')(cx:cB G β' gY w' X)(hv:ai β' gY w' (bq β' gY w' X) v u)(h:ZC aK.length v gY res aE):
 ∃β',Ext β aK w β' aE w'/\cB G β' aE w' X/\eH β' aE w' (bq β' aE w' X) res (.panicked [{v:=u,recovered:=false}]):=by
 obtain⟨q1,rfl,ks,rfl,q2⟩:=h;obtain⟨e2,c2⟩:=Gm ks cx;exact⟨β',xF (ex.trans e2),xE c2 q2,u,rfl,lB (λblk hb=>xD _ blk hb) v u q1 (ai.mono (e2.dL X) _ _ hv)⟩
theorem Ab(hT:jj P T)(hD:jF P T G){f N:Nat}{fn:Func}{c:Code}{args:List AV}{aK aE:List av}{res:eP}(hf:P.funcs[f]?=some fn)(hb:fn.body=some c)
 (hname:(fn.name== "runtime.NumGoroutine")=false) (hN:fn.ntmps=N) (hlen:gq args.length N=true)
 (h:ph t0 (be P G) T G N aK.length c (Na aK.length res aE) ⟨fH 0 args,aK⟩):be P G f args aK res aE:=by
 intro β w vs X cx hx;refine .inl ⟨by simp[callFunc,run_program,hf,hb];simpa using hname,calls_of_wp hf hb (wp_mono (eS (X:=X) (β0:=β) (aK:=aK) (w0:=w) hT hD (vad _) c _ β w _ _ (Ext.refl _ _ _) (qb hN hlen cx hx) h) ?_)⟩;intro e a w' hl;cases e<;>simp only[dB,bodyPost,Na]at hl ⊢
 .obtain⟨_,_,_,_,k⟩:=hl;exact k.elim
 .obtain⟨_,_,_,_,k⟩:=hl;exact k.elim
 .obtain⟨_,_,_,_,k⟩:=hl;exact k.elim
 obtain⟨β',gY,v,u,rfl,ex,oA,hv,hd,_,hk⟩:=hl;exact⟨hd,WS ex oA hv hk⟩
structure OX(r:Option eP)(b:Option (List av))(K:AV->List av->Prop):Prop where
 ok:match r,b with
  |some (.zh v),some bx=>K v bx|_,_=>False
theorem bK{v:AV}{bx:List av}{K:AV->List av->Prop}(h:K v bx):OX (some (.zh v)) (some bx) K:=⟨h⟩
theorem bU{kX:Prop}{f:Nat}{args:List AV}{bx:List av}{K Kp:AV->List av->Prop}{fz:Option (Prop×List AV)}(cj:List Nat){iV:List AV}{aK tG:List av}{v0:AV}(ho:kX)
 (ha:AV.wm (λb=>dD b cj 0) args=some iV) (hb:fQ (λb=>dD b cj 0) bx cj=some aK) (h:be P G f iV aK (.zh v0) tG)
 (hK:OX (eP.iU (kH cj bx.length) (.zh v0)) (AJ cj bx tG) Kp):oM (be P G) kX f args fz bx K Kp:=by
 obtain⟨hK⟩:=hK;split at hK
 .rename_i v aE hr hb';exact⟨ho,.inr ⟨args,bx,.zh v,aE,.inl ⟨rfl,rfl⟩,fR cj ha hb hr hb' h,hK⟩⟩
 exact hK.elim
def Hq(P:Program)(G:Nat->Option (List D))(f:Nat)(args:List AV)(bx:List av)(pv:AV)(aE:List av):Prop:=
 ∀(β:Nat->Nat) (w:World) (vs:List Value) (X:Nat->Prop) (u:Value),cB G β bx w X->an β bx w (bq β bx w X) args vs->ai β bx w (bq β bx w X) pv u->(callFunc f ⟨vs⟩).run P w=.ok (.enter f ⟨vs⟩) w/\
  CallsD P f ⟨vs⟩ (.panicking [{v:=u,recovered:=false}]) w λe u' w'=>u'=.panicking [{v:=u,recovered:=true}]/\∃β',Ext β bx w β' aE w'/\cB G β' aE w' X/\eH β' aE w' (bq β' aE w' X) (.ret (.c5 [])) e
def ZD(t:Th)(FC:Nat->List AV->List av->eP->List av->Prop)(T:Nat->Option TI)(G:Nat->Option (List D))(N K:Nat)(pv:AV)(ops:List Oper)(rest:List Code)(Q:Ex->St->Prop)(s:St):Prop:=
 match ops with
 |o::l=>match o.op,o.guard with
  |.call {callee:=.builtin .recover,args,..},none=>args=#[]/\gr N o.dst=true/\Jf t FC T G N ops l (λe s=>mv (λs=>wu t FC T G N K rest Q s) Q e s) ⟨eJ o.dst pv s.sl,s.bx⟩|_,_=>False
 |[]=>False
theorem DI(hT:jj P T)(hD:jF P T G){f:Nat}{fn:Func}{c:Code}{args:List AV}{aK aE:List av}{pv:AV}(hf:P.funcs[f]?=some fn)(hb:fn.body=some c)
 (hname:(fn.name== "runtime.NumGoroutine")=false) (hN:fn.ntmps=N) (hlen:gq args.length N=true) {id:Nat} {ops:Array Oper} {rest:List Code} (hc:flat c=.region id ops false::rest)
 (h:ZD t0 (be P G) T G N aK.length pv ops.toList rest (iq t0 T fn.results.toList aK.length (.ret (.c5 [])) aE) ⟨fH 0 args,aK⟩):Hq P G f args aK pv aE:=by
 intro β w vs X pu cx hx hpv;refine⟨by simp[callFunc,run_program,hf,hb];simpa using hname,callsD_of_wpS hf hb λc₀ cs hm=>yL c ?_⟩;rw[hc];have hF:=qb (G:=G) (X:=X) hN hlen cx hx
 unfold ZD at h;split at h;case h_2=>exact h.elim
 rename_i o l Bo;split at h;case h_2=>exact h.elim
 rename_i args' ats ho hg;obtain⟨ha,hd,h⟩:=h;have hsz:ops.size=l.length+1:=by rw[<-Array.length_toList,Bo];rfl
 have h0:ops[0]?=some o:=by rw[<-Array.getElem?_toList,Bo];rfl
 obtain⟨c1,Bm⟩:∃c1:Frame,c1={c₀ with mode:=.panicking [{v:=pu,recovered:=true}]}:=⟨_,rfl⟩;refine qp (Q:=λe a cs' w'=>cs'=c1::cs/\dB G N Kp.no X β aK w (λe s=>mv (λs=>wu t0 (be P G) T G N aK.length rest (iq t0 T fn.results.toList aK.length (.ret (.c5 [])) aE) s) (iq t0 T fn.results.toList aK.length (.ret (.c5 [])) aE) e s) e a w') (wpS_region ?_) ?_
 .rw[hsz,List.range_eq_range',List.range'_succ];simp only[wpOpsS,h0];rw[if_pos (by simp[Region.wanted,hg])];have hr:∀ev,(execOp ev o).run P w=.ok .recover w:=by intro ev;simp[execOp,ho,ha,resolve,invoke];rfl
  rw[hr];have wK:recoverD (c₀::cs)=some (pu,c1::cs):=by simp only[recoverD,hm,Bm]
  simp only[wK];refine Dv (λa w hh=>by simp[dB]at hh) (c1::cs) l 1 _ _ (λj=>by rw[<-Array.getElem?_toList,Bo,Nat.add_comm];rfl) ?_;refine jE hT l β w _ _ (Ext.refl _ _ _) (hF.put (Ext.refl _ _ _) hF.cx hd ?_) (CU _ _ h);exact hpv
 rintro e a1 cs1 w1 ⟨rfl,hl⟩;have fin:∀(e:Exit) (a2:Act) (w2:World),dB G N Kp.no X β aK w (iq t0 T fn.results.toList aK.length (.ret (.c5 [])) aE) e a2 w2->
  bodyPostS P fn c₀ cs (λe u' w'=>u'=.panicking [{v:=pu,recovered:=true}]/\∃β',Ext β aK w β' aE w'/\cB G β' aE w' X/\eH β' aE w' (bq β' aE w' X) (.ret (.c5 [])) e) e a2 (c1::cs) w2:=by
  intro e a2 w2 hl;have out:∀β' s,Ext β aK w β' s.bx w2->Fr G N Kp.no β' w2 X s a2->(∃e',B5 T fn.results.toList aK.length (.ret (.c5 [])) aE e' s/\(e'=.normal∨e'=.ret))->
   a2.defers=[]/\∃u',(c1::cs)={c₀ with mode:=u'}::cs/\∃v,(results fn a2.tmps).run P w2=.ok v w2/\u'=.panicking [{v:=pu,recovered:=true}]/\∃β',Ext β aK w β' aE w2/\cB G β' aE w2 X/\eH β' aE w2 (bq β' aE w2 X) (.ret (.c5 [])) (.returned v):=by
   rintro β' s ex ru ⟨e',hq,he⟩;obtain⟨v,k1,k2⟩:=ym hT ex ru.cx ru.sW (res:=.ret (.c5 [])) (aE:=aE) (by rcases he with rfl|rfl<;>exact hq);exact⟨ru.defers,_,by rw[Bm],v,k1,rfl,k2⟩
  cases e<;>simp only[dB,bodyPostS]at hl ⊢
  .obtain⟨β',s,k1,k2,k3⟩:=hl;exact out β' s k1 k2 ⟨.normal,mj k3,.inl rfl⟩
  .obtain⟨β',s,k1,k2,k3⟩:=hl;exact k3
  .obtain⟨β',s,k1,k2,k3⟩:=hl;exact out β' s k1 k2 ⟨.ret,mj k3,.inr rfl⟩
  obtain⟨β',gY,v,u,k1,k2,k3,k4,k5,_,k6⟩:=hl;obtain⟨k,_⟩:=NZ.ok k6;cases k
 cases e<;>simp only[Exit.thenS,dB,mv]at hl ⊢
 .obtain⟨β1,s1,vo,xX,h1⟩:=hl;refine zW ?_ (tX (eU (X:=X) (β0:=β) (aK:=aK) (w0:=w) hT hD (vad _) rest _ β1 w1 s1 a1 vo xX h1));rintro e a2 cs2 w2 ⟨rfl,pV⟩;exact fin e a2 w2 pV
 all_goals exact fin _ a1 w1 hl
def Hr(m:Nat):List (Nat×AV)->List (Nat×AV)
 |[]=>[]|(u,v)::r=>bif Nat.blt u m then(u,v)::Hr m r else Hr m r
theorem KE(m t:Nat):∀sl:List (Nat×AV),fK t (Hr m sl)=if t<m then fK t sl else .any
 |[]=>by simp[Hr,fK]|(u,v)::r=>by
  have ih:=KE m t r;simp only[Hr];cases hb:Nat.blt u m with
  |true=>
   have hu:u<m:=by simpa[Nat.blt_eq]using hb
   simp only[cond_true,fK];cases ht:Nat.beq t u with
   |true=>have:=vaf ht;subst this;simp[hu]|false=>simp only[cond_false];exact ih
  |false=>
   have hu:¬u<m:=λh=>by rw[show Nat.blt u m=true by simpa[Nat.blt_eq]using h]at hb;cases hb
   simp only[cond_false,fK];rw[ih];by_cases h:t<m
   .have:Nat.beq t u=false:=Xy (by omega);simp[h,this]
   simp[h]
structure KF(FD:Nat->List AV->List av->AV->List av->Prop)(f:Nat)(cV:List AV)(bx:List av)(pv:AV)(K:List av->Prop):Prop where
 ok:∃gY,FD f cV bx pv gY/\K gY
theorem Hs{FD:Nat->List AV->List av->AV->List av->Prop}{f:Nat}{cV:List AV}{bx:List av}{pv:AV}{K:List av->Prop}{gY:List av}(h:FD f cV bx pv gY)(hK:K gY):KF FD f cV bx pv K:=⟨_,h,hK⟩
def OY(t:Th)(FD:Nat->List AV->List av->AV->List av->Prop)(T:Nat->Option TI)(results:List ResultVar)(n:Nat)(res:eP)(aE:List av)(f:Nat)(cV:List AV)(sl:List (Nat×AV)):Ex->St->Prop
 |.panic v,s=>KF FD f cV s.bx v (λgY=>match vR T sl gY results with
  |some (c,vs)=>zJ n c (nO vs) gY (CS t gY (nO vs)) res aE|none=>False)
 |_,_=>False
def TP(t:Th)(FC:Nat->List AV->List av->eP->List av->Prop)(FD:Nat->List AV->List av->AV->List av->Prop)(T:Nat->Option TI)(G:Nat->Option (List D))(N m:Nat)(pre:List Code)(ops:List Oper)(post:List Code)(results:List ResultVar)(n:Nat)(res:eP)(aE:List av)(s:St):Prop:=
 wu t FC T G N n pre (λe s=>match e with
  |.normal=>EZ t FC T G N ops (λx s2=>match x with
   |.fn g cV=>bif dH cV then wu t FC T G (N+m*1048576) s2.bx.length post (OY t FD T results n res aE g cV (Hr m s2.sl)) s2 else False|_=>False) s
  |_=>False) s
theorem Ac(hT:jj P T)(hD:jF P T G){f N:Nat}(m:Nat){fn:Func}{c:Code}{args:List AV}{aK aE:List av}{res:eP}(hf:P.funcs[f]?=some fn)(hb:fn.body=some c)
 (hname:(fn.name== "runtime.NumGoroutine")=false) (hN:fn.ntmps=N) (hlen:gq args.length N=true) {pre post:List Code} {id:Nat} {ops:Array Oper} (hc:flat c=pre++.region id ops false::post)
 (h:TP t0 (be P G) (Hq P G) T G N m pre ops.toList post fn.results.toList aK.length res aE ⟨fH 0 args,aK⟩):be P G f args aK res aE:=by
 intro β w vs X cx hx;refine .inl ⟨by simp[callFunc,run_program,hf,hb];simpa using hname,calls_of_wp_defers hf hb (uL c ?_)⟩;rw[hc];obtain⟨_,hhi,hlo⟩:=sH hlen;have hN1:N<1048576:=by simp only[gq,vae,Nat.blt_eq]at hlen;exact hlen.2
 have aeh:UO (N+m*1048576)=N:=by unfold UO;rw[Nat.add_mul_mod_self_right,Nat.mod_eq_of_lt hN1]
 have aei:F2 (N+m*1048576)=m:=by unfold F2;omega
 refine mG (mF ?_ (eU hT hD (vad _) pre _ β w _ _ (Ext.refl _ _ _) (qb hN hlen cx hx) h));intro e a1 w1 hl;cases e<;>simp only[dB,Exit.then]at hl ⊢;case normal=>
  obtain⟨β1,s1,vo,xX,hop⟩:=hl
  show(Code.region id ops false).wp P (Exit.then (sn P post _) _) a1 w1
  refine wp_region_list (oO (β0:=β) (aK:=aK) (w0:=w) hT ?_ ?_ ops.toList β1 w1 s1 a1 vo xX hop)
  .intro β2 w2 s2 a2 x v RK ru hk hv hr;simp only[Exit.then];split at hk;case h_2=>exact hk.elim
   rename_i g cV;cases oB:dH cV with
   |false=>simp[oB]at hk|true=>
   simp only[oB,cond_true]at hk;simp only[ai]at hv;obtain⟨HR,rfl,sg⟩:=hv;rw[jN oB sg]at hr ⊢;simp only;have SF:Fr G (N+m*1048576) ⟨[{target:=.fn (.func g) ⟨HR⟩,args:=#[]}],λt=>a2.tmps.getD t undef⟩ β2 w2 X s2 {a2 with defers:={target:=.fn (.func g) ⟨HR⟩,args:=#[]}::a2.defers}:=⟨ru.cx,by rw[ru.defers];rfl,by rw[aeh,<-hhi];exact ru.size,λ_ _=>rfl,ru.sW⟩
   refine mF ?_ (eU (β0:=β2) (aK:=s2.bx) (w0:=w2) hT hD (vad _) post _ β2 w2 s2 _ (Ext.refl _ _ _) SF hk);intro e a3 w3 BJ;cases e<;>simp only[dB,bodyPostD,OY]at BJ ⊢
   .obtain⟨_,_,_,_,k⟩:=BJ;exact k.elim
   .obtain⟨_,_,_,_,k⟩:=BJ;exact k.elim
   .obtain⟨_,_,_,_,k⟩:=BJ;exact k.elim
   obtain⟨β3,bx3,pv,pu,rfl,VM,cx3,hpv,hd3,RI,⟨bx4,hfd,hq⟩⟩:=BJ;rw[aei]at RI;rw[hd3];have C1:=an.mono (VM.dL X) _ _ sg
   obtain⟨hi,hcd⟩:=hfd β3 w3 HR X pu cx3 C1 hpv;refine leaves_cons (f:=g) (args:=⟨HR⟩) (by simp) (by simpa[invoke]using hi) (hcd.mono ?_);rintro e u' w4 ⟨rfl,β4,XR,cx4,hres⟩;cases e with
   |returned v=>
    simp only[Leaves,settle,List.dropWhile];have vX:∀t,ai β4 bx4 w4 (bq β4 bx4 w4 X) (fK t (Hr m s2.sl)) (a3.tmps.getD t undef):=by
     intro t;rw[KE];by_cases ht:t<m
     .rw[if_pos ht,RI t ht];exact ai.mono ((VM.trans XR).dL X) _ _ (ru.sW t)
     rw[if_neg ht];simp only[ai]
    have YO:=mj (T:=T) (results:=fn.results.toList) (n:=aK.length) (res:=res) (aE:=aE) (e:=.ret) (s:=⟨Hr m s2.sl,bx4⟩) hq;exact ym hT (((RK.trans VM)).trans XR) (s:=⟨Hr m s2.sl,bx4⟩) cx4 vX YO
   |panicked ch=>simp[eH]at hres|outgrown=>simp[eH]at hres
  intro x s hk
  split at hk
  .rename_i g cV;cases oB:dH cV with
   |false=>simp[oB]at hk|true=>exact⟨_,_,rfl,oB⟩
  exact hk.elim
 case exit=>obtain⟨_,_,_,_,k⟩:=hl;exact k.elim
 case ret=>obtain⟨_,_,_,_,k⟩:=hl;exact k.elim
 case panic=>obtain⟨_,_,_,_,_,_,_,_,_,_,k⟩:=hl;exact k.elim
end
end Dem
end
section
open Go Dem Go.Proofs
namespace Dem
theorem X4{t:Th}(ht:TT t){f N:Nat}{fn:Func}{c:Code}{args:List AV}{aK aE:List av}{res:eP}(hf:Tryz.prog.funcs[f]?=some fn)(hb:fn.body=some c)
 (hname:(fn.name== "runtime.NumGoroutine")=false) (hN:fn.ntmps=N) {n:Nat} (hn:aK.length=n) (hlen:gq args.length N=true)
 (h:ph t FC tT gl N n c (Na n res aE) ⟨fH 0 args,aK⟩):FC f args aK res aE:=by
 subst hn;have e:=ht.eq
 subst e;exact Ab HQ lE hf hb hname hN hlen h
def FDP:Nat->List AV->List av->AV->List av->Prop:=Hq Tryz.prog gl
theorem ZE{t:Th}(ht:TT t){f N:Nat}{fn:Func}{c:Code}{args:List AV}{aK aE:List av}{pv:AV}(hf:Tryz.prog.funcs[f]?=some fn)(hb:fn.body=some c)
 (hname:(fn.name== "runtime.NumGoroutine")=false) (hN:fn.ntmps=N) {rs:List ResultVar} (Bn:fn.results.toList=rs) {n:Nat} (hn:aK.length=n) (hlen:gq args.length N=true)
 {id:Nat} {ops:Array Oper} {rest:List Code} (hs:flat c=.region id ops false::rest)
 (h:ZD t FC tT gl N n pv ops.toList rest (iq t tT rs n (.ret (.c5 [])) aE) ⟨fH 0 args,aK⟩):FDP f args aK pv aE:=by
 subst Bn;subst hn;have e:=ht.eq
 subst e;exact DI HQ lE hf hb hname hN hlen hs h
theorem abX{t:Th}(ht:TT t)(m:Nat){f N:Nat}{fn:Func}{c:Code}{args:List AV}{aK aE:List av}{res:eP}(hf:Tryz.prog.funcs[f]?=some fn)(hb:fn.body=some c)
 (hname:(fn.name== "runtime.NumGoroutine")=false) (hN:fn.ntmps=N) {rs:List ResultVar} (Bn:fn.results.toList=rs) {n:Nat} (hn:aK.length=n) (hlen:gq args.length N=true)
 {pre post:List Code} {id:Nat} {ops:Array Oper} (hs:tH (flat c)=some (pre,id,ops,post))
 (h:TP t FC FDP tT gl N m pre ops.toList post rs n res aE ⟨fH 0 args,aK⟩):FC f args aK res aE:=by
 subst Bn;subst hn;have e:=ht.eq
 subst e;exact Ac HQ lE m hf hb hname hN hlen (qc hs) h
abbrev Qy:AV:=.sG 80 (.agg [])
abbrev TQ:AV:=.sG 287 (.agg [])
end Dem
end
section
open Go Dem Go.Proofs
namespace Dem
variable {t:Th}
theorem lX(ht:TT t)(s:az)(p q:Int):
 FC 69 [.ptr 0 0,bf q,BL false] [.var [ST s,bf p]] (.zh Qy) [.dead]:=by
 refine X4 ht (aK:=[.var [ST s,bf p]]) Tryz.func69 rfl rfl (N:=14) rfl (n:=1) rfl rfl ?_;cbv;apply aj<;>intro h0
 .simp[ht,aa]at h0;cbv;(exact oy [true] rfl rfl rfl rfl)
 simp[ht,aa]at h0
theorem cz(ht:TT t)(s:az){p:Int}(hs:s.length<9223372036854775000)(hp:p<9223372036854775808)(h:(aV s p).ok=false):
 FC 67 [.ptr 0 0] [.var [ST s,bf p]] (.zh Qy) [.dead]:=by
 refine X4 ht (aK:=[.var [ST s,bf p]]) Tryz.func67 rfl rfl (N:=24) rfl (n:=1) rfl rfl ?_;cbv;refine bE [false,false,false,false,false,false,false,false,true,true,false,false,false,false,false,true] ?_;cbv;iterate 8 refine gI (by simp[ht,ah]) ?_
 refine ar (eF ht _ _ ‹_› ‹_›) hY (λr0 bM=>?_);simp only[ht]at bM;(rw[<-bM]at h;obtain⟨u9,n9,k9⟩:=r0;simp only at h;subst h);cbv;iterate 5 refine gI (by simp[ht,ah]) ?_
 (refine bU [0] hY rfl rfl (lX ht s p _) (bK ?_));cbv;(exact oy [true] rfl rfl rfl rfl)
theorem Qz{s:az}{p m:Int}(h:dP s p m=none):(aV s p).ok=false∨m<(aV s p).u:=by
 unfold dP at h;split at h
 .cases h
 rename_i g;cases e:(aV s p).ok with
 |false=>exact .inl rfl|true=>exact .inr (by rw[e]at g;simp at g;omega)
theorem Nb{s:az}{p:Int}(h:fT s p=none):(aI s p 32).ok=false:=by
 unfold fT at h;split at h
 .cases h
 rename_i g;simpa using g
theorem KG{s:az}:∀{n:Nat} {l:List az} {p:Int},fw s n l p=none->∃m,n=m+1/\(fT s p=none∨∃x q,fT s p=some (x,q)/\fw s m (l++[x]) q=none)
 |0,l,p,h=>by rw[fw]at h;cases h
 |n+1,l,p,h=>by
  refine⟨n,rfl,?_⟩;rw[fw]at h;split at h
  .rename_i x q g;exact .inr ⟨x,q,g,h⟩
  rename_i g;exact .inl g
theorem Nc{s:az}{p:Int}(h:kN s p=none):fT s p=none∨∃k q,fT s p=some (k,q)/\(dP s q 9=none∨∃n r,dP s q 9=some (n,r)/\fw s (n.toNat / 2) [] r=none):=by
 unfold kN at h;split at h
 .rename_i g;exact .inl g
 rename_i k q g;refine .inr ⟨k,q,g,?_⟩;split at h
 .rename_i g2;exact .inl g2
 rename_i n r g2;refine .inr ⟨n,r,g2,?_⟩;split at h
 .rename_i g3;exact g3
 cases h
theorem OZ(ht:TT t)(s:az){p m:Int}(hs:s.length<9223372036854775000)(hp:p<9223372036854775808)(hm0:0<=m)(hm:m<9223372036854775808)(h:dP s p m=none):
 FC 207 [.ptr 0 0,aA m] [.var [ST s,bf p]] (.zh TQ) [.dead]:=by
 replace h:=Qz h;refine X4 ht (aK:=[.var [ST s,bf p]]) Tryz.func207 rfl rfl (N:=36) rfl (n:=1) rfl rfl ?_;cbv;refine bE [false,false,false,false,false,false,false,false,true,true,false,false,false,false,false,true] ?_;cbv;iterate 8 refine gI (by simp[ht,ah]) ?_
 refine ar (eF ht _ _ ‹_› ‹_›) hY (λr0 bM=>?_);simp only[ht]at bM;(rw[<-bM]at h);cbv;iterate 8 refine gI (by simp[ht,ah]) ?_
 refine pI (by simp[ht,ah]) ?_;apply aj<;>intro h1
 .simp[ht,aa]at h1;cbv;(exact oy [true] rfl rfl rfl rfl)
 simp[ht,aa]at h1;(exfalso;have h2:r0.ok=true/\r0.u<=m:=h1;rcases h with h|h;(rw[h]at h2;cases h2.1);omega)
theorem KH(ht:TT t)(s:az){p:Int}(hs:s.length<9223372036854775000)(hp:p<9223372036854775808)(h:fT s p=none):
 FC 223 [.ptr 0 0] [.var [ST s,bf p]] (.zh TQ) [.dead]:=by
 replace h:=Nb h;refine X4 ht (aK:=[.var [ST s,bf p]]) Tryz.func223 rfl rfl (N:=28) rfl (n:=1) rfl rfl ?_;cbv;refine bE [false,false,false,false,false,false,false,false,true,true,false,false,false,false,false,true] ?_;cbv;iterate 8 refine gI (by simp[ht,ah]) ?_
 refine ar (fW ht _ _ _ ‹_› ‹_› (by omega)) hY (λr0 bM=>?_);simp only[ht]at bM;(rw[<-bM]at h);cbv;iterate 5 refine gI (by simp[ht,ah]) ?_
 apply aj<;>intro h1
 .simp[ht,aa]at h1;cbv;(exact oy [true] rfl rfl rfl rfl)
 simp[ht,aa]at h1;(exfalso;have h2:r0.ok=true:=h1;rw[h]at h2;cases h2)
theorem TR(ht:TT t)(s:az){p:Int}(hs:s.length<9223372036854775000)(hp:p<9223372036854775808)(h:kN s p=none):
 FC 208 [.ptr 0 0] [.var [ST s,bf p]] (.zh TQ) [.dead]:=by
 have hA:=Nc h;clear h;refine X4 ht (aK:=[.var [ST s,bf p]]) Tryz.func208 rfl rfl (N:=27) rfl (n:=1) rfl rfl ?_;cbv;(rcases hA with g1|⟨k,q,g1,hB⟩<;>first|(refine bU [0] hY rfl rfl (KH ht s hs (by((try simp only[aa]at*);omega)) g1) (bK ?_))|(have b1:=qz hs g1;refine aW [0] hY rfl rfl (BO ht s hs (by((try simp only[aa]at*);omega)) g1) (aH ?_)))
 .cbv;(exact oy [true,true,true,true] rfl rfl rfl rfl)
 cbv;(rcases hB with g2|⟨n0,r,g2,g4⟩<;>first|(refine bU [0] hY rfl rfl (OZ ht s hs (by((try simp only[aa]at*);omega)) (by decide) (by decide) g2) (bK ?_))|(have b2:=uY g2;have b4:IntKind.i64.wrap (n0.tdiv 2)=(n0.toNat / 2:Nat):=(by rw[Int.tdiv_eq_ediv_of_nonneg (by omega),bN (by omega) (by omega)];omega);refine aW [0] hY rfl rfl (GV ht s hs (by((try simp only[aa]at*);omega)) (by decide) g2) (aH ?_)))
 .cbv;(exact oy [true,true,true,true] rfl rfl rfl rfl)
 cbv;refine⟨?_,?_⟩
 ·(simp only[ht,aa]at*;omega)
 refine⟨?_,?_⟩
 ·(simp only[ht,aa]at*;omega)
 cbv;obtain⟨J0,dZ⟩:∃J0:Nat->Int×List (List D)×Int->Prop,∀n i o a,J0 n (i,o,a)↔(∃(c:Nat) (l:List az),i=c/\c+n=n0.toNat / 2/\o=l.map bp/\l.length=c/\0<=a/\a<=s.length/\fw s n l a=none):=⟨λn v=>match v with|(i,o,a)=>(∃(c:Nat) (l:List az),i=c/\c+n=n0.toNat / 2/\o=l.map bp/\l.length=c/\0<=a/\a<=s.length/\fw s n l a=none),λ_ _ _ _=>Iff.rfl⟩;refine bw ⟨[0,2,3,15,16],[],[(2,2,1)]⟩ (σ:=Int×List (List D)×Int) (λv=>[(16,.d (.int .i64 (t _ λ_=>v.1)))]) (λv=>[(3,.row 1 (t _ λ_=>v.2.1)),(2,.var [AV.d (D.str k),AV.d (D.bool (t Bool λx=>decide ((t Int λx=>Int.tmod n0 2)=1))),.ow 3 1 (t _ λ_=>(v.2.1).length)]),(0,.var [AV.d (D.str s),.d (.int .i64 (t _ λ_=>v.2.2))])]) J0 ?_;cbv;refine aC ⟨n0.toNat / 2,(_,[],_),(dZ _ _ _ _).2 ?_,by simp only[ht];rfl,?_⟩
 .exact⟨0,[],rfl,by((try simp only[aa]at*);omega),rfl,rfl,b2.2.2.1,b2.2.2.2,g4⟩
 rintro n ⟨i,o,a⟩ hj;replace hj:=(dZ _ _ _ _).1 hj;obtain⟨c,l,rfl,j1,rfl,j3,j4,j5,j6⟩:=hj;cbv;apply aj<;>intro h1
 .simp[ht,aa,b4]at h1;cbv;(obtain⟨m,rfl,hx⟩:=KG j6;rcases hx with jx|⟨x,a2,jx,jy⟩;(apply Ok [2] (.more 0 (.more 1 (.one 2 (.one 3 (.one 4 (.one 5 (.one 6 (.one 7 .done)))))) (.one 2 (.more 1 (.one 3 (.one 4 (.one 5 (.one 6 (.one 7 .done))))) (.one 3 (.more 1 (.one 4 (.one 5 (.one 6 (.one 7 .done)))) (.one 4 (.one 1 (.one 5 (.one 6 (.one 7 .done)))))))))) (.one 2 (.more 0 (.more 1 (.one 3 (.one 4 (.one 5 (.one 6 (.one 7 .done))))) (.one 3 (.more 1 (.one 4 (.one 5 (.one 6 (.one 7 .done)))) (.one 4 (.one 1 (.one 5 (.one 6 (.one 7 .done)))))))) (.one 3 (.more 0 (.more 1 (.one 4 (.one 5 (.one 6 (.one 7 .done)))) (.one 4 (.one 1 (.one 5 (.one 6 (.one 7 .done)))))) (.one 4 (.one 0 (.one 1 (.one 5 (.one 6 (.one 7 .done)))))))))));kernel_rfl;kernel_rfl;kernel_rfl;kernel_rfl;(next=>cbv;repeat (first|(refine bU [0] hY rfl rfl (KH ht s hs (by simp only[ht];((try simp only[aa]at*);omega)) (by simp only[ht];exact jx)) (bK ?_);cbv;exact oy [true,true,true,true] rfl rfl rfl rfl)|refine And.intro ?_ ?_|exact rfl|exact True.intro)));(have b5:=qz hs jx;apply yd [2] (.more 0 (.more 1 (.one 2 (.one 3 (.one 4 (.one 5 (.one 6 (.one 7 .done)))))) (.one 2 (.more 1 (.one 3 (.one 4 (.one 5 (.one 6 (.one 7 .done))))) (.one 3 (.more 1 (.one 4 (.one 5 (.one 6 (.one 7 .done)))) (.one 4 (.one 1 (.one 5 (.one 6 (.one 7 .done)))))))))) (.one 2 (.more 0 (.more 1 (.one 3 (.one 4 (.one 5 (.one 6 (.one 7 .done))))) (.one 3 (.more 1 (.one 4 (.one 5 (.one 6 (.one 7 .done)))) (.one 4 (.one 1 (.one 5 (.one 6 (.one 7 .done)))))))) (.one 3 (.more 0 (.more 1 (.one 4 (.one 5 (.one 6 (.one 7 .done)))) (.one 4 (.one 1 (.one 5 (.one 6 (.one 7 .done)))))) (.one 4 (.one 0 (.one 1 (.one 5 (.one 6 (.one 7 .done)))))))))));kernel_rfl;kernel_rfl;kernel_rfl;kernel_rfl;(next=>cbv;repeat (first|(refine aW [0] hY rfl rfl (BO ht s hs (by simp only[ht];((try simp only[aa]at*);omega)) (by simp only[ht];exact jx)) (aH ?_);cbv)|refine And.intro ?_ ?_|exact rfl|(simp only[ht,true_and];exact Kl (l:=l) (x:=x) (by((try simp only[aa]at*);omega)))|exact True.intro))));cbv;refine bA (_,_,_) (by simp only[ht,<-vaa];rfl) m ?_ ((dZ _ _ _ _).2 ?_)
  .omega
  simp only[ht,aa];exact⟨c+1,l++[x],aG (by((try simp only[aa]at*);omega)),by((try simp only[aa]at*);omega),by simp,by simp;((try simp only[aa]at*);omega),b5.1,b5.2.1,jy⟩
 simp[ht,aa,b4]at h1;(exfalso;have hn:n=0:=(by((try simp only[aa]at*);omega));subst hn;rw[fw]at j6;cases j6)
def ig(s:az)(p:Int):Option (List Term×Int):=match dP s p 4 with
 |none=>none|some (n,q)=>fe s n.toNat [] q
theorem Ng{s:az}{p:Int}(h:ig s p=none):dP s p 4=none∨∃n q,dP s p 4=some (n,q)/\fe s n.toNat [] q=none:=by
 unfold ig at h;split at h
 .rename_i g;exact .inl g
 rename_i n q g;exact .inr ⟨n,q,g,h⟩
theorem KI{s:az}:∀{n:Nat} {l:List Term} {p:Int},fe s n l p=none->∃m,n=m+1/\(kN s p=none∨∃x q,kN s p=some (x,q)/\fe s m (l++[x]) q=none)
 |0,l,p,h=>by rw[fe]at h;cases h
 |n+1,l,p,h=>by
  refine⟨n,rfl,?_⟩;rw[fe]at h;split at h
  .rename_i x q g;exact .inr ⟨x,q,g,h⟩
  rename_i g;exact .inl g
theorem TS(ht:TT t)(a b c:AV)(ha:a.shut=true):FDP 206 [.ptr 0 0,.ptr 1 0,.ptr 2 0] [.var [a],.var [b],.var [c],.dead] TQ [.var [.cl []],.var [bf 0],.var [BL false],.dead]:=by
 refine ZE ht (aK:=[.var [a],.var [b],.var [c],.dead]) Tryz.func206 rfl rfl (N:=9) rfl rfl (n:=4) rfl rfl rfl ?_;cbv;apply aj<;>intro h0
 .simp[ht,aa]at h0;cbv;refine ak ?_;rfl
 simp[ht,aa]at h0
theorem TU(ht:TT t)(n:Nat)(b c:AV)(es:List (List D)):FDP 206 [.ptr 0 0,.ptr 1 0,.ptr 2 0] [.var [.ow 4 3 n],.var [b],.var [c],.dead,.row 3 es] TQ [.var [.cl []],.var [bf 0],.var [BL false],.dead,.row 3 es]:=by
 refine ZE ht (aK:=[.var [.ow 4 3 n],.var [b],.var [c],.dead,.row 3 es]) Tryz.func206 rfl rfl (N:=9) rfl rfl (n:=5) rfl rfl rfl ?_;cbv;apply aj<;>intro h0
 .simp[ht,aa]at h0;cbv;refine ak ?_;rfl
 simp[ht,aa]at h0
theorem WT(ht:TT t)(s:az){p:Int}(hs:s.length<9223372036854775000)(hp:p<9223372036854775808)(h:ig s p=none):
 FC 178 [ST s,bf p] [] (.ret (.c5 [SL [],bf 0,BL false])) []:=by
 have hA:=Ng h;clear h;refine abX ht 7 (aK:=[]) Tryz.func178 rfl rfl (N:=33) rfl rfl (n:=0) rfl rfl rfl ?_;cbv;(rcases hA with g1|⟨n0,q,g1,g2⟩<;>first|(refine bU [3] hY rfl rfl (OZ ht s hs (by((try simp only[aa]at*);omega)) (by decide) (by decide) g1) (bK ?_))|(have b1:=uY g1;refine aW [3] hY rfl rfl (GV ht s hs (by((try simp only[aa]at*);omega)) (by decide) g1) (aH ?_)))
 .cbv;(refine Hs (TS ht _ _ _ rfl) ?_);cbv;refine ak ?_;rfl
 cbv;obtain⟨J0,dZ⟩:∃J0:Nat->Int×List (List D)×Int->Prop,∀n i o a,J0 n (i,o,a)↔(∃(c:Nat) (l:List Term),i=c/\c+n=n0.toNat/\o=l.map Term.cells/\l.length=c/\0<=a/\a<=s.length/\fe s n l a=none):=⟨λn v=>match v with|(i,o,a)=>(∃(c:Nat) (l:List Term),i=c/\c+n=n0.toNat/\o=l.map Term.cells/\l.length=c/\0<=a/\a<=s.length/\fe s n l a=none),λ_ _ _ _=>Iff.rfl⟩;refine bw ⟨[4,5,6,7,14,15],[],[(0,0,3)]⟩ (σ:=Int×List (List D)×Int) (λv=>[(15,.d (.int .i64 (t _ λ_=>v.1)))]) (λv=>[(4,.row 3 (t _ λ_=>v.2.1)),(0,.var [.ow 4 3 (t _ λ_=>(v.2.1).length)]),(3,.var [AV.d (D.str s),.d (.int .i64 (t _ λ_=>v.2.2))])]) J0 ?_;cbv;refine aC ⟨n0.toNat,(_,[],_),(dZ _ _ _ _).2 ?_,by simp only[ht];rfl,?_⟩
 .exact⟨0,[],rfl,by((try simp only[aa]at*);omega),rfl,rfl,b1.2.2.1,b1.2.2.2,g2⟩
 rintro n ⟨i,o,a⟩ hj;replace hj:=(dZ _ _ _ _).1 hj;obtain⟨c,l,rfl,j1,rfl,j3,j4,j5,j6⟩:=hj;cbv;apply aj<;>intro h1
 .simp[ht,aa]at h1;cbv;(obtain⟨m,rfl,hx⟩:=KI j6;rcases hx with jx|⟨⟨k,no,vs⟩,a2,jx,jy⟩;(apply Ok [1] (.more 0 (.one 1 (.one 2 (.one 3 (.one 4 (.one 5 .done))))) (.one 1 (.more 0 (.one 2 (.one 3 (.one 4 (.one 5 .done)))) (.one 2 (.more 0 (.one 3 (.one 4 (.one 5 .done))) (.one 3 (.one 0 (.one 4 (.one 5 .done)))))))));kernel_rfl;kernel_rfl;kernel_rfl;kernel_rfl;(next=>cbv;repeat (first|(refine bU [3] hY rfl rfl (TR ht s hs (by simp only[ht];((try simp only[aa]at*);omega)) (by simp only[ht];exact jx)) (bK ?_);cbv;refine Hs (TU ht _ _ _ _) ?_;cbv;exact ak rfl)|refine And.intro ?_ ?_|exact rfl|exact True.intro)));(have b5:=DB hs jx;obtain⟨vr,vA⟩:∃vr,vr=vs.map bp:=⟨_,rfl⟩;apply yd [1] (.more 0 (.one 1 (.one 2 (.one 3 (.one 4 (.one 5 .done))))) (.one 1 (.more 0 (.one 2 (.one 3 (.one 4 (.one 5 .done)))) (.one 2 (.more 0 (.one 3 (.one 4 (.one 5 .done))) (.one 3 (.one 0 (.one 4 (.one 5 .done)))))))));kernel_rfl;kernel_rfl;kernel_rfl;kernel_rfl;(next=>cbv;repeat (first|(refine aW [3] hY rfl rfl (ON ht s hs (by simp only[ht];((try simp only[aa]at*);omega)) vA (by simp only[ht];exact jx)) (aH ?_);cbv)|refine And.intro ?_ ?_|exact rfl|(simp only[ht,true_and];exact Fw (l:=l) (k:=k) (no:=no) (vr:=vr) (by((try simp only[aa]at*);omega)))|exact True.intro))));cbv;refine bA (_,_,_) (by simp only[ht,<-vaa];rfl) m ?_ ((dZ _ _ _ _).2 ?_)
  .omega
  simp only[ht,aa];exact⟨c+1,l++[⟨k,no,vs⟩],aG (by((try simp only[aa]at*);omega)),by((try simp only[aa]at*);omega),by simp[Term.cells,vA],by simp;((try simp only[aa]at*);omega),b5.1,b5.2,jy⟩
 simp[ht,aa]at h1;(exfalso;have hn:n=0:=(by((try simp only[aa]at*);omega));subst hn;rw[fe]at j6;cases j6)
def rP(s:az)(p:Int):Option (Ask×Int):=
 match aI s p 98 with
 |⟨path,p1,true⟩=>match fc s p1 with
  |⟨v,p2,true⟩=>match dP s p2 100 with
   |some (n,p3)=>match dP s p3 100 with
    |some (pr,p4)=>match dP s p4 100 with
     |some (tk,p5)=>match ig s p5 with
      |some (sl,e)=>some (⟨path,v,n,pr,tk,sl⟩,e)|none=>none
     |none=>none
    |none=>none
   |none=>none
  |_=>none
 |_=>none
def An2(s:az)(a:Int):Prop:=dP s a 100=none∨∃n q,dP s a 100=some (n,q)/\ig s q=none
def An1(s:az)(a:Int):Prop:=dP s a 100=none∨∃n q,dP s a 100=some (n,q)/\An2 s q
def An0(s:az)(a:Int):Prop:=dP s a 100=none∨∃n q,dP s a 100=some (n,q)/\An1 s q
theorem Ht{s:az}{a:Int}{P:Int->Prop}(h:dP s a 100=none∨∃n q,dP s a 100=some (n,q)/\P q)(h1:(aV s a).ok=true)(h2:(aV s a).u<=100):P (aV s a).next:=by
 have e:dP s a 100=some ((aV s a).u,(aV s a).next):=by unfold dP;rw[if_pos ⟨h1,h2⟩]
 rcases h with h|⟨n,q,g,hP⟩
 .rw[e]at h;cases h
 rw[e]at g;cases g;exact hP
theorem Nh{s:az}{p:Int}(h:rP s p=none):(aI s p 98).ok=false∨∃path p1,aI s p 98=⟨path,p1,true⟩/\((fc s p1).ok=false∨∃v p2,fc s p1=⟨v,p2,true⟩/\An0 s p2):=by
 unfold rP at h;split at h
 .rename_i path p1 e0;refine .inr ⟨path,p1,e0,?_⟩;split at h
  .rename_i v p2 e1;refine .inr ⟨v,p2,e1,?_⟩;split at h
   .rename_i n p3 e2;refine .inr ⟨n,p3,e2,?_⟩;split at h
    .rename_i pr p4 e3;refine .inr ⟨pr,p4,e3,?_⟩;split at h
     .rename_i tk p5 e4;refine .inr ⟨tk,p5,e4,?_⟩;split at h
      .cases h
      rename_i e5;exact e5
     rename_i e4;exact .inl e4
    rename_i e3;exact .inl e3
   rename_i e2;exact .inl e2
  rename_i e1;left;cases hv:(fc s p1).ok with
  |false=>rfl|true=>exact absurd (show fc s p1=⟨(fc s p1).v,(fc s p1).next,true⟩ by rw[<-hv]) (e1 _ _)
 rename_i e0;left;cases hv:(aI s p 98).ok with
 |false=>rfl|true=>exact absurd (show aI s p 98=⟨(aI s p 98).t,(aI s p 98).next,true⟩ by rw[<-hv]) (e0 _ _)
theorem WU(ht:TT t)(s:az){p:Int}(hs:s.length<9223372036854775000)(hp:p<9223372036854775808)(h:rP s p=none):
 FC 133 [ST s,bf p] [] (.ret (.c5 [.agg [ST [],aA 0,aA 0,aA 0,aA 0,bf 0,bf 0,bf 0,SL []],bf 0,BL false])) []:=by
 have hA:=Nh h;clear h;refine cC ht Tryz.func133 (N:=83) ?_;cbv;refine ar (fW ht _ _ _ ‹_› ‹_› (by omega)) hY (λr0 bM=>?_);simp only[ht]at bM;(rcases hA with g0|⟨path,p1,g0,hB⟩<;>first|(have b0:=dx (s:=s) (p:=p) (m:=98) hs;rw[g0]at bM b0;simp only at b0;subst bM)|(rw[<-bM]at g0;obtain⟨u9,n9,k9⟩:=r0;simp only at g0;subst g0))
 .cbv;apply aj<;>intro h1
  .simp[ht,aa]at h1;cbv;(exact ia hY (by simp[ht]) rfl rfl rfl (by simp only[ht]))
  simp[ht,aa]at h1
 cbv;apply aj<;>intro h2
 .simp[ht,aa]at h2
 simp[ht,aa]at h2;cbv;refine ar (uV ht _ _ ‹_› (by((try simp only[aa]at*);omega))) hY (λr3 iR=>?_);simp only[ht]at iR;(rcases hB with g1|⟨⟨va,vb,vc,vd⟩,p2,g1,hC⟩<;>first|(have b1:=rF (s:=s) (p:=p1);rw[g1]at iR b1;simp only at b1;subst iR)|(rw[<-iR]at g1;obtain⟨u9,n9,k9⟩:=r3;simp only at g1;subst g1))
 .cbv;apply aj<;>intro h4
  .simp[ht,aa]at h4;cbv;(exact ia hY (by simp[ht]) rfl rfl rfl (by simp only[ht]))
  simp[ht,aa]at h4
 cbv;apply aj<;>intro h5
 .simp[ht,aa]at h5
 simp[ht,aa]at h5;cbv;obtain⟨J6,HU⟩:∃J6:Nat->Int×Int×Int×Int×Int->Prop,∀m a0 i x0 x1 x2,J6 m (a0,i,x0,x1,x2)↔(a0<=s.length/\((i=0/\m=3/\An0 s a0)∨(i=1/\m=2/\An1 s a0)∨(i=2/\m=1/\An2 s a0)∨(i=3/\m=0/\ig s a0=none))):=⟨λm v=>match v with|(a0,i,x0,x1,x2)=>(a0<=s.length/\((i=0/\m=3/\An0 s a0)∨(i=1/\m=2/\An1 s a0)∨(i=2/\m=1/\An2 s a0)∨(i=3/\m=0/\ig s a0=none))),λ_ _ _ _ _ _=>Iff.rfl⟩;refine bw ⟨[0,1,4,7,31],[],[]⟩ (σ:=Int×Int×Int×Int×Int) (λv=>[(1,.d (.int .i64 (t _ λ_=>v.1))),(31,.d (.int .i64 (v.2.1)))]) (λv=>[(0,.var [AV.d (D.str path),AV.d (D.int IntKind.u64 va),AV.d (D.int IntKind.u64 vb),AV.d (D.int IntKind.u64 vc),AV.d (D.int IntKind.u64 vd),AV.d (D.int IntKind.i64 0),AV.d (D.int IntKind.i64 0),AV.d (D.int IntKind.i64 0),AV.cl []]),(1,.var [.d (.int .u64 (t _ λ_=>v.2.2.1)),.d (.int .u64 (t _ λ_=>v.2.2.2.1)),.d (.int .u64 (t _ λ_=>v.2.2.2.2))])]) J6 ?_;cbv;refine aC ⟨3,(_,_,_,_,_),(HU _ _ _ _ _ _).2 ?_,by simp only[ht];rfl,?_⟩
 .exact⟨by((try simp only[aa]at*);omega),.inl ⟨rfl,rfl,hC⟩⟩
 rintro m ⟨a0,i,x0,x1,x2⟩ hj;replace hj:=(HU _ _ _ _ _ _).1 hj;(obtain⟨jb,hj⟩:=hj;rcases hj with⟨rfl,jm,jC⟩|⟨rfl,jm,jC⟩|⟨rfl,jm,jC⟩|⟨rfl,jm,jC⟩)
 .cbv;apply aj<;>intro h7
  .simp[ht,aa]at h7;cbv;refine ar (eF ht _ _ ‹_› (by(simp only[ht];((try simp only[aa]at*);omega)))) hY (λr8 tV=>?_);simp only[ht]at tV;cbv;refine⟨?_,?_⟩
   ·(simp only[ht,aa]at*;omega)
   iterate 4 refine gI (by simp[ht,ah]) ?_
   refine pI (by simp[ht,ah]) ?_;apply aj<;>intro h9
   .simp[ht,aa]at h9;cbv;(exact ia hY (by simp[ht]) rfl rfl rfl (by simp only[ht]))
   simp[ht,aa]at h9;cbv;refine bA (_,_,_,_,_) (by simp only[ht];rfl) (m-1) ?_ ((HU _ _ _ _ _ _).2 ?_)
   .omega
   simp only[ht,aa];(have hk:r8.ok=true/\r8.u<=100:=‹_›;have z8:=eE (s:=s) (p:=a0) (by rw[<-tV];exact hk.1);have y8:=Ht jC (by rw[<-tV];exact hk.1) (by rw[<-tV];exact hk.2);rw[<-tV]at z8 y8;first|exact⟨z8.2.2.1,.inr (.inl ⟨by rw[bN (by decide) (by decide)];rfl,by omega,y8⟩)⟩|exact⟨z8.2.2.1,.inr (.inr (.inl ⟨by rw[bN (by decide) (by decide)];rfl,by omega,y8⟩))⟩|exact⟨z8.2.2.1,.inr (.inr (.inr ⟨by rw[bN (by decide) (by decide)];rfl,by omega,y8⟩))⟩)
  simp[ht,aa]at h7
 .cbv;apply aj<;>intro h10
  .simp[ht,aa]at h10;cbv;refine ar (eF ht _ _ ‹_› (by(simp only[ht];((try simp only[aa]at*);omega)))) hY (λWf mW=>?_);simp only[ht]at mW;cbv;refine⟨?_,?_⟩
   ·(simp only[ht,aa]at*;omega)
   iterate 4 refine gI (by simp[ht,ah]) ?_
   refine pI (by simp[ht,ah]) ?_;apply aj<;>intro h12
   .simp[ht,aa]at h12;cbv;(exact ia hY (by simp[ht]) rfl rfl rfl (by simp only[ht]))
   simp[ht,aa]at h12;cbv;refine bA (_,_,_,_,_) (by simp only[ht];rfl) (m-1) ?_ ((HU _ _ _ _ _ _).2 ?_)
   .omega
   simp only[ht,aa];(have hk:Wf.ok=true/\Wf.u<=100:=‹_›;have z8:=eE (s:=s) (p:=a0) (by rw[<-mW];exact hk.1);have y8:=Ht jC (by rw[<-mW];exact hk.1) (by rw[<-mW];exact hk.2);rw[<-mW]at z8 y8;first|exact⟨z8.2.2.1,.inr (.inl ⟨by rw[bN (by decide) (by decide)];rfl,by omega,y8⟩)⟩|exact⟨z8.2.2.1,.inr (.inr (.inl ⟨by rw[bN (by decide) (by decide)];rfl,by omega,y8⟩))⟩|exact⟨z8.2.2.1,.inr (.inr (.inr ⟨by rw[bN (by decide) (by decide)];rfl,by omega,y8⟩))⟩)
  simp[ht,aa]at h10
 .cbv;apply aj<;>intro OH
  .simp[ht,aa]at OH;cbv;refine ar (eF ht _ _ ‹_› (by(simp only[ht];((try simp only[aa]at*);omega)))) hY (λZo qy=>?_);simp only[ht]at qy;cbv;refine⟨?_,?_⟩
   ·(simp only[ht,aa]at*;omega)
   iterate 4 refine gI (by simp[ht,ah]) ?_
   refine pI (by simp[ht,ah]) ?_;apply aj<;>intro h15
   .simp[ht,aa]at h15;cbv;(exact ia hY (by simp[ht]) rfl rfl rfl (by simp only[ht]))
   simp[ht,aa]at h15;cbv;refine bA (_,_,_,_,_) (by simp only[ht];rfl) (m-1) ?_ ((HU _ _ _ _ _ _).2 ?_)
   .omega
   simp only[ht,aa];(have hk:Zo.ok=true/\Zo.u<=100:=‹_›;have z8:=eE (s:=s) (p:=a0) (by rw[<-qy];exact hk.1);have y8:=Ht jC (by rw[<-qy];exact hk.1) (by rw[<-qy];exact hk.2);rw[<-qy]at z8 y8;first|exact⟨z8.2.2.1,.inr (.inl ⟨by rw[bN (by decide) (by decide)];rfl,by omega,y8⟩)⟩|exact⟨z8.2.2.1,.inr (.inr (.inl ⟨by rw[bN (by decide) (by decide)];rfl,by omega,y8⟩))⟩|exact⟨z8.2.2.1,.inr (.inr (.inr ⟨by rw[bN (by decide) (by decide)];rfl,by omega,y8⟩))⟩)
  simp[ht,aa]at OH
 cbv;apply aj<;>intro TG
 .simp[ht,aa]at TG
 simp[ht,aa]at TG;cbv;(apply Ol (aZ 15 1 [(0,0)]::aZ 15 8 [(0,3)]::aZ 15 64 [(0,6)]::aZ 15 3 [(1,1)]::aZ 15 9 [(1,3),(2,0)]::aZ 15 24 [(2,4)]::aZ 15 65 [(1,6),(3,0)]::aZ 15 72 [(2,6),(3,3)]::aZ 15 192 [(3,7)]::aZ 15 7 [(4,2)]::aZ 15 11 [(4,3),(5,1)]::aZ 15 25 [(5,4),(6,0)]::aZ 15 56 [(6,5)]::aZ 15 67 [(4,6),(7,1)]::aZ 15 73 [(5,6),(7,3),(8,0)]::aZ 15 88 [(6,6),(8,4)]::aZ 15 193 [(7,7),(9,0)]::aZ 15 200 [(8,7),(9,3)]::aZ 15 448 [(9,8)]::aZ 15 15 [(10,3),(11,2)]::aZ 15 27 [(11,4),(12,1)]::aZ 15 57 [(12,5),(13,0)]::aZ 15 71 [(10,6),(14,2)]::aZ 15 75 [(11,6),(14,3),(15,1)]::aZ 15 89 [(12,6),(15,4),(16,0)]::aZ 15 120 [(13,6),(16,5)]::aZ 15 195 [(14,7),(17,1)]::aZ 15 201 [(15,7),(17,3),(18,0)]::aZ 15 216 [(16,7),(18,4)]::aZ 15 449 [(17,8),(19,0)]::aZ 15 456 [(18,8),(19,3)]::aZ 15 519 [(10,9)]::aZ 15 31 [(20,4),(21,2)]::aZ 15 59 [(21,5),(22,1)]::aZ 15 79 [(20,6),(23,3),(24,2)]::aZ 15 91 [(21,6),(24,4),(25,1)]::aZ 15 121 [(22,6),(25,5),(26,0)]::aZ 15 199 [(23,7),(27,2)]::aZ 15 203 [(24,7),(27,3),(28,1)]::aZ 15 217 [(25,7),(28,4),(29,0)]::aZ 15 248 [(26,7),(29,5)]::aZ 15 451 [(27,8),(30,1)]::aZ 15 457 [(28,8),(30,3),(31,0)]::aZ 15 472 [(29,8),(31,4)]::aZ 15 527 [(20,9),(32,3)]::aZ 15 583 [(23,9),(32,6)]::aZ 15 1543 [(32,10)]::aZ 15 63 [(33,5),(34,2)]::aZ 15 95 [(33,6),(35,4),(36,2)]::aZ 15 123 [(34,6),(36,5),(37,1)]::aZ 15 207 [(35,7),(38,3),(39,2)]::aZ 15 219 [(36,7),(39,4),(40,1)]::aZ 15 249 [(37,7),(40,5),(41,0)]::aZ 15 455 [(38,8),(42,2)]::aZ 15 459 [(39,8),(42,3),(43,1)]::aZ 15 473 [(40,8),(43,4),(44,0)]::aZ 15 504 [(41,8),(44,5)]::aZ 15 543 [(33,9),(45,4)]::aZ 15 591 [(35,9),(45,6),(46,3)]::aZ 15 711 [(38,9),(46,7)]::aZ 15 1551 [(45,10),(47,3)]::aZ 15 1607 [(46,10),(47,6)]::aZ 15 127 [(48,6),(49,5),(50,2)]::aZ 15 223 [(49,7),(51,4),(52,2)]::aZ 15 251 [(50,7),(52,5),(53,1)]::aZ 15 463 [(51,8),(54,3),(55,2)]::aZ 15 475 [(52,8),(55,4),(56,1)]::aZ 15 505 [(53,8),(56,5),(57,0)]::aZ 15 575 [(48,9),(58,5)]::aZ 15 607 [(49,9),(58,6),(59,4)]::aZ 15 719 [(51,9),(59,7),(60,3)]::aZ 15 967 [(54,9),(60,8)]::aZ 15 1567 [(58,10),(61,4)]::aZ 15 1615 [(59,10),(61,6),(62,3)]::aZ 15 1735 [(60,10),(62,7)]::aZ 15 255 [(63,7),(64,5),(65,2)]::aZ 15 479 [(64,8),(66,4),(67,2)]::aZ 15 507 [(65,8),(67,5),(68,1)]::aZ 15 639 [(63,9),(69,6),(70,5)]::aZ 15 735 [(64,9),(70,7),(71,4)]::aZ 15 975 [(66,9),(71,8),(72,3)]::aZ 15 1599 [(69,10),(73,5)]::aZ 15 1631 [(70,10),(73,6),(74,4)]::aZ 15 1743 [(71,10),(74,7),(75,3)]::aZ 15 1991 [(72,10),(75,8)]::aZ 15 511 [(76,8),(77,5),(78,2)]::aZ 15 767 [(76,9),(79,7),(80,5)]::aZ 15 991 [(77,9),(80,8),(81,4)]::aZ 15 1663 [(79,10),(82,6),(83,5)]::aZ 15 1759 [(80,10),(83,7),(84,4)]::aZ 15 1999 [(81,10),(84,8),(85,3)]::aZ 15 3647 [(82,11)]::aZ 15 1023 [(86,9),(87,8),(88,5)]::aZ 15 1791 [(87,10),(89,7),(90,5)]::aZ 15 2015 [(88,10),(90,8),(91,4)]::aZ 15 3711 [(89,11),(92,6)]::aZ 15 7743 [(92,12)]::aZ 15 2047 [(93,10),(94,8),(95,5)]::aZ 15 3839 [(94,11),(96,7)]::aZ 15 7807 [(96,12),(97,6)]::aZ 15 4095 [(98,11),(99,8)]::aZ 15 7935 [(99,12),(100,7)]::aZ 15 8191 [(101,12),(102,8)]::aZ 15 16383 [(103,13)]::aZ 15 32767 [(104,14)]::[]) (_::_::_::_::_::_::_::_::_::_::_::_::_::_::_::_::_::_::_::_::_::_::_::_::_::_::_::_::_::_::_::_::_::_::_::_::_::_::_::_::_::_::_::_::_::_::_::_::_::_::_::_::_::_::_::_::_::_::_::_::_::_::_::_::_::_::_::_::_::_::_::_::_::_::_::_::_::_::_::_::_::_::_::_::_::_::_::_::_::_::_::_::_::_::_::_::_::_::_::_::_::_::_::_::_::_::[]);kernel_rfl;(next=>refine Mb.mk rfl (Kr λQ=>?_);repeat (first|((with_reducible apply vq.cons);exact rfl)|(with_reducible exact vq.nil)|((with_reducible apply BP);focus (cbv;first|done|exact rfl|(refine And.intro ?_ ?_;(next=>simp[ht]);(first|exact rfl|exact True.intro))))|(apply p8.cons;exact rfl)|exact p8.nil));(next=>exact rfl));cbv;(refine yl hY (WT ht s hs (by simp only[ht];((try simp only[aa]at*);omega)) (by simp only[ht];exact jC)) hY rfl rfl rfl ?_);cbv;refine gI (by simp[ht,ah]) ?_;(refine aT (E:=ol) (r0:=t _ λ_=>(0:Int)) (λg9=>by exfalso;simp[ht]at g9) rfl rfl (λr7 jU=>?_));cbv;refine gI (by simp[ht,ah]) ?_;refine pI (by simp[ht,ah]) ?_;apply aj<;>intro h17
 .simp[ht,aa]at h17;cbv;(exact ia hY (by simp[ht]) rfl rfl rfl (by simp only[ht]))
 simp[ht,aa]at h17
theorem Hu(s:az)(p:Int):(aV s p).ok=false∨∃u q,aV s p=⟨u,q,true⟩:=by
 cases hv:(aV s p).ok with
 |false=>exact .inl rfl|true=>exact .inr ⟨(aV s p).u,(aV s p).next,by rw[<-hv]⟩
theorem KJ{s:az}:∀{n:Nat} {l:List cw} {p:Int},dS s n l p=none->∃m,n=m+1/\((aV s p).ok=false∨∃a p1,aV s p=⟨a,p1,true⟩/\((aV s p1).ok=false∨∃b p2,aV s p1=⟨b,p2,true⟩/\
 ((aV s p2).ok=false∨∃c p3,aV s p2=⟨c,p3,true⟩/\dS s m (l++[⟨a,b,IntKind.i64.wrap c⟩]) p3=none)))
 |0,l,p,h=>by rw[dS]at h;cases h
 |n+1,l,p,h=>by
  refine⟨n,rfl,?_⟩;rcases Hu s p with g1|⟨a,p1,g1⟩
  .exact .inl g1
  refine .inr ⟨a,p1,g1,?_⟩;rcases Hu s p1 with g2|⟨b,p2,g2⟩
  .exact .inl g2
  refine .inr ⟨b,p2,g2,?_⟩;rcases Hu s p2 with g3|⟨c,p3,g3⟩
  .exact .inl g3
  refine .inr ⟨c,p3,g3,?_⟩;rw[dS]at h;simpa only[g1,g2,g3]using h
def yU(s:az)(p:Int):Prop:=(aV s p).ok=false∨∃f p1,aV s p=⟨f,p1,true⟩/\((aV s p1).ok=false∨∃n p2,aV s p1=⟨n,p2,true⟩/\n<1000/\dS s n.toNat [] p2=none)
theorem nK(ht:TT t)(s:az){p:Int}(hs:s.length<9223372036854775000)(hp:p<9223372036854775808)(hA:yU s p):
 FC 72 [.ptr 0 0] [.var [ST s,bf p]] (.zh Qy) [.dead]:=by
 unfold yU at hA;refine X4 ht (aK:=[.var [ST s,bf p]]) Tryz.func72 rfl rfl (N:=30) rfl (n:=1) rfl rfl ?_;cbv;(first|(rcases hA with g1|⟨f,p1,g1,hB⟩<;>first|(refine bU [0] hY rfl rfl (cz ht s hs (by((try simp only[aa]at*);omega)) g1) (bK ?_))|(have b1:=bH g1;refine aW [0] hY rfl rfl (bI ht s hs (by((try simp only[aa]at*);omega)) g1) (aH ?_)))|(rcases hB with g2|⟨n0,p2,g2,g5,g3⟩<;>first|(refine bU [0] hY rfl rfl (cz ht s hs (by((try simp only[aa]at*);omega)) g2) (bK ?_))|(have b2:=bH g2;refine aW [0] hY rfl rfl (bI ht s hs (by((try simp only[aa]at*);omega)) g2) (aH ?_)))|(rcases hC with y1|⟨u1,q1,y1,hD⟩<;>first|(refine bU [0] hY rfl rfl (cz ht s hs (by simp only[ht];((try simp only[aa]at*);omega)) (by simp only[ht];exact y1)) (bK ?_))|(have d1:=bH y1;refine aW [0] hY rfl rfl (bI ht s hs (by simp only[ht];((try simp only[aa]at*);omega)) (by simp only[ht];exact y1)) (aH ?_)))|(rcases hD with y2|⟨u2,q2,y2,hE⟩<;>first|(refine bU [0] hY rfl rfl (cz ht s hs (by((try simp only[aa]at*);omega)) y2) (bK ?_))|(have d2:=bH y2;refine aW [0] hY rfl rfl (bI ht s hs (by((try simp only[aa]at*);omega)) y2) (aH ?_))))
 .cbv;(exact oy [true,true,true,true] rfl rfl rfl rfl)
 cbv;(first|(rcases hA with g1|⟨f,p1,g1,hB⟩<;>first|(refine bU [0] hY rfl rfl (cz ht s hs (by((try simp only[aa]at*);omega)) g1) (bK ?_))|(have b1:=bH g1;refine aW [0] hY rfl rfl (bI ht s hs (by((try simp only[aa]at*);omega)) g1) (aH ?_)))|(rcases hB with g2|⟨n0,p2,g2,g5,g3⟩<;>first|(refine bU [0] hY rfl rfl (cz ht s hs (by((try simp only[aa]at*);omega)) g2) (bK ?_))|(have b2:=bH g2;refine aW [0] hY rfl rfl (bI ht s hs (by((try simp only[aa]at*);omega)) g2) (aH ?_)))|(rcases hC with y1|⟨u1,q1,y1,hD⟩<;>first|(refine bU [0] hY rfl rfl (cz ht s hs (by simp only[ht];((try simp only[aa]at*);omega)) (by simp only[ht];exact y1)) (bK ?_))|(have d1:=bH y1;refine aW [0] hY rfl rfl (bI ht s hs (by simp only[ht];((try simp only[aa]at*);omega)) (by simp only[ht];exact y1)) (aH ?_)))|(rcases hD with y2|⟨u2,q2,y2,hE⟩<;>first|(refine bU [0] hY rfl rfl (cz ht s hs (by((try simp only[aa]at*);omega)) y2) (bK ?_))|(have d2:=bH y2;refine aW [0] hY rfl rfl (bI ht s hs (by((try simp only[aa]at*);omega)) y2) (aH ?_))))
 .cbv;(exact oy [true,true,true,true] rfl rfl rfl rfl)
 cbv;obtain⟨J0,dZ⟩:∃J0:Nat->Int×List (List D)×Int->Prop,∀n i o a,J0 n (i,o,a)↔(∃(c:Nat) (k:List cw),i=c/\c+n=n0.toNat/\o=k.map cw.cells/\k.length=c/\0<=a/\a<=s.length/\dS s n k a=none):=⟨λn v=>match v with|(i,o,a)=>(∃(c:Nat) (k:List cw),i=c/\c+n=n0.toNat/\o=k.map cw.cells/\k.length=c/\0<=a/\a<=s.length/\dS s n k a=none),λ_ _ _ _=>Iff.rfl⟩;refine bw ⟨[0,2,3,10,11],[],[(2,1,3)]⟩ (σ:=Int×List (List D)×Int) (λv=>[(11,.d (.int .u64 (t _ λ_=>v.1)))]) (λv=>[(3,.row 3 (t _ λ_=>v.2.1)),(2,.var [AV.d (D.int IntKind.u64 f),.ow 3 3 (t _ λ_=>(v.2.1).length)]),(0,.var [AV.d (D.str s),.d (.int .i64 (t _ λ_=>v.2.2))])]) J0 ?_;cbv;refine aC ⟨n0.toNat,(_,[],_),(dZ _ _ _ _).2 ?_,by simp only[ht];rfl,?_⟩
 .exact⟨0,[],rfl,by((try simp only[aa]at*);omega),rfl,rfl,b2.2.2.1,b2.2.2.2,g3⟩
 rintro n ⟨i,o,a⟩ hj;replace hj:=(dZ _ _ _ _).1 hj;obtain⟨c,k,rfl,j1,rfl,j3,j4,j5,j6⟩:=hj;(obtain⟨m,rfl,hC⟩:=KJ j6);cbv;apply aj<;>intro h1
 .simp[ht,aa]at h1;cbv;(first|(rcases hA with g1|⟨f,p1,g1,hB⟩<;>first|(refine bU [0] hY rfl rfl (cz ht s hs (by((try simp only[aa]at*);omega)) g1) (bK ?_))|(have b1:=bH g1;refine aW [0] hY rfl rfl (bI ht s hs (by((try simp only[aa]at*);omega)) g1) (aH ?_)))|(rcases hB with g2|⟨n0,p2,g2,g5,g3⟩<;>first|(refine bU [0] hY rfl rfl (cz ht s hs (by((try simp only[aa]at*);omega)) g2) (bK ?_))|(have b2:=bH g2;refine aW [0] hY rfl rfl (bI ht s hs (by((try simp only[aa]at*);omega)) g2) (aH ?_)))|(rcases hC with y1|⟨u1,q1,y1,hD⟩<;>first|(refine bU [0] hY rfl rfl (cz ht s hs (by simp only[ht];((try simp only[aa]at*);omega)) (by simp only[ht];exact y1)) (bK ?_))|(have d1:=bH y1;refine aW [0] hY rfl rfl (bI ht s hs (by simp only[ht];((try simp only[aa]at*);omega)) (by simp only[ht];exact y1)) (aH ?_)))|(rcases hD with y2|⟨u2,q2,y2,hE⟩<;>first|(refine bU [0] hY rfl rfl (cz ht s hs (by((try simp only[aa]at*);omega)) y2) (bK ?_))|(have d2:=bH y2;refine aW [0] hY rfl rfl (bI ht s hs (by((try simp only[aa]at*);omega)) y2) (aH ?_))))
  .cbv;(exact oy [true,true,true,true] rfl rfl rfl rfl)
  cbv;(first|(rcases hA with g1|⟨f,p1,g1,hB⟩<;>first|(refine bU [0] hY rfl rfl (cz ht s hs (by((try simp only[aa]at*);omega)) g1) (bK ?_))|(have b1:=bH g1;refine aW [0] hY rfl rfl (bI ht s hs (by((try simp only[aa]at*);omega)) g1) (aH ?_)))|(rcases hB with g2|⟨n0,p2,g2,g5,g3⟩<;>first|(refine bU [0] hY rfl rfl (cz ht s hs (by((try simp only[aa]at*);omega)) g2) (bK ?_))|(have b2:=bH g2;refine aW [0] hY rfl rfl (bI ht s hs (by((try simp only[aa]at*);omega)) g2) (aH ?_)))|(rcases hC with y1|⟨u1,q1,y1,hD⟩<;>first|(refine bU [0] hY rfl rfl (cz ht s hs (by simp only[ht];((try simp only[aa]at*);omega)) (by simp only[ht];exact y1)) (bK ?_))|(have d1:=bH y1;refine aW [0] hY rfl rfl (bI ht s hs (by simp only[ht];((try simp only[aa]at*);omega)) (by simp only[ht];exact y1)) (aH ?_)))|(rcases hD with y2|⟨u2,q2,y2,hE⟩<;>first|(refine bU [0] hY rfl rfl (cz ht s hs (by((try simp only[aa]at*);omega)) y2) (bK ?_))|(have d2:=bH y2;refine aW [0] hY rfl rfl (bI ht s hs (by((try simp only[aa]at*);omega)) y2) (aH ?_))))
  .cbv;(exact oy [true,true,true,true] rfl rfl rfl rfl)
  cbv;(rcases hE with y3|⟨u3,q3,y3,jy⟩;(apply Ok [2,3] (.more 0 (.more 1 (.more 2 (.one 3 (.one 4 (.one 5 (.one 6 (.one 7 (.one 8 (.one 9 (.one 10 (.one 11 .done))))))))) (.one 3 (.one 2 (.one 4 (.one 5 (.one 6 (.one 7 (.one 8 (.one 9 (.one 10 (.one 11 .done))))))))))) (.more 2 (.more 1 (.one 3 (.one 4 (.one 5 (.one 6 (.one 7 (.one 8 (.one 9 (.one 10 (.one 11 .done))))))))) (.one 3 (.more 1 (.one 4 (.one 5 (.one 6 (.one 7 (.one 8 (.one 9 (.one 10 (.one 11 .done)))))))) (.one 4 (.more 1 (.one 5 (.one 6 (.one 7 (.one 8 (.one 9 (.one 10 (.one 11 .done))))))) (.one 5 (.more 1 (.one 6 (.one 7 (.one 8 (.one 9 (.one 10 (.one 11 .done)))))) (.one 6 (.more 1 (.one 7 (.one 8 (.one 9 (.one 10 (.one 11 .done))))) (.one 7 (.more 1 (.one 8 (.one 9 (.one 10 (.one 11 .done)))) (.one 8 (.one 1 (.one 9 (.one 10 (.one 11 .done)))))))))))))))) (.one 3 (.more 1 (.one 2 (.one 4 (.one 5 (.one 6 (.one 7 (.one 8 (.one 9 (.one 10 (.one 11 .done))))))))) (.one 2 (.more 1 (.one 4 (.one 5 (.one 6 (.one 7 (.one 8 (.one 9 (.one 10 (.one 11 .done)))))))) (.one 4 (.more 1 (.one 5 (.one 6 (.one 7 (.one 8 (.one 9 (.one 10 (.one 11 .done))))))) (.one 5 (.more 1 (.one 6 (.one 7 (.one 8 (.one 9 (.one 10 (.one 11 .done)))))) (.one 6 (.more 1 (.one 7 (.one 8 (.one 9 (.one 10 (.one 11 .done))))) (.one 7 (.more 1 (.one 8 (.one 9 (.one 10 (.one 11 .done)))) (.one 8 (.one 1 (.one 9 (.one 10 (.one 11 .done))))))))))))))))))) (.more 2 (.more 0 (.more 1 (.one 3 (.one 4 (.one 5 (.one 6 (.one 7 (.one 8 (.one 9 (.one 10 (.one 11 .done))))))))) (.one 3 (.more 1 (.one 4 (.one 5 (.one 6 (.one 7 (.one 8 (.one 9 (.one 10 (.one 11 .done)))))))) (.one 4 (.more 1 (.one 5 (.one 6 (.one 7 (.one 8 (.one 9 (.one 10 (.one 11 .done))))))) (.one 5 (.more 1 (.one 6 (.one 7 (.one 8 (.one 9 (.one 10 (.one 11 .done)))))) (.one 6 (.more 1 (.one 7 (.one 8 (.one 9 (.one 10 (.one 11 .done))))) (.one 7 (.more 1 (.one 8 (.one 9 (.one 10 (.one 11 .done)))) (.one 8 (.one 1 (.one 9 (.one 10 (.one 11 .done)))))))))))))))) (.one 3 (.more 0 (.more 1 (.one 4 (.one 5 (.one 6 (.one 7 (.one 8 (.one 9 (.one 10 (.one 11 .done)))))))) (.one 4 (.more 1 (.one 5 (.one 6 (.one 7 (.one 8 (.one 9 (.one 10 (.one 11 .done))))))) (.one 5 (.more 1 (.one 6 (.one 7 (.one 8 (.one 9 (.one 10 (.one 11 .done)))))) (.one 6 (.more 1 (.one 7 (.one 8 (.one 9 (.one 10 (.one 11 .done))))) (.one 7 (.more 1 (.one 8 (.one 9 (.one 10 (.one 11 .done)))) (.one 8 (.one 1 (.one 9 (.one 10 (.one 11 .done)))))))))))))) (.one 4 (.more 0 (.more 1 (.one 5 (.one 6 (.one 7 (.one 8 (.one 9 (.one 10 (.one 11 .done))))))) (.one 5 (.more 1 (.one 6 (.one 7 (.one 8 (.one 9 (.one 10 (.one 11 .done)))))) (.one 6 (.more 1 (.one 7 (.one 8 (.one 9 (.one 10 (.one 11 .done))))) (.one 7 (.more 1 (.one 8 (.one 9 (.one 10 (.one 11 .done)))) (.one 8 (.one 1 (.one 9 (.one 10 (.one 11 .done)))))))))))) (.one 5 (.more 0 (.more 1 (.one 6 (.one 7 (.one 8 (.one 9 (.one 10 (.one 11 .done)))))) (.one 6 (.more 1 (.one 7 (.one 8 (.one 9 (.one 10 (.one 11 .done))))) (.one 7 (.more 1 (.one 8 (.one 9 (.one 10 (.one 11 .done)))) (.one 8 (.one 1 (.one 9 (.one 10 (.one 11 .done)))))))))) (.one 6 (.more 0 (.more 1 (.one 7 (.one 8 (.one 9 (.one 10 (.one 11 .done))))) (.one 7 (.more 1 (.one 8 (.one 9 (.one 10 (.one 11 .done)))) (.one 8 (.one 1 (.one 9 (.one 10 (.one 11 .done)))))))) (.one 7 (.more 0 (.more 1 (.one 8 (.one 9 (.one 10 (.one 11 .done)))) (.one 8 (.one 1 (.one 9 (.one 10 (.one 11 .done)))))) (.one 8 (.one 0 (.one 1 (.one 9 (.one 10 (.one 11 .done))))))))))))))))) (.one 3 (.more 0 (.more 1 (.one 2 (.one 4 (.one 5 (.one 6 (.one 7 (.one 8 (.one 9 (.one 10 (.one 11 .done))))))))) (.one 2 (.more 1 (.one 4 (.one 5 (.one 6 (.one 7 (.one 8 (.one 9 (.one 10 (.one 11 .done)))))))) (.one 4 (.more 1 (.one 5 (.one 6 (.one 7 (.one 8 (.one 9 (.one 10 (.one 11 .done))))))) (.one 5 (.more 1 (.one 6 (.one 7 (.one 8 (.one 9 (.one 10 (.one 11 .done)))))) (.one 6 (.more 1 (.one 7 (.one 8 (.one 9 (.one 10 (.one 11 .done))))) (.one 7 (.more 1 (.one 8 (.one 9 (.one 10 (.one 11 .done)))) (.one 8 (.one 1 (.one 9 (.one 10 (.one 11 .done)))))))))))))))) (.one 2 (.more 0 (.more 1 (.one 4 (.one 5 (.one 6 (.one 7 (.one 8 (.one 9 (.one 10 (.one 11 .done)))))))) (.one 4 (.more 1 (.one 5 (.one 6 (.one 7 (.one 8 (.one 9 (.one 10 (.one 11 .done))))))) (.one 5 (.more 1 (.one 6 (.one 7 (.one 8 (.one 9 (.one 10 (.one 11 .done)))))) (.one 6 (.more 1 (.one 7 (.one 8 (.one 9 (.one 10 (.one 11 .done))))) (.one 7 (.more 1 (.one 8 (.one 9 (.one 10 (.one 11 .done)))) (.one 8 (.one 1 (.one 9 (.one 10 (.one 11 .done)))))))))))))) (.one 4 (.more 0 (.more 1 (.one 5 (.one 6 (.one 7 (.one 8 (.one 9 (.one 10 (.one 11 .done))))))) (.one 5 (.more 1 (.one 6 (.one 7 (.one 8 (.one 9 (.one 10 (.one 11 .done)))))) (.one 6 (.more 1 (.one 7 (.one 8 (.one 9 (.one 10 (.one 11 .done))))) (.one 7 (.more 1 (.one 8 (.one 9 (.one 10 (.one 11 .done)))) (.one 8 (.one 1 (.one 9 (.one 10 (.one 11 .done)))))))))))) (.one 5 (.more 0 (.more 1 (.one 6 (.one 7 (.one 8 (.one 9 (.one 10 (.one 11 .done)))))) (.one 6 (.more 1 (.one 7 (.one 8 (.one 9 (.one 10 (.one 11 .done))))) (.one 7 (.more 1 (.one 8 (.one 9 (.one 10 (.one 11 .done)))) (.one 8 (.one 1 (.one 9 (.one 10 (.one 11 .done)))))))))) (.one 6 (.more 0 (.more 1 (.one 7 (.one 8 (.one 9 (.one 10 (.one 11 .done))))) (.one 7 (.more 1 (.one 8 (.one 9 (.one 10 (.one 11 .done)))) (.one 8 (.one 1 (.one 9 (.one 10 (.one 11 .done)))))))) (.one 7 (.more 0 (.more 1 (.one 8 (.one 9 (.one 10 (.one 11 .done)))) (.one 8 (.one 1 (.one 9 (.one 10 (.one 11 .done)))))) (.one 8 (.one 0 (.one 1 (.one 9 (.one 10 (.one 11 .done))))))))))))))))))));kernel_rfl;kernel_rfl;kernel_rfl;kernel_rfl;(next=>cbv;repeat (first|(refine bU [0] hY rfl rfl (cz ht s hs (by((try simp only[aa]at*);omega)) y3) (bK ?_);cbv;exact oy [true,true,true,true] rfl rfl rfl rfl)|refine And.intro ?_ ?_|exact rfl|exact True.intro)));(have d3:=bH y3;apply Ol (aZ 12 1 [(0,0)]::aZ 12 4 [(0,2)]::aZ 12 8 [(0,3)]::aZ 12 16 [(0,4)]::aZ 12 3 [(1,1)]::aZ 12 5 [(1,2),(2,0)]::aZ 12 9 [(1,3),(3,0)]::aZ 12 12 [(2,3),(3,2)]::aZ 12 17 [(1,4),(4,0)]::aZ 12 20 [(2,4),(4,2)]::aZ 12 24 [(3,4),(4,3)]::aZ 12 48 [(4,5)]::aZ 12 7 [(5,2),(6,1)]::aZ 12 11 [(5,3),(7,1)]::aZ 12 13 [(6,3),(7,2),(8,0)]::aZ 12 19 [(5,4),(9,1)]::aZ 12 21 [(6,4),(9,2),(10,0)]::aZ 12 25 [(7,4),(9,3),(11,0)]::aZ 12 28 [(8,4),(10,3),(11,2)]::aZ 12 49 [(9,5),(12,0)]::aZ 12 52 [(10,5),(12,2)]::aZ 12 56 [(11,5),(12,3)]::aZ 12 112 [(12,6)]::aZ 12 15 [(13,3),(14,2),(15,1)]::aZ 12 23 [(13,4),(16,2),(17,1)]::aZ 12 27 [(14,4),(16,3),(18,1)]::aZ 12 29 [(15,4),(17,3),(18,2),(19,0)]::aZ 12 51 [(16,5),(20,1)]::aZ 12 53 [(17,5),(20,2),(21,0)]::aZ 12 57 [(18,5),(20,3),(22,0)]::aZ 12 60 [(19,5),(21,3),(22,2)]::aZ 12 113 [(20,6),(23,0)]::aZ 12 116 [(21,6),(23,2)]::aZ 12 120 [(22,6),(23,3)]::aZ 12 31 [(24,4),(25,3),(26,2),(27,1)]::aZ 12 55 [(25,5),(28,2),(29,1)]::aZ 12 59 [(26,5),(28,3),(30,1)]::aZ 12 61 [(27,5),(29,3),(30,2),(31,0)]::aZ 12 115 [(28,6),(32,1)]::aZ 12 117 [(29,6),(32,2),(33,0)]::aZ 12 121 [(30,6),(32,3),(34,0)]::aZ 12 124 [(31,6),(33,3),(34,2)]::aZ 12 63 [(35,5),(36,3),(37,2),(38,1)]::aZ 12 119 [(36,6),(39,2),(40,1)]::aZ 12 123 [(37,6),(39,3),(41,1)]::aZ 12 125 [(38,6),(40,3),(41,2),(42,0)]::aZ 12 252 [(42,7)]::aZ 12 127 [(43,6),(44,3),(45,2),(46,1)]::aZ 12 253 [(46,7),(47,0)]::aZ 12 508 [(47,8)]::aZ 12 255 [(48,7),(49,1)]::aZ 12 509 [(49,8),(50,0)]::aZ 12 511 [(51,8),(52,1)]::aZ 12 1023 [(53,9)]::aZ 12 2047 [(54,10)]::aZ 12 4095 [(55,11)]::[]) (_::_::_::_::_::_::_::_::_::_::_::_::_::_::_::_::_::_::_::_::_::_::_::_::_::_::_::_::_::_::_::_::_::_::_::_::_::_::_::_::_::_::_::_::_::_::_::_::_::_::_::_::_::_::_::_::_::[]);kernel_rfl;(next=>refine Mb.mk rfl ?_;repeat (first|((with_reducible apply vq.cons);exact rfl)|(with_reducible exact vq.nil)|((with_reducible apply BP);focus (cbv;first|done|(refine aW [0] hY rfl rfl (bI ht s hs (by((try simp only[aa]at*);omega)) y3) (aH ?_);cbv;first|done|exact rfl)|exact rfl|(refine And.intro ?_ ?_;(next=>(simp only[ht,true_and];exact Fx (l:=k) (by((try simp only[aa]at*);omega))));exact rfl)))|(apply p8.cons;exact rfl)|exact p8.nil));(next=>exact rfl)));cbv;refine bA (_,_,_) (by simp only[ht,<-vaa];rfl) m ?_ ((dZ _ _ _ _).2 ?_)
  .omega
  simp only[ht,aa];exact⟨c+1,k++[⟨u1,u2,IntKind.i64.wrap u3⟩],kT (by((try simp only[aa]at*);omega)),by((try simp only[aa]at*);omega),by simp[cw.cells],by simp;((try simp only[aa]at*);omega),d3.2.2.1,d3.2.2.2,jy⟩
 simp[ht,aa]at h1;omega
def vO(s:az)(p:Int):Option (Jb×Int):=
 match aV s p with
 |⟨id,p1,true⟩=>match tZ s p1 with
  |some (x,p2)=>match aV s p2 with
   |⟨l,e,true⟩=>some (⟨id,x,decide (IntKind.i64.wrap l≠0),IntKind.i64.wrap l⟩,e)|_=>none
  |none=>none
 |_=>none
theorem DJ{s:az}{p e:Int}{j:Jb}(h:vO s p=some (j,e)):∃p1 p2 l,aV s p=⟨j.id,p1,true⟩/\tZ s p1=some (j.x,p2)/\aV s p2=⟨l,e,true⟩/\j.runs=decide (IntKind.i64.wrap l≠0)/\j.left=IntKind.i64.wrap l:=by
 unfold vO at h;split at h
 .rename_i id p1 e1;split at h
  .rename_i x p2 e2;split at h
   .rename_i l e3 e4;simp only[osI,vab]at h;obtain⟨rfl,rfl⟩:=h;exact⟨p1,p2,l,e1,e2,e4,rfl,rfl⟩
   cases h
  cases h
 cases h
theorem yV{s:az}{p e:Int}{j:Jb}(h:vO s p=some (j,e)):0<=e/\e<=s.length:=by
 obtain⟨_,_,_,_,_,g,_⟩:=DJ h;have:=bH g
 omega
theorem KL(ht:TT t)(s:az){p e:Int}(ji ja jb jc jd jn jp jt jf:Int)(jq:az)(jr:Bool){iv:List Term}{oE:List (List D)}(gS:oE=iv.map Term.cells)(hs:s.length<9223372036854775000)(hp:p<9223372036854775808)(iC:(⟨jq,⟨ja,jb,jc,jd⟩,jn,jp,jt,iv⟩:Ask).sm)(h:vO s p=some (⟨ji,⟨jq,⟨ja,jb,jc,jd⟩,jn,jp,jt,iv⟩,jr,jf⟩,e)):
 FC 71 [.ptr 0 0] [.var [ST s,bf p]] (.ret (.agg [aA ji,ST jq,aA ja,aA jb,aA jc,aA jd,bf jn,bf jp,bf jt,SL oE,BL jr,bf jf])) [.var [ST s,bf e]]:=by
 obtain⟨p1,p2,l3,g1,g2,g3,g4,g5⟩:=DJ h;simp only at g1 g2 g3 g4 g5;have b1:=bH g1
 have b2:=Hf hs g2;have b3:=bH g3
 obtain⟨lf,hlf⟩:∃z,z=IntKind.i64.wrap l3:=⟨_,rfl⟩;rw[<-hlf]at g4 g5;subst g5;refine kJ ht (aK:=[.var [ST s,bf p]]) Tryz.func71 rfl rfl (N:=38) rfl rfl (n:=1) rfl rfl ?_;cbv;have rO:oE.length=iv.length:=by rw[gS,lgM]
 (first|refine aW [0] hY rfl rfl (bI ht s hs (by((try simp only[aa]at*);omega)) g1) (aH ?_)|refine aW [0] hY rfl rfl (bI ht s hs (by((try simp only[aa]at*);omega)) g3) (aH ?_));cbv;refine mV [0,4] [0,4,9,10,11,12] [false,false,false,false,false,false,false,false,false,false,false,false,false,false,true,true,true] ?_;cbv;iterate 8 refine gI (by simp[ht,ah]) ?_
 refine .inl ?_;(refine og (λg9=>⟨by simp[ht],by simp[ht],M0 ht s hs (by((try simp only[aa]at*);omega)) gS iC g2⟩) rfl rfl rfl ?_);cbv;iterate 4 refine gI (by simp[ht,ah]) ?_
 (refine aW [0] hY rfl rfl (gC ht s _ _) (aH ?_));cbv;(apply yd [1] (.more 0 (.one 1 (.more 2 (.more 3 (.one 4 (.one 5 (.one 6 (.one 7 .done)))) (.one 4 (.more 3 (.one 5 (.one 6 (.one 7 .done))) (.one 5 (.one 3 (.one 6 (.one 7 .done))))))) (.one 4 (.one 2 (.more 3 (.one 5 (.one 6 (.one 7 .done))) (.one 5 (.one 3 (.one 6 (.one 7 .done))))))))) (.one 1 (.more 0 (.more 2 (.more 3 (.one 4 (.one 5 (.one 6 (.one 7 .done)))) (.one 4 (.more 3 (.one 5 (.one 6 (.one 7 .done))) (.one 5 (.one 3 (.one 6 (.one 7 .done))))))) (.one 4 (.one 2 (.more 3 (.one 5 (.one 6 (.one 7 .done))) (.one 5 (.one 3 (.one 6 (.one 7 .done)))))))) (.one 2 (.more 0 (.more 3 (.one 4 (.one 5 (.one 6 (.one 7 .done)))) (.one 4 (.more 3 (.one 5 (.one 6 (.one 7 .done))) (.one 5 (.one 3 (.one 6 (.one 7 .done))))))) (.one 3 (.one 0 (.one 4 (.one 5 (.one 6 (.one 7 .done)))))))))));kernel_rfl;kernel_rfl;kernel_rfl;kernel_rfl;(next=>cbv;repeat (first|(refine aW [0] hY rfl rfl (bI ht s hs (by((try simp only[aa]at*);omega)) g3) (aH ?_);cbv)|refine And.intro ?_ ?_|exact rfl|exact True.intro)));cbv;(exact ia hY (by simp[ht]) rfl rfl rfl (by simp only[ht,<-hlf,g4];simp))
def DK(s:az)(p:Int):Prop:=(aV s p).ok=false∨∃id p1,aV s p=⟨id,p1,true⟩/\(rP s p1=none∨∃x p2,tZ s p1=some (x,p2)/\x.sm/\(aV s p2).ok=false)
theorem TV(ht:TT t)(s:az){p:Int}(hs:s.length<9223372036854775000)(hp:p<9223372036854775808)(hA:DK s p):
 FC 71 [.ptr 0 0] [.var [ST s,bf p]] (.zh Qy) [.dead]:=by
 unfold DK at hA;refine X4 ht (aK:=[.var [ST s,bf p]]) Tryz.func71 rfl rfl (N:=38) rfl (n:=1) rfl rfl ?_;cbv;(rcases hA with g1|⟨id,p1,g1,hB⟩<;>first|(refine bU [0] hY rfl rfl (cz ht s hs (by((try simp only[aa]at*);omega)) g1) (bK ?_))|(have b1:=bH g1;refine aW [0] hY rfl rfl (bI ht s hs (by((try simp only[aa]at*);omega)) g1) (aH ?_)))
 .cbv;(exact oy [true,true,true,true,true] rfl rfl rfl rfl)
 cbv;refine mV [0,4] [0,4,9,10,11,12] [false,false,false,false,false,false,false,false,false,false,false,false,false,false,true,true,true] ?_;cbv;iterate 8 refine gI (by simp[ht,ah]) ?_
 refine .inl ?_;(rcases hB with g2|⟨⟨jq,⟨ja,jb,jc,jd⟩,jn,jp,jt,iv⟩,p2,g2,iC,g3⟩<;>first|(refine og (λg9=>⟨by simp[ht],by simp[ht],WU ht s hs (by((try simp only[aa]at*);omega)) g2⟩) rfl rfl rfl ?_)|(have b2:=Hf hs g2;obtain⟨oE,gS⟩:∃oE,oE=iv.map Term.cells:=⟨_,rfl⟩;refine og (λg9=>⟨by simp[ht],by simp[ht],M0 ht s hs (by((try simp only[aa]at*);omega)) gS iC g2⟩) rfl rfl rfl ?_))
 .cbv;iterate 4 refine gI (by simp[ht,ah]) ?_
  (first|(refine bU [0] hY rfl rfl (lX ht s _ _) (bK ?_))|(refine aW [0] hY rfl rfl (gC ht s _ _) (aH ?_)));cbv;(exact oy [true,true,true,true,true] rfl rfl rfl rfl)
 cbv;iterate 4 refine gI (by simp[ht,ah]) ?_
 (first|(refine bU [0] hY rfl rfl (lX ht s _ _) (bK ?_))|(refine aW [0] hY rfl rfl (gC ht s _ _) (aH ?_)));cbv;(apply Ok [1] (.more 0 (.one 1 (.more 2 (.more 3 (.one 4 (.one 5 (.one 6 (.one 7 .done)))) (.one 4 (.more 3 (.one 5 (.one 6 (.one 7 .done))) (.one 5 (.one 3 (.one 6 (.one 7 .done))))))) (.one 4 (.one 2 (.more 3 (.one 5 (.one 6 (.one 7 .done))) (.one 5 (.one 3 (.one 6 (.one 7 .done))))))))) (.one 1 (.more 0 (.more 2 (.more 3 (.one 4 (.one 5 (.one 6 (.one 7 .done)))) (.one 4 (.more 3 (.one 5 (.one 6 (.one 7 .done))) (.one 5 (.one 3 (.one 6 (.one 7 .done))))))) (.one 4 (.one 2 (.more 3 (.one 5 (.one 6 (.one 7 .done))) (.one 5 (.one 3 (.one 6 (.one 7 .done)))))))) (.one 2 (.more 0 (.more 3 (.one 4 (.one 5 (.one 6 (.one 7 .done)))) (.one 4 (.more 3 (.one 5 (.one 6 (.one 7 .done))) (.one 5 (.one 3 (.one 6 (.one 7 .done))))))) (.one 3 (.one 0 (.one 4 (.one 5 (.one 6 (.one 7 .done)))))))))));kernel_rfl;kernel_rfl;kernel_rfl;kernel_rfl;(next=>cbv;repeat (first|(refine bU [0] hY rfl rfl (cz ht s hs (by((try simp only[aa]at*);omega)) g3) (bK ?_);cbv;exact oy [true,true,true,true,true] rfl rfl rfl rfl)|refine And.intro ?_ ?_|exact rfl|exact True.intro)))
end Dem
end
