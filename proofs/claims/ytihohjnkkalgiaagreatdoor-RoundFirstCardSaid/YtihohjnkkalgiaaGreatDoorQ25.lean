/- Parts of a proof, joined. -/
import Derived.Test.YtihohjnkkalgiaaGreatDoorQ24
set_option linter.all false
set_option maxRecDepth 100000
set_option maxHeartbeats 4000000
section
open Go Dem Go.Proofs
namespace Dem
variable {t:Th}
theorem HQ (ht:TT t) {es:List (List D)} (aG:∀r∈es,r.length=1) (hs:es.length*8≤140737488355328) {m:Nat} (hm:m=es.length):
 FC 54 [SL es] [] (.ret (.ow 0 1 m)) [.row 1 es]:=by
 refine bP ht (aV:=[]) Tryz.func54 rfl rfl (N:=8) rfl rfl (n:=0) rfl rfl ?_
 cbv
 refine ⟨fun b hb=>?_⟩
 simp only [ht] at hb
 cbv
 refine ap (fun h=>?_) (fun h=>?_)
 ·have he:=hb h
  subst he
  cbv
  exact Gr trv rfl rfl (by rw [hm];rfl) rfl
 clear hb h
 cbv
 refine ⟨?_,?_⟩
 ·simp only [ht];simp;exact ⟨hs,aG⟩
 refine BO trv rfl rfl rfl rfl ?_ ?_
 ·simp only [ht];rw [hm];simp
 simp only [ht];rfl
theorem Dg (ht:TT t) {es:List (List D)} (aG:∀r∈es,r.length=1) (hs:es.length*8≤140737488355328):
 FC 54 [SL es] [] (.ret (SL es)) []:=by
 refine bP ht (aV:=[]) Tryz.func54 rfl rfl (N:=8) rfl rfl (n:=0) rfl rfl ?_
 cbv
 refine ⟨fun b hb=>?_⟩
 simp only [ht] at hb
 cbv
 refine ap (fun h=>?_) (fun h=>?_)
 ·have he:=hb h
  subst he
  cbv
  exact aA trv trv rfl rfl rfl rfl
 clear hb h
 cbv
 refine ⟨?_,?_⟩
 ·simp only [ht];simp;exact ⟨hs,aG⟩
 refine aA trv ?_ rfl rfl rfl ?_
 ·simp only [ht];simp
 simp only [ht];rfl
theorem Ko (ht:TT t) {es:List (List D)} {i m c:Nat} (hm:m=es.length) (hi:i<m) (hc:m≤c) (aG:∀r∈es,r.length=1) (hs:m<1000000) {r:List (List D)} (hr:r=es.take i++es.drop (i+1)):
 FC 55 [.vw 0 1 0 m c true,bJ (i:Int),bJ ((i+1:Nat):Int)] [.row 1 es] (.ret (SL r)) [.dead]:=by
 obtain ⟨i1,hi1⟩:∃i1,i1=i+1:=⟨_,rfl⟩
 rw [←hi1] at hr ⊢
 refine bP ht (aV:=[.row 1 es]) Tryz.func55 rfl rfl (N:=33) rfl rfl (n:=1) rfl rfl ?_
 cbv
 obtain ⟨mi,xA⟩:∃n,n=m-i:=⟨_,rfl⟩
 obtain ⟨S0,Vq⟩:∃n,n=m-i1:=⟨_,rfl⟩
 obtain ⟨wo,Ju⟩:∃n,n=c-i1:=⟨_,rfl⟩
 refine bN (.vw 0 1 i 1 mi true) [.row 1 es] ?_ ?_ rfl ?_
 ·simp [ht,ah,bR];omega
 ·simp [ht,ah,be,xA,hi1]
 cbv
 refine nJ (by simp [ht,hi1];omega) ?_
 cbv
 refine dK [false,false,false,false,false,false,true,true] (by kernel_rfl) (by kernel_rfl) ?_
 cbv
 refine gI (by simp [ht]) (gI (by simp [ht]) ?_)
 refine iq (.vw 0 1 0 i c true) (fun _=>⟨?_,?_⟩) ?_
 ·simp [ht,ah,dN,bR];omega
 ·simp [ht,ah,be,aY]
 cbv
 refine gI (by simp [ht]) (gI (by simp [ht]) ?_)
 refine iq (.vw 0 1 i1 S0 wo true) (fun _=>⟨?_,?_⟩) ?_
 ·simp [ht,ah,dN,bR];omega
 ·simp [ht,ah,be,aY,Vq,Ju]
 cbv
 obtain ⟨m1,Yu⟩:∃n,n=m-1:=⟨_,rfl⟩
 obtain ⟨ZS,Vr⟩:∃n,n=c-m1:=⟨_,rfl⟩
 obtain ⟨R1,Qq⟩:∃R,R=wrote es i (es.drop i1):=⟨_,rfl⟩
 have tk:(es.drop i1).take S0=es.drop i1:=List.take_of_length_le (by rw [List.length_drop];omega)
 have dl:(es.drop i1).length=S0:=by rw [List.length_drop];omega
 have wB:R1.length=m:=by rw [Qq];simp [wrote];omega
 have Vs:R1.take m1=r:=by
  rw [Qq,hr]
  unfold wrote
  rw [List.take_append_of_le_length (by simp;omega),List.take_of_length_le (by simp;omega)]
 refine bN (.vw 0 1 0 m1 c true) [.row 1 R1,.bC] ?_ ?_ ?_ ?_
 ·simp only [ht,tk,dl,eL,Nat.zero_add]
  exact ⟨by omega,⟨by omega,fun h=>by rw [h] at hm;simp at hm;omega⟩,by omega,fun r h=>aG r (List.mem_of_mem_drop h)⟩
 ·simp only [ht,tk,dl];rw [show i+S0=m1 by omega]
 ·simp only [ht,tk,Nat.zero_add,Qq]
 cbv
 refine bN (.vw 0 1 m1 1 ZS true) [.row 1 R1,.bC] ?_ ?_ rfl ?_
 ·simp [ht,ah,dN,bR];omega
 ·simp [ht,ah,be,aY,Vr];omega
 cbv
 obtain ⟨R2,Qr⟩:∃R,R=wrote R1 m1 (List.replicate 1 [D.int IntKind.u64 0]):=⟨_,rfl⟩
 have XN:R2.length=m:=by rw [Qr];simp [wrote,wB];omega
 have Vt:R2.take m1=r:=by
  rw [←Vs,Qr]
  unfold wrote
  rw [List.append_assoc,List.take_append_of_le_length (by simp [wB];omega),List.take_take,Nat.min_self]
 refine bN (.dX []) [.row 1 R2,.bC] ?_ rfl ?_ ?_
 ·simp only [ht,eL];exact ⟨by omega,fun h=>by rw [h] at wB;simp at wB;omega⟩
 ·simp only [ht,Qr]
 cbv
 refine yx [true] trv ?_ rfl rfl rfl ?_
 ·simp only [ht];omega
 simp only [ht,List.drop_zero,Vt]
def Q0 (t:Th) (r:List Int×List aQ×Bool):AV:=.dX [SL (t _ fun _=>r.1.map Int.cells),SL (t _ fun _=>r.2.1.map bE),BL r.2.2]
theorem n6 {l:List Int} {es:List (List D)} (h:es=l.map Int.cells):∀r∈es,r.length=1:=by rw [h];intro r hr;obtain ⟨y,_,rfl⟩:=List.mem_map.1 hr;rfl
theorem Kq (ht:TT t) {l:List Int} {es:List (List D)} (aG:es=l.map Int.cells) {i m:Nat} (hm:m=l.length) {z z1:Int} (hz:z=i) (hz1:z1=(i:Int)+1) (hi:i<l.length) (hs:l.length<1000000) {r:List (List D)} (hr:r=(l.eraseIdx i).map Int.cells):
 FC 55 [.ow 0 1 m,bJ z,bJ z1] [.row 1 es] (.ret (SL r)) [.dead]:=by
 have e1:z1=((i+1:Nat):Int):=by omega
 have hel:es.length=l.length:=by rw [aG,lgM]
 subst hz
 rw [e1]
 refine dU (fun c hc hc0=>Ko ht (es:=es) (i:=i) (by omega) (by omega) hc (n6 aG) (by omega) ?_)
 rw [hr,aG,List.eraseIdx_eq_take_drop_succ,List.map_append,List.map_take,List.map_drop]
theorem mz (l:List Int) (k:Nat):iD (l.map Int.cells) none (some (k:Int))=(l.take k).map Int.cells:=by rw [List.map_take];rfl
theorem Kr (ht:TT t) (rd nx ef af:Int) {nl:List Node} {pl:List Place} {tl:List bw} {jl:List Jb} {ql:List cj} {el al:List dW} {ns ps ts js qs es bU:List (List D)} (fc:ns=nl.map Node.cells) (hps:ps=pl.map Place.cells) (hts:ts=tl.map bw.cells) (eN:js=jl.map Jb.cells) (eD:qs=ql.map cj.cells) (aG:es=el.map dW.cells) (has:bU=al.map dW.cells) (id:Int) (HR:FC 18 [.agg [aD rd,aD nx,SL ns,SL ps,SL ts,SL js,SL qs,aD ef,SL es,aD af,SL bU],aD id] [] (.ret (EJ t (t _ fun _=>cq ⟨rd,nx,⟨nl,pl⟩,tl,jl,ql,⟨ef,el⟩,⟨af,al⟩⟩ id))) []) (hal:(cq ⟨rd,nx,⟨nl,pl⟩,tl,jl,ql,⟨ef,el⟩,⟨af,al⟩⟩ id).length<1000) (hg:∀l,(aI ⟨rd,nx,⟨nl,pl⟩,tl,jl,ql,⟨ef,el⟩,⟨af,al⟩⟩ l).sm):
 FC 19 [.agg [aD rd,aD nx,SL ns,SL ps,SL ts,SL js,SL qs,aD ef,SL es,aD af,SL bU],aD id] [] (.ret (Q0 t (t _ fun _=>aC ⟨rd,nx,⟨nl,pl⟩,tl,jl,ql,⟨ef,el⟩,⟨af,al⟩⟩ id))) []:=by
 obtain ⟨A,hA⟩:∃A,A=cq ⟨rd,nx,⟨nl,pl⟩,tl,jl,ql,⟨ef,el⟩,⟨af,al⟩⟩ id:=⟨_,rfl⟩
 obtain ⟨R,hR⟩:∃R,R=aC ⟨rd,nx,⟨nl,pl⟩,tl,jl,ql,⟨ef,el⟩,⟨af,al⟩⟩ id:=⟨_,rfl⟩
 obtain ⟨F,hF⟩:∃F,F=kR ⟨rd,nx,⟨nl,pl⟩,tl,jl,ql,⟨ef,el⟩,⟨af,al⟩⟩ id A (A.length+1) 0:=⟨_,rfl⟩
 have hRF:(F=none→R=([],[],false))∧∀l nodes,F=some (l,nodes)→R=((gm ⟨rd,nx,⟨nl,pl⟩,tl,jl,ql,⟨ef,el⟩,⟨af,al⟩⟩ id (l.length+1) 0 l nodes).1,(gm ⟨rd,nx,⟨nl,pl⟩,tl,jl,ql,⟨ef,el⟩,⟨af,al⟩⟩ id (l.length+1) 0 l nodes).2,true):=by
  have e:R=qH ⟨rd,nx,⟨nl,pl⟩,tl,jl,ql,⟨ef,el⟩,⟨af,al⟩⟩ id A:=by rw [hR,hA];rfl
  unfold qH at e
  rw [←hF] at e
  exact ⟨fun h=>by rw [h] at e;exact e,fun l nodes h=>by rw [h] at e;exact e⟩
 rw [←hA] at HR hal
 rw [←hR]
 have hT:∀(u:List Int) (us:List (List D)),us=u.map Int.cells→u.length<1000000→FC 52 [SL us,.ptr 0 0,.ptr 1 0] [.var [aD rd,aD nx,SL ns,SL ps,SL ts,SL js,SL qs,aD ef,SL es,aD af,SL bU],.var [aD id]] (.ret (yB t (t _ fun _=>fW ⟨rd,nx,⟨nl,pl⟩,tl,jl,ql,⟨ef,el⟩,⟨af,al⟩⟩ id u))) [.var [aD rd,aD nx,SL ns,SL ps,SL ts,SL js,SL qs,aD ef,SL es,aD af,SL bU],.var [aD id]]:=
  fun u us h1 h2=>VL ht rd nx ef af fc hps hts eN eD aG has id h1 h2 (fun k=>hg _)
 obtain ⟨T,YH⟩:∃T:List Int→List aQ×Bool,T=fW ⟨rd,nx,⟨nl,pl⟩,tl,jl,ql,⟨ef,el⟩,⟨af,al⟩⟩ id:=⟨_,rfl⟩
 obtain ⟨G,hG⟩:∃G:Nat→Nat→Option (List Int×List aQ),G=kR ⟨rd,nx,⟨nl,pl⟩,tl,jl,ql,⟨ef,el⟩,⟨af,al⟩⟩ id A:=⟨_,rfl⟩
 obtain ⟨H,hH⟩:∃H:Nat→Nat→List Int→List aQ→List Int×List aQ,H=gm ⟨rd,nx,⟨nl,pl⟩,tl,jl,ql,⟨ef,el⟩,⟨af,al⟩⟩ id:=⟨_,rfl⟩
 have hGs:∀n k,G (n+1) k=if (T (A.take k)).2 then some (A.take k,(T (A.take k)).1) else G n (k+1):=by intro n k;rw [hG,YH];rfl
 have hG0:∀k,G 0 k=none:=by intro k;rw [hG];rfl
 have Yb:∀n k l nodes,H (n+1) k l nodes=if k<l.length then (if (T (l.eraseIdx k)).2 then H n k (l.eraseIdx k) (T (l.eraseIdx k)).1 else H n (k+1) l nodes) else (l,nodes):=by intro n k l nodes;rw [hH,YH];rfl
 rw [←hG] at hF
 rw [←hH] at hRF
 rw [←YH] at hT
 clear hG hH YH hR hA
 refine bP ht (aV:=[]) Tryz.func19 rfl rfl (N:=62) rfl rfl (n:=0) rfl rfl ?_
 cbv
 have hw:IntKind.i64.wrap ((A.length:Int)+1)=(A.length:Int)+1:=wrap64 (by omega) (by omega)
 have aL:ns.length=nl.length:=by rw [fc,lgM]
 have aR:ps.length=pl.length:=by rw [hps,lgM]
 have aM:ts.length=tl.length:=by rw [hts,lgM]
 have aT:js.length=jl.length:=by rw [eN,lgM]
 have aF:qs.length=ql.length:=by rw [eD,lgM]
 have az:es.length=el.length:=by rw [aG,lgM]
 have aE:bU.length=al.length:=by rw [has,lgM]
 (refine aK trv HR (by simp [ht]) rfl rfl rfl (fun r1 cP=>?_);simp only [ht] at cP;subst r1)
 cbv
 obtain ⟨J0,fH⟩:∃J0:Nat→List (List D)×List (List D)×Bool×Int→Prop,∀m ls nd ok i,J0 m (ls,nd,ok,i)↔(∃k:Nat,i=k∧k+m=A.length+1∧ok=false∧F=G m k):=⟨fun m v=>match v with|(ls,nd,ok,i)=>(∃k:Nat,i=k∧k+m=A.length+1∧ok=false∧F=G m k),fun _ _ _ _ _=>Iff.rfl⟩
 refine bM ⟨[4,5,6,7,8,20,21],[(4,0),(5,0)],[]⟩ (σ:=List (List D)×List (List D)×Bool×Int) (fun v=>[(4,.d (.sl (t _ fun _=>v.1))),(5,.d (.sl (t _ fun _=>v.2.1))),(6,.d (.bool (t _ fun _=>v.2.2.1))),(21,.d (.int .i64 (t _ fun _=>v.2.2.2)))]) (fun v=>[]) J0 ?_
 cbv
 refine aJ ⟨A.length+1,(_,_,_,_),(fH _ _ _ _ _).2 ?_,by simp only [ht];rfl,?_⟩
 ·exact ⟨0,rfl,by simp,rfl,hF⟩
 rintro m ⟨ls,nd,ok,i⟩ hj
 replace hj:=(fH _ _ _ _ _).1 hj
 obtain ⟨k,rfl,j1,rfl,j4⟩:=hj
 cbv
 refine ap (fun h1=>?_) (fun h1=>?_)
 ·simp [ht,ah,aL,aR,aM,aT,aF,az,aE,hw] at h1
  cbv
  refine ⟨?_,?_⟩
  ·(simp only [ht,bR,lgM];refine ⟨by ((try simp only [ah] at*);omega),?_⟩;exact n6 rfl)
  cbv
  (first|(refine Gn trv (Dg ht (by simp only [ht,mz];exact n6 rfl) (by simp only [ht,mz];simp;((try simp only [ah] at*);omega))) (by simp [ht]) rfl rfl rfl ?_)|(obtain ⟨n1,BD⟩:∃n1,n1=L.length:=⟨_,rfl⟩;refine jB trv (HQ ht (m:=n1) (by simp only [ht];exact n6 i4) (by simp only [ht];rw [i4];simp;((try simp only [ah] at*);omega)) (by simp only [ht];rw [i4];simp [BD])) (by simp [ht]) rfl (.inr rfl) ?_))
  cbv
  (first|(obtain ⟨r,hr⟩:∃r,r=T (A.take k):=⟨_,rfl⟩;have hTk:=hT (A.take k) _ rfl (by simp;((try simp only [ah] at*);omega));rw [←hr] at hTk;rw [show m=(m-1)+1 by ((try simp only [ah] at*);omega),hGs,←hr] at j4;refine dz [0,1] trv rfl rfl (hT (A.take k) _ (by simp only [ht,mz]) (by simp;((try simp only [ah] at*);omega))) (cz ?_);rw [←hr])|(obtain ⟨r,hr⟩:∃r,r=T (L.eraseIdx k2):=⟨_,rfl⟩;refine dz [0,1] trv rfl rfl (hT (L.eraseIdx k2) _ Q2 (by rw [List.length_eraseIdx];split<;>((try simp only [ah] at*);omega))) (cz ?_);rw [←hr]))
  cbv
  refine ap (fun h2=>?_) (fun h2=>?_)
  ·simp [ht,ah,aL,aR,aM,aT,aF,az,aE,hw] at h2
   cbv
   refine ap (fun h3=>?_) (fun h3=>?_)
   ·simp [ht,ah,aL,aR,aM,aT,aF,az,aE,hw] at h3
    cbv
    refine aA trv trv rfl rfl rfl ?_
    (simp only [ht,ah,Q0,EJ,yB];grind)
   simp [ht,ah,aL,aR,aM,aT,aF,az,aE,hw] at h3
   cbv
   obtain ⟨J4,NS⟩:∃J4:Nat→List (List D)×List (List D)×Int→Prop,∀m ls nd i,J4 m (ls,nd,i)↔(∃(k2:Nat) (L:List Int) (N:List aQ),i=k2∧L.length=k2+m∧ls=L.map Int.cells∧nd=N.map bE∧L.length≤1000∧R=((H (m+1) k2 L N).1,(H (m+1) k2 L N).2,true)):=⟨fun m v=>match v with|(ls,nd,i)=>(∃(k2:Nat) (L:List Int) (N:List aQ),i=k2∧L.length=k2+m∧ls=L.map Int.cells∧nd=N.map bE∧L.length≤1000∧R=((H (m+1) k2 L N).1,(H (m+1) k2 L N).2,true)),fun _ _ _ _=>Iff.rfl⟩
   refine bM ⟨[4,5,7,10],[],[]⟩ (σ:=List (List D)×List (List D)×Int) (fun v=>[(4,.d (.sl (t _ fun _=>v.1))),(5,.d (.sl (t _ fun _=>v.2.1))),(10,.d (.int .i64 (t _ fun _=>v.2.2)))]) (fun v=>[]) J4 ?_
   cbv
   refine aJ ⟨(A.take k).length,(_,_,_),(NS _ _ _ _).2 ?_,by simp only [ht];rfl,?_⟩
   ·exact ⟨0,A.take k,r.1,rfl,by simp,by simp only [ht,mz],rfl,by simp;((try simp only [ah] at*);omega),hRF.2 _ _ (by rw [j4,if_pos (by simp_all)])⟩
   rintro m ⟨ls,nd,i⟩ hj
   replace hj:=(NS _ _ _ _).1 hj
   obtain ⟨k2,L,N,rfl,i1,i4,i5,i6,i7⟩:=hj
   have qA:ls.length=L.length:=by rw [i4,lgM]
   have EL:nd.length=N.length:=by rw [i5,lgM]
   cbv
   refine ap (fun h5=>?_) (fun h5=>?_)
   ·simp [ht,ah,aL,aR,aM,aT,aF,az,aE,qA,EL,hw] at h5
    cbv
    (first|(refine Gn trv (Dg ht (by simp only [ht,mz];exact n6 rfl) (by simp only [ht,mz];simp;((try simp only [ah] at*);omega))) (by simp [ht]) rfl rfl rfl ?_)|(obtain ⟨n1,BD⟩:∃n1,n1=L.length:=⟨_,rfl⟩;refine jB trv (HQ ht (m:=n1) (by simp only [ht];exact n6 i4) (by simp only [ht];rw [i4];simp;((try simp only [ah] at*);omega)) (by simp only [ht];rw [i4];simp [BD])) (by simp [ht]) rfl (.inr rfl) ?_))
    cbv
    (obtain ⟨rd2,Q2⟩:∃r,r=(L.eraseIdx k2).map Int.cells:=⟨_,rfl⟩;refine dz [2] trv rfl rfl (Kq ht (l:=L) (i:=k2) (by simp only [ht];exact i4) BD (by simp only [ht]) (by simp only [ht];exact aH (by ((try simp only [ah] at*);omega))) (by ((try simp only [ah] at*);omega)) (by ((try simp only [ah] at*);omega)) Q2) (cz ?_))
    cbv
    (first|(obtain ⟨r,hr⟩:∃r,r=T (A.take k):=⟨_,rfl⟩;have hTk:=hT (A.take k) _ rfl (by simp;((try simp only [ah] at*);omega));rw [←hr] at hTk;rw [show m=(m-1)+1 by ((try simp only [ah] at*);omega),hGs,←hr] at j4;refine dz [0,1] trv rfl rfl (hT (A.take k) _ (by simp only [ht,mz]) (by simp;((try simp only [ah] at*);omega))) (cz ?_);rw [←hr])|(obtain ⟨r,hr⟩:∃r,r=T (L.eraseIdx k2):=⟨_,rfl⟩;refine dz [0,1] trv rfl rfl (hT (L.eraseIdx k2) _ Q2 (by rw [List.length_eraseIdx];split<;>((try simp only [ah] at*);omega))) (cz ?_);rw [←hr]))
    cbv
    refine ap (fun h6=>?_) (fun h6=>?_)
    ·simp [ht,ah,aL,aR,aM,aT,aF,az,aE,qA,EL,hw] at h6
     cbv
     refine cD (_,_,_) (by simp only [ht];rfl) (m-1) ?_ ((NS _ _ _ _).2 ?_)
     ·omega
     simp only [ht,ah]
     first|exact ⟨k2+1,L,N,aH (by ((try simp only [ah] at*);omega)),by ((try simp only [ah] at*);omega),i4,i5,i6,(by have e:m-1+1=m:=(by ((try simp only [ah] at*);omega));rw [e,i7,Yb,if_pos (by ((try simp only [ah] at*);omega)),←hr,if_neg (by simp_all)])⟩|exact ⟨k2,L.eraseIdx k2,r.1,rfl,by rw [List.length_eraseIdx];split<;>((try simp only [ah] at*);omega),Q2,rfl,by rw [List.length_eraseIdx];split<;>((try simp only [ah] at*);omega),(by have e:m-1+1=m:=(by ((try simp only [ah] at*);omega));rw [e,i7,Yb,if_pos (by ((try simp only [ah] at*);omega)),←hr,if_pos (by simp_all)])⟩
    simp [ht,ah,aL,aR,aM,aT,aF,az,aE,qA,EL,hw] at h6
    cbv
    refine cD (_,_,_) (by simp only [ht];rfl) (m-1) ?_ ((NS _ _ _ _).2 ?_)
    ·omega
    simp only [ht,ah]
    first|exact ⟨k2+1,L,N,aH (by ((try simp only [ah] at*);omega)),by ((try simp only [ah] at*);omega),i4,i5,i6,(by have e:m-1+1=m:=(by ((try simp only [ah] at*);omega));rw [e,i7,Yb,if_pos (by ((try simp only [ah] at*);omega)),←hr,if_neg (by simp_all)])⟩|exact ⟨k2,L.eraseIdx k2,r.1,rfl,by rw [List.length_eraseIdx];split<;>((try simp only [ah] at*);omega),Q2,rfl,by rw [List.length_eraseIdx];split<;>((try simp only [ah] at*);omega),(by have e:m-1+1=m:=(by ((try simp only [ah] at*);omega));rw [e,i7,Yb,if_pos (by ((try simp only [ah] at*);omega)),←hr,if_pos (by simp_all)])⟩
   simp [ht,ah,aL,aR,aM,aT,aF,az,aE,qA,EL,hw] at h5
   cbv
   refine aA trv trv rfl rfl rfl ?_
   (have e:R=(L,N,true):=(by rw [i7,show m=0 by ((try simp only [ah] at*);omega),Yb,if_neg (by ((try simp only [ah] at*);omega))]);simp [ht,e,i4,i5];done)
  cbv
  refine cD (_,_,_,_) (by simp only [ht];rfl) (m-1) ?_ ((fH _ _ _ _ _).2 ?_)
  ·((try simp only [ah] at*);omega)
  simp only [ht,ah]
  exact ⟨k+1,aH (by ((try simp only [ah] at*);omega)),by ((try simp only [ah] at*);omega),by simp_all,by rw [j4,if_neg (by simp_all)]⟩
 cbv
 refine ap (fun h7=>?_) (fun h7=>?_)
 ·cbv
  refine aA trv trv rfl rfl rfl ?_
  (have hm0:m=0:=(by first|((try simp only [ah] at*);omega)|(simp [ht,ah,hw] at h1;((try simp only [ah] at*);omega)));subst hm0;have e:=hRF.1 (j4.trans (hG0 _));simp [ht,e];done)
 (exact absurd h7 (by simp [ht]))
theorem Dh {s:bg} (id:Int):(gi s id).1.length<1000000:=by
 unfold gi ic
 split
 ·simp
 split
 ·simp
 exact wC _ _ _ _
theorem tG {s:bg} {id:Int}:∀(n k:Nat) (l:List Int) (nodes:List aQ),nodes.length<1000000→(gm s id n k l nodes).1.length≤l.length∧(gm s id n k l nodes).2.length<1000000
 |0,_,_,_,h=>⟨Nat.le_refl _,h⟩
 |n+1,k,l,nodes,h=>by
  rw [gm]
  split
  ·split
   ·have:=tG (s:=s) (id:=id) n k (l.eraseIdx k) (fW s id (l.eraseIdx k)).1 (Dh id)
    have h2:(l.eraseIdx k).length≤l.length:=by rw [List.length_eraseIdx];split<;>omega
    exact ⟨by omega,this.2⟩
   exact tG n (k+1) l nodes h
  exact ⟨Nat.le_refl _,h⟩
theorem Bl {s:bg} {id:Int} {all:List Int}:∀(n k:Nat) (l:List Int) (nodes:List aQ),kR s id all n k=some (l,nodes)→l.length≤all.length∧nodes.length<1000000
 |0,_,_,_,h=>by cases h
 |n+1,k,l,nodes,h=>by
  rw [kR] at h
  split at h
  ·cases h;exact ⟨by simp;omega,Dh id⟩
  exact Bl n (k+1) l nodes h
end Dem
end
section
open Go
namespace Dem
def cO (s:bg):List Int:=(s.av.filter (·.runs)).map (·.id)
def yh (s:bg) (k:Nat):bg:={s with av:=s.av.set k {s.av.getD k Jb.zero with left:=(s.av.getD k Jb.zero).left-1}}
def cN (s:bg) (id:Int):bg:=match s.av.findIdx? (fun j=>decide (j.id=id)) with
 |none=>s
 |some k=>if (s.av.getD k Jb.zero).left-1≤0 then (send (yh s k) id 3).1 else yh s k
def eF (s:bg):bg:=(cO s).foldl cN {s with round:=u64 (s.round+1)}
def mA (s:bg):List cj→Nat→Int×Nat×Bool
 |[],_=>(0,0,false)
 |q::r,k=>if de s q.id then (q.id,k,true) else mA s r (k+1)
def aW (s:bg) (behind:Nat):Int×Nat×Bool:=mA s (s.queue.drop behind) behind
def bL (s:bg) (at_:Nat):bg×Nat×Bool:=
 if !(aW s at_).2.2 then (s,at_,false) else
 if !(aC s (aW s at_).1).2.2 then (s,at_,false) else
 if (bZ (aI s (aC s (aW s at_).1).1) (aW s at_).1 (aC s (aW s at_).1).2.1).2≠0 then (aI s (aC s (aW s at_).1).1,at_,false) else
 ((bZ (aI s (aC s (aW s at_).1).1) (aW s at_).1 (aC s (aW s at_).1).2.1).1,(aW s at_).2.1,true)
def dB:Nat→bg→Nat→bg
 |0,s,_=>s
 |n+1,s,a=>if (bL s a).2.2 then dB n (bL s a).1 (bL s a).2.1 else (bL s a).1
def Bn (s:bg):bg:=dB 128 s 0
def kW (s:bg):bg:=Bn (eF s)
abbrev Jb.to (j:Jb) (z:Int):Jb:={j with left:=z}
theorem To (k:Nat) (p:aQ) (j:Jb) (z:Int):fO k p (j.to z)=fO k p j:=rfl
theorem Tp {s:bg} (h:s.ok) {i:Nat} {j:Jb} (hj:s.av[i]?=some j) (hr:j.runs=true) {z:Int} (hz:1≤z∧z≤j.x.fG):bg.ok {s with av:=s.av.set i (j.to z)}:=by
 have hm:=List.mem_of_getElem? hj
 have hmem:∀{y:Jb},y∈s.av.set i (j.to z)↔y=j.to z∨(y∈s.av∧y.id≠j.id):=AG h.ids hj
 have uo:∀y∈s.av.set i (j.to z),∃o∈s.av,o.id=y.id∧o.x=y.x∧o.runs=y.runs:=by
  intro y hy
  rcases hmem.1 hy with rfl|⟨g,_⟩
  ·exact ⟨j,hm,rfl,rfl,rfl⟩
  exact ⟨y,g,rfl,rfl,rfl⟩
 have Yc:∀o∈s.av,∃y∈s.av.set i (j.to z),y.id=o.id∧y.x=o.x∧y.runs=o.runs:=by
  intro o ho
  by_cases e:o.id=j.id
  ·have:=c6 h.ids ho hm e;subst this
   exact ⟨o.to z,hmem.2 (.inl rfl),rfl,rfl,rfl⟩
  exact ⟨o,hmem.2 (.inr ⟨ho,e⟩),rfl,rfl,rfl⟩
 refine {bf:=h.bf,gR:=h.gR,tree:=h.tree,used:=?_,most:=by simpa using h.most,next:=h.next,ids:=uZ h.ids hj rfl,u9:=?_,pe:=?_,left:=?_,iJ:=h.iJ,kK:=h.kK,gy:=?_,places:=?_,count:=?_,notes:=h.notes}
 ·intro e he k hk
  have:=u7 k e.path (j.to z) hj
  have e2:=To k e.path j z
  rw [h.used e he k hk]
  show _=gQ k e.path (s.av.set i (j.to z))
  omega
 ·intro y hy
  obtain ⟨o,ho,e1,_⟩:=uo y hy
  rw [←e1];exact h.u9 o ho
 ·intro y hy
  obtain ⟨o,ho,_,e2,_⟩:=uo y hy
  rw [←e2];exact h.pe o ho
 ·intro y hy
  rcases hmem.1 hy with rfl|⟨g,_⟩
  ·exact ⟨fun _=>hz,fun c=>by rw [show (j.to z).runs=j.runs from rfl,hr] at c;cases c⟩
  exact h.left y g
 ·intro q
  rw [h.gy q]
  constructor
  ·rintro ⟨o,ho,c,rfl⟩
   obtain ⟨y,hy,e1,e2,e3⟩:=Yc o ho
   exact ⟨y,hy,by rw [e3,c],by rw [e1,e2]⟩
  rintro ⟨y,hy,c,rfl⟩
  obtain ⟨o,ho,e1,e2,e3⟩:=uo y hy
  exact ⟨o,ho,by rw [e3,c],by rw [e1,e2]⟩
 ·intro x hx
  obtain ⟨o,ho,c1,c2,c3⟩:=h.places x hx
  obtain ⟨y,hy,e1,e2,e3⟩:=Yc o ho
  exact ⟨y,hy,by rw [e3,c1],by rw [e1,c2],by rw [e2];exact c3⟩
 intro y hy c
 obtain ⟨o,ho,e1,e2,e3⟩:=uo y hy
 have:=h.count o ho (by rw [e3,c])
 rw [←e1,←e2];exact this
theorem LU {s:bg} (h:s.ok) {i:Nat} {j:Jb} (hj:s.av[i]?=some j) (z kind:Int):send {s with av:=s.av.set i (j.to z)} j.id kind=send s j.id kind:=by
 obtain ⟨h1,h2,_⟩:=fq h.ids hj
 have hi:=(List.getElem?_eq_some_iff.1 hj).1
 have e1:(s.av.set i (j.to z)).findIdx? (fun x=>decide (x.id=j.id))=some i:=by
  have:=(fq (uZ h.ids hj (x:=j.to z) rfl) (i:=i) (j:=j.to z) (by rw [List.getElem?_set,if_pos rfl,if_pos hi])).1
  exact this
 have e2:(s.av.set i (j.to z)).getD i Jb.zero=j.to z:=by rw [List.getD_eq_getElem?_getD,List.getElem?_set,if_pos rfl,if_pos hi];rfl
 have e3:(s.av.set i (j.to z)).eraseIdx i=s.av.eraseIdx i:=by
  refine List.ext_getElem? fun k=>?_
  rw [List.getElem?_eraseIdx,List.getElem?_eraseIdx]
  split
  ·rw [List.getElem?_set,if_neg (by omega)]
  rw [List.getElem?_set,if_neg (by omega)]
 unfold send
 simp only
 rw [e1,h1]
 simp only
 rw [e2,h2,e3]
 cases hr:j.runs<;>rfl
theorem qL {s:bg} (h:s.ok) {i:Nat} {j:Jb} (hj:s.av[i]?=some j) (hr:j.runs=true):
 (cN s j.id).ok∧(cN s j.id).queue=s.queue∧(cN s j.id).round=s.round∧
  (cN s j.id).av=if j.left=1 then s.av.eraseIdx i else s.av.set i (j.to (j.left-1)):=by
 obtain ⟨h1,h2,_⟩:=fq h.ids hj
 have hl:=(h.left j (List.mem_of_getElem? hj)).1 hr
 have e:yh s i={s with av:=s.av.set i (j.to (j.left-1))}:=by unfold yh;rw [h2]
 unfold cN
 rw [h1]
 simp only
 rw [h2,e]
 by_cases c:j.left=1
 ·rw [if_pos (by omega),if_pos c,LU h hj]
  obtain ⟨_,_,g⟩:=yU h hj 3
  obtain ⟨T,_,g2⟩:=g hr
  refine ⟨h.end_ _ _,?_⟩
  rw [g2]
  exact ⟨rfl,rfl,rfl⟩
 rw [if_neg (by omega),if_neg c]
 exact ⟨Tp h hj hr (by omega),rfl,rfl,rfl⟩
def cnt (L:List Int) (j:Jb):Option Jb:=if j.runs=true∧j.id∈L then (if j.left=1 then none else some (j.to (j.left-1))) else some j
theorem Di {p:Jb→Bool} {f:Jb→Option Jb}:∀l:List Jb,(∀y∈l,f y=if p y=true then some y else none)→l.filterMap f=l.filter p
 |[],_=>rfl
 |x::r,h=>by
  have h1:=h x (by simp)
  have h2:=Di r fun y hy=>h y (by simp [hy])
  rw [List.filterMap_cons,List.filter_cons,h1,h2]
  cases p x<;>rfl
theorem Q3 {g:Jb→Jb} {f:Jb→Option Jb}:∀l:List Jb,(∀y∈l,f y=some (g y))→l.filterMap f=l.map g
 |[],_=>rfl
 |x::r,h=>by
  rw [List.filterMap_cons,h x (by simp),Q3 r fun y hy=>h y (by simp [hy])];rfl
theorem Tq {l:List Jb} (ha:rT l) {i:Nat} {j:Jb} (hj:l[i]?=some j) (x:Jb):l.set i x=l.map fun y=>if y.id=j.id then x else y:=by
 refine List.ext_getElem? fun k=>?_
 rw [List.getElem?_set,List.getElem?_map]
 by_cases c:i=k
 ·subst c
  rw [if_pos rfl,if_pos (List.getElem?_eq_some_iff.1 hj).1,hj];simp
 rw [if_neg c]
 cases hk:l[k]? with
 |none=>rfl
 |some y=>
  have:y.id≠j.id:=fun e=>c (uY ha hj hk e.symm)
  simp [this]
theorem Bo {s:bg} (h:s.ok) {i:Nat} {j:Jb} (hj:s.av[i]?=some j) (hr:j.runs=true):(cN s j.id).av=s.av.filterMap (cnt [j.id]):=by
 rw [(qL h hj hr).2.2.2]
 have hm:=List.mem_of_getElem? hj
 by_cases c:j.left=1
 ·rw [if_pos c,PB h.ids hj]
  refine (Di _ fun y hy=>?_).symm
  unfold cnt
  by_cases e:y.id=j.id
  ·have:=c6 h.ids hy hm e;subst this
   simp [hr,c]
  simp [e]
 rw [if_neg c,Tq h.ids hj]
 refine (Q3 _ fun y hy=>?_).symm
 unfold cnt
 by_cases e:y.id=j.id
 ·have:=c6 h.ids hy hm e;subst this
  simp [hr,c]
 simp [e]
theorem Tr {id:Int} {R:List Int} (hn:id ∉ R) (j:Jb):(cnt [id] j).bind (cnt R)=cnt (id::R) j:=by
 unfold cnt
 by_cases h1:j.runs=true∧j.id=id
 ·obtain ⟨h1,rfl⟩:=h1
  by_cases h2:j.left=1
  ·simp [h1,h2]
  simp [h1,h2,hn]
 by_cases h3:j.runs=true
 ·have h4:j.id≠id:=fun e=>h1 ⟨h3,e⟩
  simp [h3,h4]
 simp [h3]
theorem qM:∀(R:List Int) {t:bg},t.ok→R.Nodup→(∀id∈R,∃j∈t.av,j.id=id∧j.runs=true)→
 (R.foldl cN t).ok∧(R.foldl cN t).queue=t.queue∧(R.foldl cN t).round=t.round∧(R.foldl cN t).av=t.av.filterMap (cnt R)
 |[],t,h,_,_=>⟨h,rfl,rfl,by rw [show cnt []=some from funext fun j=>by simp [cnt],List.filterMap_some];rfl⟩
 |id::R,t,h,hn,hj=>by
  obtain ⟨BD,hn2⟩:=List.nodup_cons.1 hn
  obtain ⟨j,hm,rfl,hr⟩:=hj id (by simp)
  obtain ⟨i,hi⟩:=List.getElem?_of_mem hm
  obtain ⟨c1,c2,c3,_⟩:=qL h hi hr
  have c4:=Bo h hi hr
  have hj2:∀x∈R,∃o∈(cN t j.id).av,o.id=x∧o.runs=true:=by
   intro x hx
   obtain ⟨o,ho,rfl,wN⟩:=hj x (by simp [hx])
   have hne:o.id≠j.id:=fun e=>BD (by rw [←e];exact hx)
   refine ⟨o,?_,rfl,wN⟩
   rw [c4,List.mem_filterMap]
   exact ⟨o,ho,by unfold cnt;rw [if_neg (by simp [hne])]⟩
  obtain ⟨g1,g2,g3,g4⟩:=qM R c1 hn2 hj2
  refine ⟨g1,by rw [List.foldl_cons,g2,c2],by rw [List.foldl_cons,g3,c3],?_⟩
  rw [List.foldl_cons,g4,c4,List.filterMap_filterMap]
  exact congrArg (fun f=>t.av.filterMap f) (funext fun j=>Tr BD j)
def NL (j:Jb):Option Jb:=if j.runs=true then (if j.left=1 then none else some (j.to (j.left-1))) else some j
theorem yj {s:bg} (h:s.ok):(eF s).ok∧(eF s).queue=s.queue∧(eF s).round=u64 (s.round+1)∧(eF s).av=s.av.filterMap NL:=by
 have h':bg.ok {s with round:=u64 (s.round+1)}:={bf:=h.bf,gR:=h.gR,tree:=h.tree,used:=h.used,most:=h.most,next:=h.next,ids:=h.ids,u9:=h.u9,pe:=h.pe,left:=h.left,iJ:=h.iJ,kK:=h.kK,gy:=h.gy,places:=h.places,count:=h.count,notes:=h.notes}
 have hn:(cO s).Nodup:=by
  unfold cO
  rw [List.nodup_iff_pairwise_ne,List.pairwise_map]
  exact (h.ids.filter _).imp fun {a b} g=>by omega
 have hj:∀id∈cO s,∃j∈s.av,j.id=id∧j.runs=true:=by
  intro id hid
  obtain ⟨j,hj,e⟩:=List.mem_map.1 hid
  obtain ⟨h1,h2⟩:=List.mem_filter.1 hj
  exact ⟨j,h1,e,h2⟩
 obtain ⟨g1,g2,g3,g4⟩:=qM (cO s) h' hn hj
 refine ⟨g1,g2,g3,?_⟩
 unfold eF
 rw [g4]
 have:∀l:List Jb,(∀y∈l,y∈s.av)→l.filterMap (cnt (cO s))=l.filterMap NL:=by
  intro l
  induction l with
  |nil=>intro _;rfl
  |cons x r ih=>
   intro hl
   have e:cnt (cO s) x=NL x:=by
    unfold cnt NL
    by_cases c:x.runs=true
    ·have:x.id∈cO s:=List.mem_map_of_mem (List.mem_filter.2 ⟨hl x (by simp),c⟩)
     simp [c,this]
    simp [c]
   rw [List.filterMap_cons,List.filterMap_cons,e,ih fun y hy=>hl y (by simp [hy])]
 exact this s.av fun y hy=>hy
end Dem
end
section
open Go Dem Go.Proofs
namespace Dem
variable {t:Th}
theorem LV {l:List Jb} {q:Nat} {x:Jb} (hx:l[q]?=some x) (h:x.runs=true):((l.take (q+1)).filter (·.runs)).map (·.id)=((l.take q).filter (·.runs)).map (·.id)++[x.id]:=by rw [dP hx,List.filter_append];simp [h]
theorem Q4 {l:List Jb} {q:Nat} {x:Jb} (hx:l[q]?=some x) (h:x.runs=false):((l.take (q+1)).filter (·.runs)).map (·.id)=((l.take q).filter (·.runs)).map (·.id):=by rw [dP hx,List.filter_append];simp [h]
theorem Kt (ht:TT t) (rd nx ef af:Int) {nl:List Node} {pl:List Place} {tl:List bw} {jl:List Jb} {ql:List cj} {el al:List dW} {ns ps ts js qs es bU:List (List D)} (fc:ns=nl.map Node.cells) (hps:ps=pl.map Place.cells) (hts:ts=tl.map bw.cells) (eN:js=jl.map Jb.cells) (eD:qs=ql.map cj.cells) (aG:es=el.map dW.cells) (has:bU=al.map dW.cells) (hjl:jl.length<1000000):FC 69 [.agg [aD rd,aD nx,SL ns,SL ps,SL ts,SL js,SL qs,aD ef,SL es,aD af,SL bU]] [] (.ret (EJ t (t _ fun _=>cO ⟨rd,nx,⟨nl,pl⟩,tl,jl,ql,⟨ef,el⟩,⟨af,al⟩⟩))) []:=by
 refine bP ht (aV:=[]) Tryz.func69 rfl rfl (N:=22) rfl rfl (n:=0) rfl rfl ?_
 cbv
 have aL:ns.length=nl.length:=by rw [fc,lgM]
 have aR:ps.length=pl.length:=by rw [hps,lgM]
 have aM:ts.length=tl.length:=by rw [hts,lgM]
 have aT:js.length=jl.length:=by rw [eN,lgM]
 have aF:qs.length=ql.length:=by rw [eD,lgM]
 have az:es.length=el.length:=by rw [aG,lgM]
 have aE:bU.length=al.length:=by rw [has,lgM]
 obtain ⟨J0,fH⟩:∃J0:Nat→List (List D)×Int→Prop,∀n u i,J0 n (u,i)↔(∃q:Nat,i=q∧q+n=jl.length∧u=(((jl.take q).filter (·.runs)).map (·.id)).map Int.cells):=⟨fun n v=>match v with|(u,i)=>(∃q:Nat,i=q∧q+n=jl.length∧u=(((jl.take q).filter (·.runs)).map (·.id)).map Int.cells),fun _ _ _=>Iff.rfl⟩
 refine bM ⟨[3,7,8,9],[(3,1)],[]⟩ (σ:=List (List D)×Int) (fun v=>[(3,.ow 0 1 (t _ fun _=>(v.1).length)),(9,.d (.int .i64 (t _ fun _=>v.2)))]) (fun v=>[(0,.row 1 (t _ fun _=>v.1))]) J0 ?_
 cbv
 refine aJ ⟨jl.length,([],_),(fH _ _ _).2 ?_,by simp only [ht];rfl,?_⟩
 ·exact ⟨0,rfl,by simp,rfl⟩
 rintro n ⟨u,i⟩ hj
 replace hj:=(fH _ _ _).1 hj
 obtain ⟨q,rfl,j1,j4⟩:=hj
 cbv
 refine ap (fun h1=>?_) (fun h1=>?_)
 ·simp [ht,ah,aL,aR,aM,aT,aF,az,aE] at h1
  cbv
  (refine kO ht eN (cT:=Jb.bF t) (by simp only [ht,ah];((try simp only [ah] at*);omega)) (by simp only [ht,ah];((try simp only [ah] at*);omega)) (fun _=>rfl) (fun _=>by simp only [Jb.cells,Jb.bF,ht]) (fun x mx=>?_);simp [ht,ah] at mx)
  cbv
  refine ap (fun h2=>?_) (fun h2=>?_)
  ·cbv
   refine ⟨?_,?_⟩
   ·(have h9:=Xq (l:=((jl.take q).filter (·.runs)).map (·.id)) (cells:=Int.cells) (u:=u) (row:=[D.int .u64 x.id]) (sz:=1) (b:=8) j4 (fun _=>rfl) rfl (by have:=List.length_filter_le (fun y:Jb=>y.runs) (jl.take q);simp at this ⊢;((try simp only [ah] at*);omega)) (by decide);simp only [ht];first|exact h9|exact ⟨trv,h9.2⟩)
   cbv
   refine cD (_,_) (by simp only [ht,←List.length_append];rfl) (n-1) ?_ ((fH _ _ _).2 ?_)
   ·omega
   simp only [ht,ah]
   first|exact ⟨q+1,aH (by ((try simp only [ah] at*);omega)),by ((try simp only [ah] at*);omega),by rw [j4,LV mx (by simpa using h2)];simp [Int.cells]⟩|exact ⟨q+1,aH (by ((try simp only [ah] at*);omega)),by ((try simp only [ah] at*);omega),by rw [j4,Q4 mx (by simpa using h2)]⟩
  cbv
  refine cD (_,_) (by simp only [ht];rfl) (n-1) ?_ ((fH _ _ _).2 ?_)
  ·omega
  simp only [ht,ah]
  first|exact ⟨q+1,aH (by ((try simp only [ah] at*);omega)),by ((try simp only [ah] at*);omega),by rw [j4,LV mx (by simpa using h2)];simp [Int.cells]⟩|exact ⟨q+1,aH (by ((try simp only [ah] at*);omega)),by ((try simp only [ah] at*);omega),by rw [j4,Q4 mx (by simpa using h2)]⟩
 simp [ht,ah,aL,aR,aM,aT,aF,az,aE] at h1
 cbv
 refine aA trv (by simp [ht]) rfl rfl rfl ?_
 (rw [List.take_of_length_le (by ((try simp only [ah] at*);omega))] at j4;simp only [ht,EJ,cO,j4];done)
def jM (s:bg) (l:List Int):bg:=l.foldl cN s
theorem tH {s:bg} {l:List Int} {k:Nat} {x:Int} (h:l[k]?=some x):jM s (l.take (k+1))=cN (jM s (l.take k)) x:=by
 unfold jM;rw [dP h,List.foldl_append];rfl
theorem Q5 {s:bg} (h:s.sm) {i:Nat} {x:Jb} (hx:s.av[i]?=some x) (z:Int):∀y∈s.av.set i {x with left:=z},y.x.gu.u'∧y.x.path.length<1000000000000:=fun y hy=>by
 rcases List.mem_or_eq_of_mem_set hy with g|rfl
 ·exact tF h y g
 exact tF h x (List.mem_of_getElem? hx)
theorem Told.aak {s:bg} {rd nx ef af:Int} {ns ps ts js js' qs es bU:List (List D)} {J:List Jb} (h:Told s rd nx ns ps ts js qs ef es af bU) (hj:js'=J.map Jb.cells):Told {s with av:=J} rd nx ns ps ts js' qs ef es af bU:=
 ⟨h.r,h.x,h.n,h.p,h.t,hj,h.q,h.f,h.e,h.g,h.a⟩
theorem Told.eqJ {s:bg} {rd nx ef af:Int} {ns ps ts js qs es bU:List (List D)} (h:Told s rd nx ns ps ts js qs ef es af bU) (J:List Jb):(⟨rd,nx,⟨s.bf.nodes,s.bf.places⟩,s.tree,J,s.queue,⟨ef,s.ev.l⟩,⟨af,s.au.l⟩⟩:bg)={s with av:=J}:=by
 rw [h.r,h.x,h.f,h.g]
theorem HS {l:List Jb} {i:Nat} {x:Jb} (hx:l[i]?=some x) (z:Int):(l.map Jb.cells).set i (bt ((l.map Jb.cells).getD i []) 11 [.int .i64 z])=(l.set i {x with left:=z}).map Jb.cells:=by
 obtain ⟨h,e⟩:=List.getElem?_eq_some_iff.1 hx
 rw [List.map_set];congr 1
 simp [h,e,bt,Jb.cells]
theorem NM {s:bg} {id:Int} (h:s.av.findIdx? (fun j=>decide (j.id=id))=none):cN s id=s:=by unfold cN;rw [h]
theorem Q6 {s:bg} {id:Int} {i:Nat} {x:Jb} (h:s.av.findIdx? (fun j=>decide (j.id=id))=some i) (hd:s.av.getD i Jb.zero=x) (hl:x.left-1≤0):cN s id=(send {s with av:=s.av.set i {x with left:=x.left-1}} id 3).1:=by
 unfold cN;rw [h];simp only;rw [hd,if_pos hl];unfold yh;rw [hd]
theorem NN {s:bg} {id:Int} {i:Nat} {x:Jb} (h:s.av.findIdx? (fun j=>decide (j.id=id))=some i) (hd:s.av.getD i Jb.zero=x) (hl:0<x.left-1):cN s id={s with av:=s.av.set i {x with left:=x.left-1}}:=by
 unfold cN;rw [h];simp only;rw [hd,if_neg (by omega)];unfold yh;rw [hd]
theorem VM (ht:TT t) (id i n k l a b c d:Int) (p:aQ) (sr:List (List D)) (rn:Bool) (lf:Int):FC 71 [.agg [aD i,ST p,aD a,aD b,aD c,aD d,bJ n,bJ k,bJ l,SL sr,BL rn,bJ lf],.ptr 0 0] [.var [aD id]] (.ret (BL (decide (i=id)))) [.var [aD id]]:=by
 refine bP ht (aV:=[.var [aD id]]) Tryz.func71 rfl rfl (N:=8) rfl rfl (n:=1) rfl rfl ?_
 cbv
 refine aA trv trv rfl rfl rfl ?_
 simp [ht]
theorem Q7 (ht:TT t) (rd nx ef af:Int) {nl:List Node} {pl:List Place} {tl:List bw} {jl:List Jb} {ql:List cj} {el al:List dW} {ns ps ts js qs es bU:List (List D)} (fc:ns=nl.map Node.cells) (hps:ps=pl.map Place.cells) (hts:ts=tl.map bw.cells) (eN:js=jl.map Jb.cells) (eD:qs=ql.map cj.cells) (aG:es=el.map dW.cells) (has:bU=al.map dW.cells) (hrl:jl.length<1000000) (hg:∀k,(jM {(⟨rd,nx,⟨nl,pl⟩,tl,jl,ql,⟨ef,el⟩,⟨af,al⟩⟩:bg) with round:=u64 (rd+1)} ((cO ⟨rd,nx,⟨nl,pl⟩,tl,jl,ql,⟨ef,el⟩,⟨af,al⟩⟩).take k)).sm) (hf:∀k,∀x∈(jM {(⟨rd,nx,⟨nl,pl⟩,tl,jl,ql,⟨ef,el⟩,⟨af,al⟩⟩:bg) with round:=u64 (rd+1)} ((cO ⟨rd,nx,⟨nl,pl⟩,tl,jl,ql,⟨ef,el⟩,⟨af,al⟩⟩).take k)).av,0≤x.left∧x.left<9223372036854775808):
 FC 29 [.agg [aD rd,aD nx,SL ns,SL ps,SL ts,SL js,SL qs,aD ef,SL es,aD af,SL bU]] [] (.ret (fm t (t _ fun _=>eF ⟨rd,nx,⟨nl,pl⟩,tl,jl,ql,⟨ef,el⟩,⟨af,al⟩⟩))) []:=by
 obtain ⟨R,hR⟩:∃R,R=cO ⟨rd,nx,⟨nl,pl⟩,tl,jl,ql,⟨ef,el⟩,⟨af,al⟩⟩:=⟨_,rfl⟩
 obtain ⟨S,hS⟩:∃S:bg,S={(⟨rd,nx,⟨nl,pl⟩,tl,jl,ql,⟨ef,el⟩,⟨af,al⟩⟩:bg) with round:=u64 (rd+1)}:=⟨_,rfl⟩
 have hE:eF ⟨rd,nx,⟨nl,pl⟩,tl,jl,ql,⟨ef,el⟩,⟨af,al⟩⟩=jM S R:=by rw [hR,hS];rfl
 have hRl:R.length<1000000:=by rw [hR];unfold cO;rw [lgM];have:=List.length_filter_le (fun y:Jb=>y.runs) jl;exact Nat.lt_of_le_of_lt this hrl
 have hRz:∀z:Int,cO {(⟨rd,nx,⟨nl,pl⟩,tl,jl,ql,⟨ef,el⟩,⟨af,al⟩⟩:bg) with round:=z}=R:=fun z=>by rw [hR];rfl
 rw [←hS,←hR] at hg hf
 have vt:Told S (u64 (rd+1)) nx ns ps ts js qs ef es af bU:=by rw [hS];exact ⟨rfl,rfl,fc,hps,hts,eN,eD,rfl,aG,rfl,has⟩
 rw [hE]
 clear hS hE hR
 refine bP ht (aV:=[]) Tryz.func29 rfl rfl (N:=51) rfl rfl (n:=0) rfl rfl ?_
 cbv
 have aL:ns.length=nl.length:=by rw [fc,lgM]
 have aR:ps.length=pl.length:=by rw [hps,lgM]
 have aM:ts.length=tl.length:=by rw [hts,lgM]
 have aT:js.length=jl.length:=by rw [eN,lgM]
 have aF:qs.length=ql.length:=by rw [eD,lgM]
 have az:es.length=el.length:=by rw [aG,lgM]
 have aE:bU.length=al.length:=by rw [has,lgM]
 refine aK trv (Kt ht _ _ _ _ ‹_› ‹_› ‹_› ‹_› ‹_› ‹_› ‹_› ‹_›) trv rfl rfl rfl (fun r0 c7=>?_)
 simp only [ht] at c7
 (replace c7:=(c7).trans (hRz _);subst r0)
 cbv
 obtain ⟨J1,o8⟩:∃J1:Nat→Int×Int×Int×List (List D)×List (List D)×List (List D)×List (List D)×List (List D)×Int×List (List D)×Int×List (List D)→Prop,∀n i rd nx ns ps ts js qs ef es af bU,J1 n (i,rd,nx,ns,ps,ts,js,qs,ef,es,af,bU)↔(∃k:Nat,i=k∧k+n=R.length∧Told (jM S (R.take k)) rd nx ns ps ts js qs ef es af bU):=⟨fun n v=>match v with|(i,rd,nx,ns,ps,ts,js,qs,ef,es,af,bU)=>(∃k:Nat,i=k∧k+n=R.length∧Told (jM S (R.take k)) rd nx ns ps ts js qs ef es af bU),fun _ _ _ _ _ _ _ _ _ _ _ _ _=>Iff.rfl⟩
 refine bM ⟨[1,2,11,12,13],[],[(0,5,0)]⟩ (σ:=Int×Int×Int×List (List D)×List (List D)×List (List D)×List (List D)×List (List D)×Int×List (List D)×Int×List (List D)) (fun v=>[(13,.d (.int .i64 (t _ fun _=>v.1)))]) (fun v=>[(0,.var [.d (.int .u64 (t _ fun _=>v.2.1)),.d (.int .u64 (t _ fun _=>v.2.2.1)),.d (.sl (t _ fun _=>v.2.2.2.1)),.d (.sl (t _ fun _=>v.2.2.2.2.1)),.d (.sl (t _ fun _=>v.2.2.2.2.2.1)),.d (.sl (t _ fun _=>v.2.2.2.2.2.2.1)),.d (.sl (t _ fun _=>v.2.2.2.2.2.2.2.1)),.d (.int .u64 (t _ fun _=>v.2.2.2.2.2.2.2.2.1)),.d (.sl (t _ fun _=>v.2.2.2.2.2.2.2.2.2.1)),.d (.int .u64 (t _ fun _=>v.2.2.2.2.2.2.2.2.2.2.1)),.d (.sl (t _ fun _=>v.2.2.2.2.2.2.2.2.2.2.2))])]) J1 ?_
 cbv
 refine aJ ⟨R.length,(_,_,_,_,_,_,_,_,_,_,_,_),(o8 _ _ _ _ _ _ _ _ _ _ _ _ _).2 ?_,by simp only [ht];rfl,?_⟩
 ·exact ⟨0,rfl,by simp,vt⟩
 rintro n ⟨i,rd,nx,ns,ps,ts,js,qs,ef,es,af,bU⟩ hj
 replace hj:=(o8 _ _ _ _ _ _ _ _ _ _ _ _ _).1 hj
 obtain ⟨k,rfl,j1,jT⟩:=hj
 cbv
 refine ap (fun h2=>?_) (fun h2=>?_)
 ·simp [ht,ah,aL,aR,aM,aT,aF,az,aE] at h2
  cbv
  (refine kO ht (l:=R) (cells:=Int.cells) (cT:=Int.bF t) (by simp only [ht]<;>rfl) (by simp only [ht,ah];omega) (by simp only [ht,ah];((try simp only [ah] at*);omega)) (fun _=>rfl) (fun _=>rfl) (fun x2 nT=>?_);simp [ht,ah] at nT)
  cbv
  (obtain ⟨r9,jP⟩:∃r,r=D7 (jM S (R.take k)).av x2:=⟨_,rfl⟩;refine dz [2] trv rfl rfl (Hh ht x2 (l:=(jM S (R.take k)).av) (by simp only [ht];exact jT.j) 71 (fun x=>decide (x.id=x2)) (by have:=(hg k).av.1;((try simp only [ah] at*);omega)) (fun x _=>VM ht x2 _ _ _ _ _ _ _ _ _ _ _ _) jP) (cz ?_);have ec:=EB jP (P:=fun _=>True) (fun _ _=>trivial);rcases ec with ⟨e1,e2⟩|⟨i,xi,xa,xb,xc,xd,xn,xp,xt,xf,xq,xr,xl,e1,e2,e3,e4,e5,_,e8⟩)
  ·cbv
   refine ap (fun h3=>?_) (fun h3=>?_)
   ·simp [ht,ah,aL,aR,aM,aT,aF,az,aE] at h3
    cbv
    refine cD (_,_,_,_,_,_,_,_,_,_,_,_) (by simp only [ht];rfl) (n-1) ?_ ((o8 _ _ _ _ _ _ _ _ _ _ _ _ _).2 ?_)
    ·omega
    simp only [ht,ah]
    exact ⟨k+1,aH (by ((try simp only [ah] at*);omega)),by ((try simp only [ah] at*);omega),by rw [tH nT,NM e2];exact jT⟩
   simp [ht,ah,aL,aR,aM,aT,aF,az,aE] at h3
   omega
  cbv
  refine ap (fun h4=>?_) (fun h4=>?_)
  ·simp [ht,ah,aL,aR,aM,aT,aF,az,aE] at h4
   (simp only [ah] at*;omega)
  simp [ht,ah,aL,aR,aM,aT,aF,az,aE] at h4
  cbv
  (refine jB trv (mX ht (l:=(jM S (R.take k)).av) (by simp only [ht];exact jT.j) (by have:=(hg k).av.1;((try simp only [ah] at*);omega))) trv rfl (.inr rfl) ?_)
  cbv
  refine ⟨?_,?_⟩
  ·(obtain ⟨_,e9⟩:=List.getElem?_eq_some_iff.1 e3;simp [ht,ah,e1,e2,e9,Jb.cells];done)
  cbv
  ((refine X9 (l:=(jM S (R.take k)).av) (cells:=Jb.cells) rfl (Jb.bF t) (fun _=>by simp only [Jb.cells,Jb.bF,ht]) i e2 (by simp only [ht,ah,e1,Int.toNat_natCast]) (fun h=>by simp only [ht,ah,e1,Int.toNat_natCast];exact h) (fun x mx=>?_);rw [e3] at mx;cases mx))
  cbv
  refine ⟨?_,?_⟩
  ·(obtain ⟨_,e9⟩:=List.getElem?_eq_some_iff.1 e3;simp [ht,ah,e1,e2,e9,Jb.cells];done)
  refine ⟨?_,?_⟩
  ·(obtain ⟨_,e9⟩:=List.getElem?_eq_some_iff.1 e3;simp [ht,ah,e1,e2,e9,Jb.cells];done)
  refine ⟨?_,?_⟩
  ·(obtain ⟨_,e9⟩:=List.getElem?_eq_some_iff.1 e3;simp [ht,ah,e1,e2,e9,Jb.cells];done)
  cbv
  ((obtain ⟨z9,Yd⟩:∃z,z=IntKind.i64.wrap (xf-1):=⟨_,rfl⟩;refine Pb (Jb.bF t ⟨xi,⟨xq,⟨xa,xb,xc,xd⟩,xn,xp,xt,xl⟩,xr,z9⟩) (by simp only [ht,ah,e1,Int.toNat_natCast,List.length_set,lgM];exact e2) (by obtain ⟨_,e9⟩:=List.getElem?_eq_some_iff.1 e3;simp [ht,ah,e1,e2,e9,Yd,bt,Jb.cells,Jb.bF]) ?_))
  cbv
  refine ap (fun h5=>?_) (fun h5=>?_)
  ·simp [ht,ah,aL,aR,aM,aT,aF,az,aE] at h5
   cbv
   (have pn:=hg k;have hz8:z9=xf-1:=(by have h8:=hf k _ (List.mem_of_getElem? e3);simp only at h8;rw [Yd];exact wrap64 (by omega) (by omega));refine I5 (E:=Lw t) trv rfl (by simp [ht]) (by exact dI [] rfl rfl rfl rfl (Qt ht _ _ _ _ (nl:=(jM S (R.take k)).bf.nodes) (pl:=(jM S (R.take k)).bf.places) (tl:=(jM S (R.take k)).tree) (jl:=(jM S (R.take k)).av.set i ⟨xi,⟨xq,⟨xa,xb,xc,xd⟩,xn,xp,xt,xl⟩,xr,xf-1⟩) (ql:=(jM S (R.take k)).queue) (el:=(jM S (R.take k)).ev.l) (al:=(jM S (R.take k)).au.l) (by simp only [ht];exact jT.n) (by simp only [ht];exact jT.p) (by simp only [ht];exact jT.t) (by simp only [ht,ah,e1,Int.toNat_natCast];rw [←Yd,hz8];exact HS e3 _) (by simp only [ht];exact jT.q) (by simp only [ht];exact jT.e) (by simp only [ht];exact jT.a) x2 3 (Q5 pn e3 _) pn.tree.1 (by rw [List.length_set];exact pn.av.1) pn.places pn.queue pn.notes.1)) (fun r1 cP=>?_);simp only [ht] at cP;rw [jT.eqJ] at cP)
   cbv
   refine cD (_,_,_,_,_,_,_,_,_,_,_,_) (by simp only [ht];rfl) (n-1) ?_ ((o8 _ _ _ _ _ _ _ _ _ _ _ _ _).2 ?_)
   ·omega
   simp only [ht,ah]
   exact ⟨k+1,aH (by ((try simp only [ah] at*);omega)),by ((try simp only [ah] at*);omega),by rw [tH nT,Q6 e4 e5 (by simp only;omega),←cP];exact Told.self r1.1⟩
  simp [ht,ah,aL,aR,aM,aT,aF,az,aE] at h5
  cbv
  refine ⟨?_,?_⟩
  ·(exact ⟨⟨by simp [ht]⟩,trv⟩)
  cbv
  refine cD (_,_,_,_,_,_,_,_,_,_,_,_) (by simp only [ht];rfl) (n-1) ?_ ((o8 _ _ _ _ _ _ _ _ _ _ _ _ _).2 ?_)
  ·omega
  simp only [ht,ah]
  (have h8:=hf k _ (List.mem_of_getElem? e3);simp only at h8;have hz8:z9=xf-1:=(by rw [Yd];exact wrap64 (by omega) (by omega));simp only [ah] at e1;exact ⟨k+1,aH (by ((try simp only [ah] at*);omega)),by ((try simp only [ah] at*);omega),by rw [tH nT,NN e4 e5 (by simp only;omega)];exact jT.aak (by simp only [e1,Int.toNat_natCast];rw [←Yd,hz8];exact HS e3 _)⟩)
 simp [ht,ah,aL,aR,aM,aT,aF,az,aE] at h2
 cbv
 refine aA trv trv rfl rfl rfl ?_
 (rw [List.take_of_length_le (by ((try simp only [ah] at*);omega))] at jT;simp only [ht,jT.r,jT.x,jT.n,jT.p,jT.t,jT.j,jT.q,jT.f,jT.e,jT.g,jT.a];done)
def Ts (t:Th) (r:Int×Nat×Bool):AV:=.dX [aD r.1,bJ (t _ fun _=>(r.2.1:Int)),BL r.2.2]
theorem LW (ht:TT t) (rd nx ef af:Int) {nl:List Node} {pl:List Place} {tl:List bw} {jl:List Jb} {ql:List cj} {el al:List dW} {ns ps ts js qs es bU:List (List D)} (fc:ns=nl.map Node.cells) (hps:ps=pl.map Place.cells) (hts:ts=tl.map bw.cells) (eN:js=jl.map Jb.cells) (eD:qs=ql.map cj.cells) (aG:es=el.map dW.cells) (has:bU=al.map dW.cells) (hC:∀id,FC 23 [.agg [aD rd,aD nx,SL ns,SL ps,SL ts,SL js,SL qs,aD ef,SL es,aD af,SL bU],aD id] [] (.ret (dn (t _ fun _=>de ⟨rd,nx,⟨nl,pl⟩,tl,jl,ql,⟨ef,el⟩,⟨af,al⟩⟩ id))) []) (Uc:ql.length<1000000) (b:Nat) {bb:Int} (hb:bb=b) (tK:b<1000000):
 FC 28 [.agg [aD rd,aD nx,SL ns,SL ps,SL ts,SL js,SL qs,aD ef,SL es,aD af,SL bU],bJ bb] [] (.ret (Ts t (t _ fun _=>aW ⟨rd,nx,⟨nl,pl⟩,tl,jl,ql,⟨ef,el⟩,⟨af,al⟩⟩ b))) []:=by
 obtain ⟨S,hS⟩:∃S:bg,S=⟨rd,nx,⟨nl,pl⟩,tl,jl,ql,⟨ef,el⟩,⟨af,al⟩⟩:=⟨_,rfl⟩
 rw [←hS] at hC ⊢
 have hE:aW S b=mA S (ql.drop b) b:=by rw [hS];rfl
 rw [hE]
 clear hS hE
 refine bP ht (aV:=[]) Tryz.func28 rfl rfl (N:=32) rfl rfl (n:=0) rfl rfl ?_
 cbv
 have aL:ns.length=nl.length:=by rw [fc,lgM]
 have aR:ps.length=pl.length:=by rw [hps,lgM]
 have aM:ts.length=tl.length:=by rw [hts,lgM]
 have aT:js.length=jl.length:=by rw [eN,lgM]
 have aF:qs.length=ql.length:=by rw [eD,lgM]
 have az:es.length=el.length:=by rw [aG,lgM]
 have aE:bU.length=al.length:=by rw [has,lgM]
 obtain ⟨J0,fH⟩:∃J0:Nat→Int→Prop,∀n kk,J0 n kk↔(∃k:Nat,kk=k∧k+n=max b ql.length∧mA S (ql.drop b) b=mA S (ql.drop k) k):=⟨fun n v=>match v with|kk=>(∃k:Nat,kk=k∧k+n=max b ql.length∧mA S (ql.drop b) b=mA S (ql.drop k) k),fun _ _=>Iff.rfl⟩
 refine bM ⟨[2,7],[],[]⟩ (σ:=Int) (fun v=>[(7,.d (.int .i64 (t _ fun _=>v)))]) (fun v=>[]) J0 ?_
 cbv
 refine aJ ⟨(max b ql.length-b),_,(fH _ _).2 ?_,rfl,?_⟩
 ·exact ⟨b,by ((try simp only [ah] at*);omega),by ((try simp only [ah] at*);omega),rfl⟩
 rintro n kk hj
 replace hj:=(fH _ _).1 hj
 obtain ⟨k,rfl,j1,j2⟩:=hj
 cbv
 refine ap (fun h1=>?_) (fun h1=>?_)
 ·simp [ht,ah,aL,aR,aM,aT,aF,az,aE] at h1
  cbv
  refine dK [false,false,false,false,false,false,false,true] (by kernel_rfl) (by kernel_rfl) ?_
  cbv
  iterate 4 refine gI (by simp [ht,aj]) ?_
  (first|(refine v8 ht eD (cT:=cj.bF t) mx (by simp only [ht]) (fun _=>rfl) (fun _=>rfl) ?_)|(refine kO ht eD (cT:=cj.bF t) (by simp only [ht,ah];((try simp only [ah] at*);omega)) (by simp only [ht,ah];((try simp only [ah] at*);omega)) (fun _=>rfl) (fun _=>rfl) (fun x mx=>?_);simp [ht,ah] at mx))
  cbv
  iterate 2 refine gI (by simp [ht,aj]) ?_
  (refine bq trv (hC _) (by simp [ht]) rfl rfl (fun r1 cP=>?_);simp only [ht] at cP)
  cbv
  refine ap (fun h2=>?_) (fun h2=>?_)
  ·cbv
   (first|(refine v8 ht eD (cT:=cj.bF t) mx (by simp only [ht]) (fun _=>rfl) (fun _=>rfl) ?_)|(refine kO ht eD (cT:=cj.bF t) (by simp only [ht,ah];((try simp only [ah] at*);omega)) (by simp only [ht,ah];((try simp only [ah] at*);omega)) (fun _=>rfl) (fun _=>rfl) (fun x mx=>?_);simp [ht,ah] at mx))
   cbv
   refine aA trv trv rfl rfl rfl ?_
   (rw [cP] at h2;simp only [ht,j2,jD mx,mA];rw [if_pos h2];done)
  cbv
  refine cD _ (by simp only [ht];rfl) (n-1) ?_ ((fH _ _).2 ?_)
  ·omega
  simp only [ht,ah]
  exact ⟨k+1,aH (by ((try simp only [ah] at*);omega)),by ((try simp only [ah] at*);omega),by rw [j2,jD mx,mA,if_neg (by simp_all)]⟩
 simp [ht,ah,aL,aR,aM,aT,aF,az,aE] at h1
 cbv
 refine aA trv trv rfl rfl rfl ?_
 (simp only [ht,j2];rw [List.drop_eq_nil_of_le (by ((try simp only [ah] at*);omega))];rfl)
def VN (t:Th) (r:bg×Nat×Bool):AV:=.dX [.agg [aD r.1.round,aD r.1.next,SL (t _ fun _=>r.1.bf.nodes.map Node.cells),SL (t _ fun _=>r.1.bf.places.map Place.cells),SL (t _ fun _=>r.1.tree.map bw.cells),SL (t _ fun _=>r.1.av.map Jb.cells),SL (t _ fun _=>r.1.queue.map cj.cells),aD r.1.ev.first,SL (t _ fun _=>r.1.ev.l.map dW.cells),aD r.1.au.first,SL (t _ fun _=>r.1.au.l.map dW.cells),bJ (t _ fun _=>(r.2.1:Int))],BL r.2.2]
theorem Q8 (ht:TT t) (rd nx ef af:Int) {nl:List Node} {pl:List Place} {tl:List bw} {jl:List Jb} {ql:List cj} {el al:List dW} {ns ps ts js qs es bU:List (List D)} (fc:ns=nl.map Node.cells) (hps:ps=pl.map Place.cells) (hts:ts=tl.map bw.cells) (eN:js=jl.map Jb.cells) (eD:qs=ql.map cj.cells) (aG:es=el.map dW.cells) (has:bU=al.map dW.cells) (a:Nat) {aa:Int} (Rl:aa=a) {w:Int×Nat×Bool} (hw:w=aW ⟨rd,nx,⟨nl,pl⟩,tl,jl,ql,⟨ef,el⟩,⟨af,al⟩⟩ a) {vi:List Int×List aQ×Bool} (hv:w.2.2=true→vi=aC ⟨rd,nx,⟨nl,pl⟩,tl,jl,ql,⟨ef,el⟩,⟨af,al⟩⟩ w.1)
 (hN:FC 28 [.agg [aD rd,aD nx,SL ns,SL ps,SL ts,SL js,SL qs,aD ef,SL es,aD af,SL bU],bJ aa] [] (.ret (Ts t (t _ fun _=>w))) []) (hV:w.2.2=true→FC 19 [.agg [aD rd,aD nx,SL ns,SL ps,SL ts,SL js,SL qs,aD ef,SL es,aD af,SL bU],aD w.1] [] (.ret (Q0 t (t _ fun _=>vi))) [])
 (hvl:vi.1.length<1000000∧vi.2.1.length<1000000) (hg:∀k,(aI ⟨rd,nx,⟨nl,pl⟩,tl,jl,ql,⟨ef,el⟩,⟨af,al⟩⟩ (vi.1.take k)).sm):
 FC 72 [.agg [aD rd,aD nx,SL ns,SL ps,SL ts,SL js,SL qs,aD ef,SL es,aD af,SL bU,bJ aa]] [] (.ret (VN t (t _ fun _=>bL ⟨rd,nx,⟨nl,pl⟩,tl,jl,ql,⟨ef,el⟩,⟨af,al⟩⟩ a))) []:=by
 obtain ⟨S,hS⟩:∃S:bg,S=⟨rd,nx,⟨nl,pl⟩,tl,jl,ql,⟨ef,el⟩,⟨af,al⟩⟩:=⟨_,rfl⟩
 rw [←hS] at hg hw hv ⊢
 have vt:Told S rd nx ns ps ts js qs ef es af bU:=by rw [hS];exact ⟨rfl,rfl,fc,hps,hts,eN,eD,rfl,aG,rfl,has⟩
 obtain ⟨R,hR⟩:∃R,R=bL S a:=⟨_,rfl⟩
 have r1:w.2.2=false→R=(S,a,false):=by intro h;rw [hR];unfold bL;rw [←hw,h];rfl
 have r2:w.2.2=true→vi.2.2=false→R=(S,a,false):=by intro h h2;rw [hR];unfold bL;rw [←hw,h,←hv h,h2];rfl
 have r3:w.2.2=true→vi.2.2=true→(bZ (aI S vi.1) w.1 vi.2.1).2≠0→R=(aI S vi.1,a,false):=by intro h h2 h3;rw [hR];unfold bL;rw [←hw,h,←hv h,h2];simp only [Bool.not_true,Bool.false_eq_true,if_false];rw [if_pos h3]
 have r4:w.2.2=true→vi.2.2=true→(bZ (aI S vi.1) w.1 vi.2.1).2=0→R=((bZ (aI S vi.1) w.1 vi.2.1).1,w.2.1,true):=by intro h h2 h3;rw [hR];unfold bL;rw [←hw,h,←hv h,h2];simp only [Bool.not_true,Bool.false_eq_true,if_false];rw [if_neg (by simp [h3])]
 rw [←hR]
 clear hS hR hw hv
 refine bP ht (aV:=[]) Tryz.func72 rfl rfl (N:=65) rfl rfl (n:=0) rfl rfl ?_
 cbv
 have aL:ns.length=nl.length:=by rw [fc,lgM]
 have aR:ps.length=pl.length:=by rw [hps,lgM]
 have aM:ts.length=tl.length:=by rw [hts,lgM]
 have aT:js.length=jl.length:=by rw [eN,lgM]
 have aF:qs.length=ql.length:=by rw [eD,lgM]
 have az:es.length=el.length:=by rw [aG,lgM]
 have aE:bU.length=al.length:=by rw [has,lgM]
 (refine aK trv hN (by simp [ht]) rfl rfl rfl (fun r9 jP=>?_);simp only [ht] at jP;subst r9)
 cbv
 refine ap (fun h0=>?_) (fun h0=>?_)
 ·simp [ht,ah,aL,aR,aM,aT,aF,az,aE] at h0
  cbv
  refine aA trv trv rfl rfl rfl ?_
  (simp only [ht,r1 (by simp_all),vt.r,vt.x,vt.n,vt.p,vt.t,vt.j,vt.q,vt.f,vt.e,vt.g,vt.a,Rl];done)
 simp [ht,ah,aL,aR,aM,aT,aF,az,aE] at h0
 cbv
 (refine aK trv (hV ‹_›) (by simp [ht]) rfl rfl rfl (fun q2 eq2=>?_);simp only [ht] at eq2;subst q2)
 cbv
 refine ap (fun h1=>?_) (fun h1=>?_)
 ·simp [ht,ah,aL,aR,aM,aT,aF,az,aE] at h1
  cbv
  refine aA trv trv rfl rfl rfl ?_
  (simp only [ht,r2 ‹_› (by simp_all),vt.r,vt.x,vt.n,vt.p,vt.t,vt.j,vt.q,vt.f,vt.e,vt.g,vt.a,Rl];done)
 simp [ht,ah,aL,aR,aM,aT,aF,az,aE] at h1
 cbv
 obtain ⟨J2,yD⟩:∃J2:Nat→Int×Int×Int×List (List D)×List (List D)×List (List D)×List (List D)×List (List D)×Int×List (List D)×Int×List (List D)×Int→Prop,∀n i rd nx ns ps ts js qs ef es af bU ax,J2 n (i,rd,nx,ns,ps,ts,js,qs,ef,es,af,bU,ax)↔(∃k:Nat,i=k∧k+n=vi.1.length∧ax=aa∧Told (aI S (vi.1.take k)) rd nx ns ps ts js qs ef es af bU):=⟨fun n v=>match v with|(i,rd,nx,ns,ps,ts,js,qs,ef,es,af,bU,ax)=>(∃k:Nat,i=k∧k+n=vi.1.length∧ax=aa∧Told (aI S (vi.1.take k)) rd nx ns ps ts js qs ef es af bU),fun _ _ _ _ _ _ _ _ _ _ _ _ _ _=>Iff.rfl⟩
 refine bM ⟨[1,2,4,5,8,36,37,38],[],[]⟩ (σ:=Int×Int×Int×List (List D)×List (List D)×List (List D)×List (List D)×List (List D)×Int×List (List D)×Int×List (List D)×Int) (fun v=>[(38,.d (.int .i64 (t _ fun _=>v.1)))]) (fun v=>[(0,.var [.d (.int .u64 (t _ fun _=>v.2.1)),.d (.int .u64 (t _ fun _=>v.2.2.1)),.d (.sl (t _ fun _=>v.2.2.2.1)),.d (.sl (t _ fun _=>v.2.2.2.2.1)),.d (.sl (t _ fun _=>v.2.2.2.2.2.1)),.d (.sl (t _ fun _=>v.2.2.2.2.2.2.1)),.d (.sl (t _ fun _=>v.2.2.2.2.2.2.2.1)),.d (.int .u64 (t _ fun _=>v.2.2.2.2.2.2.2.2.1)),.d (.sl (t _ fun _=>v.2.2.2.2.2.2.2.2.2.1)),.d (.int .u64 (t _ fun _=>v.2.2.2.2.2.2.2.2.2.2.1)),.d (.sl (t _ fun _=>v.2.2.2.2.2.2.2.2.2.2.2.1)),.d (.int .i64 (t _ fun _=>v.2.2.2.2.2.2.2.2.2.2.2.2))])]) J2 ?_
 cbv
 refine aJ ⟨vi.1.length,(_,_,_,_,_,_,_,_,_,_,_,_,_),(yD _ _ _ _ _ _ _ _ _ _ _ _ _ _).2 ?_,by simp only [ht];rfl,?_⟩
 ·exact ⟨0,rfl,by simp,rfl,vt⟩
 rintro n ⟨i,rd,nx,ns,ps,ts,js,qs,ef,es,af,bU,ax⟩ hj
 replace hj:=(yD _ _ _ _ _ _ _ _ _ _ _ _ _ _).1 hj
 obtain ⟨k,rfl,j1,jx,jT⟩:=hj
 cbv
 refine ap (fun h3=>?_) (fun h3=>?_)
 ·simp [ht,ah,aL,aR,aM,aT,aF,az,aE] at h3
  cbv
  (refine kO ht (l:=vi.1) (cells:=Int.cells) (cT:=Int.bF t) (by simp only [ht]<;>rfl) (by simp only [ht,ah];omega) (by simp only [ht,ah];((try simp only [ah] at*);omega)) (fun _=>rfl) (fun _=>rfl) (fun x2 nT=>?_);simp [ht,ah] at nT)
  cbv
  (have pn:=hg k;refine aK trv (EC ht _ _ _ _ (nl:=(aI S (vi.1.take k)).bf.nodes) (pl:=(aI S (vi.1.take k)).bf.places) (tl:=(aI S (vi.1.take k)).tree) (jl:=(aI S (vi.1.take k)).av) (ql:=(aI S (vi.1.take k)).queue) (el:=(aI S (vi.1.take k)).ev.l) (al:=(aI S (vi.1.take k)).au.l) (by simp only [ht];exact jT.n) (by simp only [ht];exact jT.p) (by simp only [ht];exact jT.t) (by simp only [ht];exact jT.j) (by simp only [ht];exact jT.q) (by simp only [ht];exact jT.e) (by simp only [ht];exact jT.a) _ _ (tF pn) pn.tree.1 pn.av.1 pn.places pn.queue pn.notes.1) (by simp [ht]) rfl rfl rfl (fun r1 cP=>?_);simp only [ht] at cP;rw [jT.eq] at cP)
  cbv
  refine cD (_,_,_,_,_,_,_,_,_,_,_,_,_) (by simp only [ht];rfl) (n-1) ?_ ((yD _ _ _ _ _ _ _ _ _ _ _ _ _ _).2 ?_)
  ·omega
  simp only [ht,ah]
  exact ⟨k+1,aH (by ((try simp only [ah] at*);omega)),by ((try simp only [ah] at*);omega),jx,by rw [sw nT,←cP];exact Told.self r1.1⟩
 simp [ht,ah,aL,aR,aM,aT,aF,az,aE] at h3
 cbv
 (have pn:=hg k;rw [List.take_of_length_le (by ((try simp only [ah] at*);omega))] at jT pn;refine aK trv (vq ht _ _ _ _ (nl:=(aI S vi.1).bf.nodes) (pl:=(aI S vi.1).bf.places) (tl:=(aI S vi.1).tree) (jl:=(aI S vi.1).av) (ql:=(aI S vi.1).queue) (el:=(aI S vi.1).ev.l) (al:=(aI S vi.1).au.l) (by simp only [ht];exact jT.n) (by simp only [ht];exact jT.p) (by simp only [ht];exact jT.t) (by simp only [ht];exact jT.j) (by simp only [ht];exact jT.q) (by simp only [ht];exact jT.e) (by simp only [ht];exact jT.a) w.1 (names:=vi.2.1) (by simp only [ht]) (tF pn) pn.tree.1 pn.av.1 pn.nodes.1 pn.places pn.queue pn.notes.1 hvl.2) (by simp [ht]) rfl rfl rfl (fun b eb=>?_);simp only [ht] at eb;rw [jT.eq] at eb;rw [←eb] at r3 r4)
 cbv
 refine ap (fun h4=>?_) (fun h4=>?_)
 ·simp [ht,ah,aL,aR,aM,aT,aF,az,aE] at h4
  cbv
  refine aA trv trv rfl rfl rfl ?_
  (simp only [ht,r3 ‹_› ‹_› ‹_›,jT.r,jT.x,jT.n,jT.p,jT.t,jT.j,jT.q,jT.f,jT.e,jT.g,jT.a,jx,Rl];done)
 simp [ht,ah,aL,aR,aM,aT,aF,az,aE] at h4
 cbv
 refine aA trv trv rfl rfl rfl ?_
 (simp only [ht,r4 ‹_› ‹_› ‹_›];done)
theorem NO (ht:TT t) (rd nx ef af:Int) {nl:List Node} {pl:List Place} {tl:List bw} {jl:List Jb} {ql:List cj} {el al:List dW} {ns ps ts js qs es bU:List (List D)} (fc:ns=nl.map Node.cells) (hps:ps=pl.map Place.cells) (hts:ts=tl.map bw.cells) (eN:js=jl.map Jb.cells) (eD:qs=ql.map cj.cells) (aG:es=el.map dW.cells) (has:bU=al.map dW.cells) (P:bg→Nat→Prop) (h0:P ⟨rd,nx,⟨nl,pl⟩,tl,jl,ql,⟨ef,el⟩,⟨af,al⟩⟩ 0) (hP:∀T a,P T a→(bL T a).2.2=true→P (bL T a).1 (bL T a).2.1)
 (hC:∀T a,P T a→∀rd nx ns ps ts js qs ef es af bU,Told T rd nx ns ps ts js qs ef es af bU→∀aa:Int,aa=a→FC 72 [.agg [aD rd,aD nx,SL ns,SL ps,SL ts,SL js,SL qs,aD ef,SL es,aD af,SL bU,bJ aa]] [] (.ret (VN t (t _ fun _=>bL T a))) []):
 FC 30 [.agg [aD rd,aD nx,SL ns,SL ps,SL ts,SL js,SL qs,aD ef,SL es,aD af,SL bU]] [] (.ret (fm t (t _ fun _=>Bn ⟨rd,nx,⟨nl,pl⟩,tl,jl,ql,⟨ef,el⟩,⟨af,al⟩⟩))) []:=by
 obtain ⟨S,hS⟩:∃S:bg,S=⟨rd,nx,⟨nl,pl⟩,tl,jl,ql,⟨ef,el⟩,⟨af,al⟩⟩:=⟨_,rfl⟩
 have vt:Told S rd nx ns ps ts js qs ef es af bU:=by rw [hS];exact ⟨rfl,rfl,fc,hps,hts,eN,eD,rfl,aG,rfl,has⟩
 rw [←hS] at h0 ⊢
 obtain ⟨R,hR⟩:∃R,R=Bn S:=⟨_,rfl⟩
 have hR0:R=dB 128 S 0:=hR
 rw [←hR]
 clear hS hR
 refine bP ht (aV:=[]) Tryz.func30 rfl rfl (N:=23) rfl rfl (n:=0) rfl rfl ?_
 cbv
 have aL:ns.length=nl.length:=by rw [fc,lgM]
 have aR:ps.length=pl.length:=by rw [hps,lgM]
 have aM:ts.length=tl.length:=by rw [hts,lgM]
 have aT:js.length=jl.length:=by rw [eN,lgM]
 have aF:qs.length=ql.length:=by rw [eD,lgM]
 have az:es.length=el.length:=by rw [aG,lgM]
 have aE:bU.length=al.length:=by rw [has,lgM]
 obtain ⟨J0,fH⟩:∃J0:Nat→Int×Int×Int×List (List D)×List (List D)×List (List D)×List (List D)×List (List D)×Int×List (List D)×Int×List (List D)×Int→Prop,∀n i rd nx ns ps ts js qs ef es af bU ax,J0 n (i,rd,nx,ns,ps,ts,js,qs,ef,es,af,bU,ax)↔(∃(k:Nat) (T:bg) (a:Nat),i=k∧k+n=128∧ax=a∧Told T rd nx ns ps ts js qs ef es af bU∧P T a∧R=dB n T a):=⟨fun n v=>match v with|(i,rd,nx,ns,ps,ts,js,qs,ef,es,af,bU,ax)=>(∃(k:Nat) (T:bg) (a:Nat),i=k∧k+n=128∧ax=a∧Told T rd nx ns ps ts js qs ef es af bU∧P T a∧R=dB n T a),fun _ _ _ _ _ _ _ _ _ _ _ _ _ _=>Iff.rfl⟩
 refine bM ⟨[2,3,4,9],[],[]⟩ (σ:=Int×Int×Int×List (List D)×List (List D)×List (List D)×List (List D)×List (List D)×Int×List (List D)×Int×List (List D)×Int) (fun v=>[(9,.d (.int .i64 (t _ fun _=>v.1)))]) (fun v=>[(1,.var [.d (.int .u64 (t _ fun _=>v.2.1)),.d (.int .u64 (t _ fun _=>v.2.2.1)),.d (.sl (t _ fun _=>v.2.2.2.1)),.d (.sl (t _ fun _=>v.2.2.2.2.1)),.d (.sl (t _ fun _=>v.2.2.2.2.2.1)),.d (.sl (t _ fun _=>v.2.2.2.2.2.2.1)),.d (.sl (t _ fun _=>v.2.2.2.2.2.2.2.1)),.d (.int .u64 (t _ fun _=>v.2.2.2.2.2.2.2.2.1)),.d (.sl (t _ fun _=>v.2.2.2.2.2.2.2.2.2.1)),.d (.int .u64 (t _ fun _=>v.2.2.2.2.2.2.2.2.2.2.1)),.d (.sl (t _ fun _=>v.2.2.2.2.2.2.2.2.2.2.2.1)),.d (.int .i64 (t _ fun _=>v.2.2.2.2.2.2.2.2.2.2.2.2))])]) J0 ?_
 cbv
 refine aJ ⟨128,(_,_,_,_,_,_,_,_,_,_,_,_,_),(fH _ _ _ _ _ _ _ _ _ _ _ _ _ _).2 ?_,by simp only [ht];rfl,?_⟩
 ·exact ⟨0,S,0,rfl,rfl,rfl,vt,h0,hR0⟩
 rintro n ⟨i,rd,nx,ns,ps,ts,js,qs,ef,es,af,bU,ax⟩ hj
 replace hj:=(fH _ _ _ _ _ _ _ _ _ _ _ _ _ _).1 hj
 obtain ⟨k,T,a,rfl,j1,j2,j3,j4,j5⟩:=hj
 cbv
 refine ap (fun h1=>?_) (fun h1=>?_)
 ·simp [ht,ah,aL,aR,aM,aT,aF,az,aE] at h1
  cbv
  (refine aK trv (hC T a j4 _ _ _ _ _ _ _ _ _ _ _ (by simp only [ht];exact j3) _ (by simp only [ht];exact j2)) (by simp [ht]) rfl rfl rfl (fun r1 cP=>?_);simp only [ht] at cP)
  cbv
  refine ap (fun h2=>?_) (fun h2=>?_)
  ·simp [ht,ah,aL,aR,aM,aT,aF,az,aE] at h2
   cbv
   refine aA trv trv rfl rfl rfl ?_
   (obtain ⟨m,rfl⟩:∃m,n=m+1:=⟨n-1,(by ((try simp only [ah] at*);omega))⟩;rw [dB,←cP,if_neg (by simp_all)] at j5;simp only [ht,j5];done)
  simp [ht,ah,aL,aR,aM,aT,aF,az,aE] at h2
  cbv
  refine cD (_,_,_,_,_,_,_,_,_,_,_,_,_) (by simp only [ht];rfl) (n-1) ?_ ((fH _ _ _ _ _ _ _ _ _ _ _ _ _ _).2 ?_)
  ·((try simp only [ah] at*);omega)
  simp only [ht,ah]
  (obtain ⟨m,rfl⟩:∃m,n=m+1:=⟨n-1,(by ((try simp only [ah] at*);omega))⟩;rw [dB,if_pos (by rw [←cP];assumption)] at j5;exact ⟨k+1,r1.1,r1.2.1,aH (by ((try simp only [ah] at*);omega)),by ((try simp only [ah] at*);omega),rfl,Told.self r1.1,by rw [cP];exact hP _ _ j4 (by rw [←cP];assumption),by rw [cP];exact j5⟩)
 simp [ht,ah,aL,aR,aM,aT,aF,az,aE] at h1
 cbv
 refine aA trv trv rfl rfl rfl ?_
 (obtain rfl:n=0:=(by ((try simp only [ah] at*);omega));rw [dB] at j5;simp only [ht,j5,j3.r,j3.x,j3.n,j3.p,j3.t,j3.j,j3.q,j3.f,j3.e,j3.g,j3.a];done)
end Dem
end
section
open Go
namespace Dem
theorem HT {s:bg} (h:s.ok) (a:Nat):(bL s a).1.ok:=by
 have h1:=(dw h (aC s (aW s a).1).1).ok
 unfold bL
 split
 ·exact h
 split
 ·exact h
 split
 ·exact h1
 exact h1.wm _ _
theorem tI (s:bg):∀(l:List cj) (k:Nat),(match mA s l k with |(id,at_,ok)=>(ok=true→k≤at_∧∃q,l[at_-k]?=some q∧q.id=id∧de s id=true∧∀i<at_-k,∀p,l[i]?=some p→de s p.id=false)∧
  (ok=false→id=0∧at_=0∧∀p∈l,de s p.id=false))
 |[],k=>by simp [mA]
 |q::r,k=>by
  unfold mA
  by_cases c:de s q.id=true
  ·rw [if_pos c]
   exact ⟨fun _=>⟨Nat.le_refl _,q,by simp,rfl,c,fun i hi=>by omega⟩,fun e=>by cases e⟩
  rw [if_neg c]
  have ih:=tI s r (k+1)
  cases hn:mA s r (k+1) with
  |mk id t=>
   obtain ⟨at_,ok⟩:=t
   rw [hn] at ih
   simp only at ih ⊢
   refine ⟨fun e=>?_,fun e=>?_⟩
   ·obtain ⟨h1,p,h2,h3,h4,h5⟩:=ih.1 e
    refine ⟨by omega,p,?_,h3,h4,fun i hi x hx=>?_⟩
    ·rw [show at_-k=(at_-(k+1))+1 by omega];simpa using h2
    cases i with
    |zero=>simp at hx;subst hx;simpa using c
    |succ i=>exact h5 i (by omega) x (by simpa using hx)
   obtain ⟨h1,h2,h3⟩:=ih.2 e
   refine ⟨h1,h2,fun x hx=>?_⟩
   rcases List.mem_cons.1 hx with rfl|hx
   ·simpa using c
   exact h3 x hx
end Dem
end
