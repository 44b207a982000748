/- Parts of a proof, joined. -/
import Derived.Test.YtihohjnkkalgiaaGreatDoorU09
set_option linter.all false
set_option maxRecDepth 100000
set_option maxHeartbeats 4000000
section
open Go Dem Go.Proofs
namespace Dem
variable {t:Th}
theorem Sb (ht:TT t) {es:List (List D)} (aC:∀r∈es,r.length=1) (hs:es.length*8≤140737488355328) {m:Nat} (hm:m=es.length):
 FC 54 [SL es] [] (.ret (.ow 0 1 m)) [.row 1 es]:=by
 refine cr ht Tryz.func54 (N:=8) ?_
 cbv
 refine ⟨fun b hb=>?_⟩
 simp only [ht] at hb
 cbv
 apply ap<;>intro h
 ·have he:=hb h
  subst he
  cbv
  exact He trv rfl rfl (by rw [hm];rfl) rfl
 clear hb h
 cbv
 refine ⟨?_,?_⟩
 ·simp only [ht];simp;exact ⟨hs,aC⟩
 refine CD trv rfl rfl rfl rfl ?_ ?_
 ·simp only [ht];rw [hm];simp
 simp only [ht];rfl
theorem OR (ht:TT t) {es:List (List D)} (aC:∀r∈es,r.length=1) (hs:es.length*8≤140737488355328):
 FC 54 [SL es] [] (.ret (SL es)) []:=by
 refine cr ht Tryz.func54 (N:=8) ?_
 cbv
 refine ⟨fun b hb=>?_⟩
 simp only [ht] at hb
 cbv
 apply ap<;>intro h
 ·have he:=hb h
  subst he
  cbv
  exact an rfl
 clear hb h
 cbv
 refine ⟨?_,?_⟩
 ·simp only [ht];simp;exact ⟨hs,aC⟩
 refine lQ trv ?_ rfl rfl rfl ?_
 ·simp only [ht];simp
 simp only [ht];rfl
theorem Lh (ht:TT t) {es:List (List D)} {i m c:Nat} (hm:m=es.length) (hi:i<m) (hc:m≤c) (aC:∀r∈es,r.length=1) (hs:m<1000000) {r:List (List D)} (hr:r=es.take i++es.drop (i+1)):
 FC 55 [.vw 0 1 0 m c true,bD (i:Int),bD ((i+1:Nat):Int)] [.row 1 es] (.ret (SL r)) [.dead]:=by
 obtain ⟨i1,hi1⟩:∃i1,i1=i+1:=⟨_,rfl⟩
 rw [←hi1] at hr ⊢
 refine jG ht (bz:=[.row 1 es]) Tryz.func55 rfl rfl (N:=33) rfl rfl (n:=1) rfl rfl ?_
 cbv
 obtain ⟨mi,yB⟩:∃n,n=m-i:=⟨_,rfl⟩
 obtain ⟨Ul,WV⟩:∃n,n=m-i1:=⟨_,rfl⟩
 obtain ⟨xy,Kj⟩:∃n,n=c-i1:=⟨_,rfl⟩
 refine bF (.vw 0 1 i 1 mi true) [.row 1 es] ?_ ?_ rfl ?_
 ·simp [ht,ah,bN];omega
 ·simp [ht,ah,aV,yB,hi1]
 cbv
 refine pX (by simp [ht,hi1];omega) ?_
 cbv
 refine bS [false,false,false,false,false,false,true,true] ?_
 cbv
 refine gI (by simp) (gI (by simp) ?_)
 refine iy (.vw 0 1 0 i c true) (fun _=>⟨?_,?_⟩) ?_
 ·simp [ht,dR,bN];omega
 ·simp [ht,aV,aP]
 cbv
 refine gI (by simp) (gI (by simp) ?_)
 refine iy (.vw 0 1 i1 Ul xy true) (fun _=>⟨?_,?_⟩) ?_
 ·simp [ht,dR,bN];omega
 ·simp [ht,aV,aP,WV,Kj]
 cbv
 obtain ⟨m1,hm1⟩:∃n,n=m-1:=⟨_,rfl⟩
 obtain ⟨cm1,WW⟩:∃n,n=c-m1:=⟨_,rfl⟩
 obtain ⟨R1,Rp⟩:∃R,R=wrote es i (es.drop i1):=⟨_,rfl⟩
 have tk:(es.drop i1).take Ul=es.drop i1:=List.take_of_length_le (by rw [List.length_drop];omega)
 have dl:(es.drop i1).length=Ul:=by rw [List.length_drop];omega
 have xJ:R1.length=m:=by rw [Rp];simp [wrote];omega
 have WX:R1.take m1=r:=by
  rw [Rp,hr]
  unfold wrote
  rw [List.take_append_of_le_length (by simp;omega),List.take_of_length_le (by simp;omega)]
 refine bF (.vw 0 1 0 m1 c true) [.row 1 R1,.bq] ?_ ?_ ?_ ?_
 ·simp only [ht,tk,dl,eR,Nat.zero_add]
  exact ⟨by omega,⟨by omega,fun h=>by rw [h] at hm;simp at hm;omega⟩,by omega,fun r h=>aC r (List.mem_of_mem_drop h)⟩
 ·simp only [ht,tk,dl];rw [show i+Ul=m1 by omega]
 ·simp only [ht,tk,Nat.zero_add,Rp]
 cbv
 refine bF (.vw 0 1 m1 1 cm1 true) [.row 1 R1,.bq] ?_ ?_ rfl ?_
 ·simp [ht,ah,dR,bN];omega
 ·simp [ht,ah,aV,aP,WW];omega
 cbv
 obtain ⟨R2,Rq⟩:∃R,R=wrote R1 m1 (List.replicate 1 [D.int IntKind.u64 0]):=⟨_,rfl⟩
 have Zu:R2.length=m:=by rw [Rq];simp [wrote,xJ];omega
 have WY:R2.take m1=r:=by
  rw [←WX,Rq]
  unfold wrote
  rw [List.append_assoc,List.take_append_of_le_length (by simp [xJ];omega),List.take_take,Nat.min_self]
 refine bF (.ek []) [.row 1 R2,.bq] ?_ rfl ?_ ?_
 ·simp only [ht,eR];exact ⟨by omega,fun h=>by rw [h] at xJ;simp at xJ;omega⟩
 ·simp only [ht,Rq]
 cbv
 refine zw [true] trv ?_ rfl rfl rfl ?_
 ·simp only [ht];omega
 simp only [ht,List.drop_zero,WY]
def Xv (t:Th) (r:List Int×List aH×Bool):AV:=.ek [SL (t _ fun _=>r.1.map Int.cells),SL (t _ fun _=>r.2.1.map bB),BL r.2.2]
theorem wz {l:List Int} {es:List (List D)} (h:es=l.map Int.cells):∀r∈es,r.length=1:=by rw [h];intro r hr;obtain ⟨y,_,rfl⟩:=List.mem_map.1 hr;rfl
theorem Li (ht:TT t) {l:List Int} {es:List (List D)} (aC:es=l.map Int.cells) {i m:Nat} (hm:m=l.length) {z z1:Int} (hz:z=i) (hz1:z1=(i:Int)+1) (hi:i<l.length) (hs:l.length<1000000) {r:List (List D)} (hr:r=(l.eraseIdx i).map Int.cells):
 FC 55 [.ow 0 1 m,bD z,bD z1] [.row 1 es] (.ret (SL r)) [.dead]:=by
 have e1:z1=((i+1:Nat):Int):=by omega
 have hel:es.length=l.length:=by rw [aC,lgM]
 subst hz
 rw [e1]
 refine dX (fun c hc hc0=>Lh ht (es:=es) (i:=i) (by omega) (by omega) hc (wz aC) (by omega) ?_)
 rw [hr,aC,List.eraseIdx_eq_take_drop_succ,List.map_append,List.map_take,List.map_drop]
theorem wA (l:List Int) (k:Nat):iH (l.map Int.cells) none (some (k:Int))=(l.take k).map Int.cells:=by rw [List.map_take];rfl
theorem Lj (ht:TT t) (rd nx ef af:Int) {nl:List Node} {pl:List Place} {tl:List aR} {jl:List Jb} {ql:List bK} {el al:List dc} {ns ps ts js qs es bH:List (List D)} (eE:ns=nl.map Node.cells) (hps:ps=pl.map Place.cells) (hts:ts=tl.map aR.cells) (dM:js=jl.map Jb.cells) (dF:qs=ql.map bK.cells) (aC:es=el.map dc.cells) (has:bH=al.map dc.cells) (id:Int) (OS:FC 18 [.agg [az rd,az nx,SL ns,SL ps,SL ts,SL js,SL qs,az ef,SL es,az af,SL bH],az id] [] (.ret (UQ t (t _ fun _=>cm ⟨rd,nx,⟨nl,pl⟩,tl,jl,ql,⟨ef,el⟩,⟨af,al⟩⟩ id))) []) (hal:(cm ⟨rd,nx,⟨nl,pl⟩,tl,jl,ql,⟨ef,el⟩,⟨af,al⟩⟩ id).length<1000) (hg:∀l,(aT ⟨rd,nx,⟨nl,pl⟩,tl,jl,ql,⟨ef,el⟩,⟨af,al⟩⟩ l).sm):
 FC 19 [.agg [az rd,az nx,SL ns,SL ps,SL ts,SL js,SL qs,az ef,SL es,az af,SL bH],az id] [] (.ret (Xv t (t _ fun _=>aU ⟨rd,nx,⟨nl,pl⟩,tl,jl,ql,⟨ef,el⟩,⟨af,al⟩⟩ id))) []:=by
 obtain ⟨A,hA⟩:∃A,A=cm ⟨rd,nx,⟨nl,pl⟩,tl,jl,ql,⟨ef,el⟩,⟨af,al⟩⟩ id:=⟨_,rfl⟩
 obtain ⟨R,hR⟩:∃R,R=aU ⟨rd,nx,⟨nl,pl⟩,tl,jl,ql,⟨ef,el⟩,⟨af,al⟩⟩ id:=⟨_,rfl⟩
 obtain ⟨F,hF⟩:∃F,F=lp ⟨rd,nx,⟨nl,pl⟩,tl,jl,ql,⟨ef,el⟩,⟨af,al⟩⟩ id A (A.length+1) 0:=⟨_,rfl⟩
 have hRF:(F=none→R=([],[],false))∧∀l nodes,F=some (l,nodes)→R=((gw ⟨rd,nx,⟨nl,pl⟩,tl,jl,ql,⟨ef,el⟩,⟨af,al⟩⟩ id (l.length+1) 0 l nodes).1,(gw ⟨rd,nx,⟨nl,pl⟩,tl,jl,ql,⟨ef,el⟩,⟨af,al⟩⟩ id (l.length+1) 0 l nodes).2,true):=by
  have e:R=rP ⟨rd,nx,⟨nl,pl⟩,tl,jl,ql,⟨ef,el⟩,⟨af,al⟩⟩ id A:=by rw [hR,hA];rfl
  unfold rP at e
  rw [←hF] at e
  exact ⟨fun h=>by rw [h] at e;exact e,fun l nodes h=>by rw [h] at e;exact e⟩
 rw [←hA] at OS hal
 rw [←hR]
 have hT:∀(u:List Int) (us:List (List D)),us=u.map Int.cells→u.length<1000000→FC 52 [SL us,.ptr 0 0,.ptr 1 0] [.var [az rd,az nx,SL ns,SL ps,SL ts,SL js,SL qs,az ef,SL es,az af,SL bH],.var [az id]] (.ret (Iq t (t _ fun _=>gK ⟨rd,nx,⟨nl,pl⟩,tl,jl,ql,⟨ef,el⟩,⟨af,al⟩⟩ id u))) [.var [az rd,az nx,SL ns,SL ps,SL ts,SL js,SL qs,az ef,SL es,az af,SL bH],.var [az id]]:=
  fun u us h1 h2=>Xu ht rd nx ef af eE hps hts dM dF aC has id h1 h2 (fun k=>hg _)
 obtain ⟨T,hTd⟩:∃T:List Int→List aH×Bool,T=gK ⟨rd,nx,⟨nl,pl⟩,tl,jl,ql,⟨ef,el⟩,⟨af,al⟩⟩ id:=⟨_,rfl⟩
 obtain ⟨G,hG⟩:∃G:Nat→Nat→Option (List Int×List aH),G=lp ⟨rd,nx,⟨nl,pl⟩,tl,jl,ql,⟨ef,el⟩,⟨af,al⟩⟩ id A:=⟨_,rfl⟩
 obtain ⟨H,hH⟩:∃H:Nat→Nat→List Int→List aH→List Int×List aH,H=gw ⟨rd,nx,⟨nl,pl⟩,tl,jl,ql,⟨ef,el⟩,⟨af,al⟩⟩ id:=⟨_,rfl⟩
 have hGs:∀n k,G (n+1) k=if (T (A.take k)).2 then some (A.take k,(T (A.take k)).1) else G n (k+1):=by intro n k;rw [hG,hTd];rfl
 have hG0:∀k,G 0 k=none:=by intro k;rw [hG];rfl
 have hHs:∀n k l nodes,H (n+1) k l nodes=if k<l.length then (if (T (l.eraseIdx k)).2 then H n k (l.eraseIdx k) (T (l.eraseIdx k)).1 else H n (k+1) l nodes) else (l,nodes):=by intro n k l nodes;rw [hH,hTd];rfl
 rw [←hG] at hF
 rw [←hH] at hRF
 rw [←hTd] at hT
 clear hG hH hTd hR hA
 refine cr ht Tryz.func19 (N:=62) ?_
 cbv
 have hw:IntKind.i64.wrap ((A.length:Int)+1)=(A.length:Int)+1:=wrap64 (by omega) (by omega)
 obtain ⟨cZ,de,dg,cu,bZ,aF,cw⟩:=fc eE hps hts dM dF aC has
 (refine aD OS (by simp) (fun r1 cM=>?_);simp only [ht] at cM;subst r1)
 cbv
 obtain ⟨J0,dz⟩:∃J0:Nat→List (List D)×List (List D)×Bool×Int→Prop,∀m ls nd ok i,J0 m (ls,nd,ok,i)↔(∃k:Nat,i=k∧k+m=A.length+1∧ok=false∧F=G m k):=⟨fun m v=>match v with|(ls,nd,ok,i)=>(∃k:Nat,i=k∧k+m=A.length+1∧ok=false∧F=G m k),fun _ _ _ _ _=>Iff.rfl⟩
 refine bA ⟨[4,5,6,7,8,20,21],[(4,0),(5,0)],[]⟩ (σ:=List (List D)×List (List D)×Bool×Int) (fun v=>[(4,.d (.sl (t _ fun _=>v.1))),(5,.d (.sl (t _ fun _=>v.2.1))),(6,.d (.bool (t _ fun _=>v.2.2.1))),(21,.d (.int .i64 (t _ fun _=>v.2.2.2)))]) (fun v=>[]) J0 ?_
 cbv
 refine aE ⟨A.length+1,(_,_,_,_),(dz _ _ _ _ _).2 ?_,by simp only [ht];rfl,?_⟩
 ·exact ⟨0,rfl,by simp,rfl,hF⟩
 rintro m ⟨ls,nd,ok,i⟩ hj
 replace hj:=(dz _ _ _ _ _).1 hj
 obtain ⟨k,rfl,j1,rfl,j4⟩:=hj
 cbv
 apply ap<;>intro h1
 ·simp [ht,ah,hw] at h1
  cbv
  refine ⟨?_,?_⟩
  ·(simp only [ht,bN,lgM];refine ⟨by ((try simp only [ah] at*);omega),?_⟩;exact wz rfl)
  cbv
  ((refine L0 trv (OR ht (by simp only [ht,wA];exact wz rfl) (by simp only [ht,wA];simp;omega)) (by simp) rfl rfl rfl ?_))
  cbv
  ((obtain ⟨r,hr⟩:∃r,r=T (A.take k):=⟨_,rfl⟩;have hTk:=hT (A.take k) _ rfl (by simp;omega);rw [←hr] at hTk;rw [show m=(m-1)+1 by ((try simp only [ah] at*);omega),hGs,←hr] at j4;refine dJ [0,1] trv rfl rfl (hT (A.take k) _ (by simp only [ht,wA]) (by simp;omega)) (cA ?_);rw [←hr]))
  cbv
  apply ap<;>intro h2
  ·simp [ht] at h2
   cbv
   apply ap<;>intro h3
   ·simp [ht] at h3
    cbv
    refine an ?_
    (simp only [ht];grind)
   simp [ht] at h3
   cbv
   obtain ⟨J4,HY⟩:∃J4:Nat→List (List D)×List (List D)×Int→Prop,∀m ls nd i,J4 m (ls,nd,i)↔(∃(k2:Nat) (L:List Int) (N:List aH),i=k2∧L.length=k2+m∧ls=L.map Int.cells∧nd=N.map bB∧L.length≤1000∧R=((H (m+1) k2 L N).1,(H (m+1) k2 L N).2,true)):=⟨fun m v=>match v with|(ls,nd,i)=>(∃(k2:Nat) (L:List Int) (N:List aH),i=k2∧L.length=k2+m∧ls=L.map Int.cells∧nd=N.map bB∧L.length≤1000∧R=((H (m+1) k2 L N).1,(H (m+1) k2 L N).2,true)),fun _ _ _ _=>Iff.rfl⟩
   refine bA ⟨[4,5,7,10],[],[]⟩ (σ:=List (List D)×List (List D)×Int) (fun v=>[(4,.d (.sl (t _ fun _=>v.1))),(5,.d (.sl (t _ fun _=>v.2.1))),(10,.d (.int .i64 (t _ fun _=>v.2.2)))]) (fun v=>[]) J4 ?_
   cbv
   refine aE ⟨(A.take k).length,(_,_,_),(HY _ _ _ _).2 ?_,by simp only [ht];rfl,?_⟩
   ·exact ⟨0,A.take k,r.1,rfl,by simp,by simp only [wA],rfl,by simp;omega,hRF.2 _ _ (by rw [j4,if_pos (by simp_all)])⟩
   rintro m ⟨ls,nd,i⟩ hj
   replace hj:=(HY _ _ _ _).1 hj
   obtain ⟨k2,L,N,rfl,i1,i4,i5,i6,i7⟩:=hj
   have xI:ls.length=L.length:=by rw [i4,lgM]
   have ab3:nd.length=N.length:=by rw [i5,lgM]
   cbv
   apply ap<;>intro h5
   ·simp [ht,ah,xI] at h5
    cbv
    ((obtain ⟨n1,Cx⟩:∃n1,n1=L.length:=⟨_,rfl⟩;refine jY trv (Sb ht (m:=n1) (by simp only [ht];exact wz i4) (by simp only [ht];rw [i4];simp;omega) (by simp only [ht];rw [i4];simp [Cx])) (by simp) rfl (.inr rfl) ?_))
    cbv
    (obtain ⟨rd2,Xw⟩:∃r,r=(L.eraseIdx k2).map Int.cells:=⟨_,rfl⟩;refine dJ [2] trv rfl rfl (Li ht (l:=L) (i:=k2) (by simp only [ht];exact i4) Cx (by simp only [ht]) (by simp only [ht];exact aB (by omega)) (by omega) (by omega) Xw) (cA ?_))
    cbv
    ((obtain ⟨r,hr⟩:∃r,r=T (L.eraseIdx k2):=⟨_,rfl⟩;refine dJ [0,1] trv rfl rfl (hT (L.eraseIdx k2) _ Xw (by rw [List.length_eraseIdx];split<;>omega)) (cA ?_);rw [←hr]))
    cbv
    apply ap<;>intro h6
    ·simp [ht] at h6
     cbv
     refine bG (_,_,_) (by simp only [ht];rfl) (m-1) ?_ ((HY _ _ _ _).2 ?_)
     ·omega
     simp only [ah]
     exact ⟨k2+1,L,N,aB (by omega),by omega,i4,i5,i6,(by have e:m-1+1=m:=(by omega);rw [e,i7,hHs,if_pos (by omega),←hr,if_neg (by simp_all)])⟩
    simp [ht] at h6
    cbv
    refine bG (_,_,_) (by simp only [ht];rfl) (m-1) ?_ ((HY _ _ _ _).2 ?_)
    ·omega
    simp only [ah]
    exact ⟨k2,L.eraseIdx k2,r.1,rfl,by rw [List.length_eraseIdx];split<;>omega,Xw,rfl,by rw [List.length_eraseIdx];split<;>omega,(by have e:m-1+1=m:=(by omega);rw [e,i7,hHs,if_pos (by omega),←hr,if_pos (by simp_all)])⟩
   simp [ht,ah,xI] at h5
   cbv
   refine an ?_
   (have e:R=(L,N,true):=(by rw [i7,show m=0 by omega,hHs,if_neg (by omega)]);simp [ht,e,i4,i5];done)
  cbv
  refine bG (_,_,_,_) (by simp only [ht];rfl) (m-1) ?_ ((dz _ _ _ _ _).2 ?_)
  ·((try simp only [ah] at*);omega)
  simp only [ah]
  exact ⟨k+1,aB (by omega),by ((try simp only [ah] at*);omega),by simp_all,by rw [j4,if_neg (by simp_all)]⟩
 cbv
 apply ap<;>intro h7
 ·cbv
  refine an ?_
  (have hm0:m=0:=(by (simp [ht,ah,hw] at h1;omega));subst hm0;have e:=hRF.1 (j4.trans (hG0 _));simp [ht,e];done)
 (exact absurd h7 (by simp [ht]))
theorem D7 {s:aW} (id:Int):(oA s id).1.length<1000000:=by
 unfold oA jP
 split
 ·simp
 split
 ·simp
 exact xM _ _ _ _
theorem uF {s:aW} {id:Int}:∀(n k:Nat) (l:List Int) (nodes:List aH),nodes.length<1000000→(gw s id n k l nodes).1.length≤l.length∧(gw s id n k l nodes).2.length<1000000
 |0,_,_,_,h=>⟨Nat.le_refl _,h⟩
 |n+1,k,l,nodes,h=>by
  rw [gw]
  split
  ·split
   ·have:=uF (s:=s) (id:=id) n k (l.eraseIdx k) (gK s id (l.eraseIdx k)).1 (D7 id)
    have h2:(l.eraseIdx k).length≤l.length:=by rw [List.length_eraseIdx];split<;>omega
    exact ⟨by omega,this.2⟩
   exact uF n (k+1) l nodes h
  exact ⟨Nat.le_refl _,h⟩
theorem Cg {s:aW} {id:Int} {all:List Int}:∀(n k:Nat) (l:List Int) (nodes:List aH),lp s id all n k=some (l,nodes)→l.length≤all.length∧nodes.length<1000000
 |0,_,_,_,h=>by cases h
 |n+1,k,l,nodes,h=>by
  rw [lp] at h
  split at h
  ·cases h;exact ⟨by simp;omega,D7 id⟩
  exact Cg n (k+1) l nodes h
theorem IN (ht:TT t) (s:aW) (h:s.sm):FC 36 [ff t s] [] (.ret (cU (t _ fun _=>kL s))) []:=
 KY ht _ _ _ _ (by simp only [ht]) (by simp only [ht]) (by simp only [ht]) (by simp only [ht]) (by simp only [ht]) (by simp only [ht]) (by simp only [ht]) h
end Dem
end
section
open Go
namespace Dem
def cK (s:aW):List Int:=(s.av.filter (·.runs)).map (·.id)
def zj (s:aW) (k:Nat):aW:={s with av:=s.av.set k {s.av.getD k Jb.zero with left:=(s.av.getD k Jb.zero).left-1}}
def cI (s:aW) (id:Int):aW:=match s.av.findIdx? (fun j=>decide (j.id=id)) with
 |none=>s
 |some k=>if (s.av.getD k Jb.zero).left-1≤0 then (send (zj s k) id 3).1 else zj s k
def dL (s:aW):aW:=(cK s).foldl cI {s with round:=u64 (s.round+1)}
def mP (s:aW):List bK→Nat→Int×Nat×Bool
 |[],_=>(0,0,false)
 |q::r,k=>if dK s q.id then (q.id,k,true) else mP s r (k+1)
def bg (s:aW) (behind:Nat):Int×Nat×Bool:=mP s (s.queue.drop behind) behind
def cL (s:aW) (at_:Nat):aW×Nat×Bool:=
 if !(bg s at_).2.2 then (s,at_,false) else
 if !(aU s (bg s at_).1).2.2 then (s,at_,false) else
 if (cJ (aT s (aU s (bg s at_).1).1) (bg s at_).1 (aU s (bg s at_).1).2.1).2≠0 then (aT s (aU s (bg s at_).1).1,at_,false) else
 ((cJ (aT s (aU s (bg s at_).1).1) (bg s at_).1 (aU s (bg s at_).1).2.1).1,(bg s at_).2.1,true)
def eL:Nat→aW→Nat→aW
 |0,s,_=>s
 |n+1,s,a=>if (cL s a).2.2 then eL n (cL s a).1 (cL s a).2.1 else (cL s a).1
def Ch (s:aW):aW:=eL 128 s 0
def qb (s:aW):aW:=Ch (dL s)
abbrev Jb.to (j:Jb) (z:Int):Jb:={j with left:=z}
theorem US (k:Nat) (p:aH) (j:Jb) (z:Int):fZ k p (j.to z)=fZ k p j:=rfl
theorem UT {s:aW} (h:s.ok) {i:Nat} {j:Jb} (hj:s.av[i]?=some j) (hr:j.runs=true) {z:Int} (hz:1≤z∧z≤j.x.eZ):aW.ok {s with av:=s.av.set i (j.to z)}:=by
 have hm:=List.mem_of_getElem? hj
 have hmem:∀{y:Jb},y∈s.av.set i (j.to z)↔y=j.to z∨(y∈s.av∧y.id≠j.id):=By h.ids hj
 have vb:∀y∈s.av.set i (j.to z),∃o∈s.av,o.id=y.id∧o.x=y.x∧o.runs=y.runs:=by
  intro y hy
  rcases hmem.1 hy with rfl|⟨g,_⟩
  ·exact ⟨j,hm,rfl,rfl,rfl⟩
  exact ⟨y,g,rfl,rfl,rfl⟩
 have ZW:∀o∈s.av,∃y∈s.av.set i (j.to z),y.id=o.id∧y.x=o.x∧y.runs=o.runs:=by
  intro o ho
  by_cases e:o.id=j.id
  ·have:=dh h.ids ho hm e;subst this
   exact ⟨o.to z,hmem.2 (.inl rfl),rfl,rfl,rfl⟩
  exact ⟨o,hmem.2 (.inr ⟨ho,e⟩),rfl,rfl,rfl⟩
 refine {aY:=h.aY,ie:=h.ie,tree:=h.tree,used:=?_,most:=by simpa using h.most,next:=h.next,ids:=vS h.ids hj rfl,vU:=?_,sN:=?_,left:=?_,kC:=h.kC,kY:=h.kY,iP:=?_,places:=?_,count:=?_,notes:=h.notes}
 ·intro e he k hk
  have:=vT k e.path (j.to z) hj
  have e2:=US k e.path j z
  rw [h.used e he k hk]
  show _=iq k e.path (s.av.set i (j.to z))
  omega
 ·intro y hy
  obtain ⟨o,ho,e1,_⟩:=vb y hy
  rw [←e1];exact h.vU o ho
 ·intro y hy
  obtain ⟨o,ho,_,e2,_⟩:=vb y hy
  rw [←e2];exact h.sN o ho
 ·intro y hy
  rcases hmem.1 hy with rfl|⟨g,_⟩
  ·exact ⟨fun _=>hz,fun c=>by rw [show (j.to z).runs=j.runs from rfl,hr] at c;cases c⟩
  exact h.left y g
 ·intro q
  rw [h.iP q]
  constructor
  ·rintro ⟨o,ho,c,rfl⟩
   obtain ⟨y,hy,e1,e2,e3⟩:=ZW o ho
   exact ⟨y,hy,by rw [e3,c],by rw [e1,e2]⟩
  rintro ⟨y,hy,c,rfl⟩
  obtain ⟨o,ho,e1,e2,e3⟩:=vb y hy
  exact ⟨o,ho,by rw [e3,c],by rw [e1,e2]⟩
 ·intro x hx
  obtain ⟨o,ho,c1,c2,c3⟩:=h.places x hx
  obtain ⟨y,hy,e1,e2,e3⟩:=ZW o ho
  exact ⟨y,hy,by rw [e3,c1],by rw [e1,c2],by rw [e2];exact c3⟩
 intro y hy c
 obtain ⟨o,ho,e1,e2,e3⟩:=vb y hy
 have:=h.count o ho (by rw [e3,c])
 rw [←e1,←e2];exact this
theorem ME {s:aW} (h:s.ok) {i:Nat} {j:Jb} (hj:s.av[i]?=some j) (z kind:Int):send {s with av:=s.av.set i (j.to z)} j.id kind=send s j.id kind:=by
 obtain ⟨h1,h2,_⟩:=gx h.ids hj
 have hi:=(List.getElem?_eq_some_iff.1 hj).1
 have e1:(s.av.set i (j.to z)).findIdx? (fun x=>decide (x.id=j.id))=some i:=by
  have:=(gx (vS h.ids hj (x:=j.to z) rfl) (i:=i) (j:=j.to z) (by rw [List.getElem?_set,if_pos rfl,if_pos hi])).1
  exact this
 have e2:(s.av.set i (j.to z)).getD i Jb.zero=j.to z:=by rw [List.getD_eq_getElem?_getD,List.getElem?_set,if_pos rfl,if_pos hi];rfl
 have e3:(s.av.set i (j.to z)).eraseIdx i=s.av.eraseIdx i:=by
  refine List.ext_getElem? fun k=>?_
  rw [List.getElem?_eraseIdx,List.getElem?_eraseIdx]
  split
  ·rw [List.getElem?_set,if_neg (by omega)]
  rw [List.getElem?_set,if_neg (by omega)]
 unfold send
 simp only
 rw [e1,h1]
 simp only
 rw [e2,h2,e3]
 cases hr:j.runs<;>rfl
theorem rU {s:aW} (h:s.ok) {i:Nat} {j:Jb} (hj:s.av[i]?=some j) (hr:j.runs=true):
 (cI s j.id).ok∧(cI s j.id).queue=s.queue∧(cI s j.id).round=s.round∧
  (cI s j.id).av=if j.left=1 then s.av.eraseIdx i else s.av.set i (j.to (j.left-1)):=by
 obtain ⟨h1,h2,_⟩:=gx h.ids hj
 have hl:=(h.left j (List.mem_of_getElem? hj)).1 hr
 have e:zj s i={s with av:=s.av.set i (j.to (j.left-1))}:=by unfold zj;rw [h2]
 unfold cI
 rw [h1]
 simp only
 rw [h2,e]
 by_cases c:j.left=1
 ·rw [if_pos (by omega),if_pos c,ME h hj]
  obtain ⟨_,_,g⟩:=zR h hj 3
  obtain ⟨T,_,g2⟩:=g hr
  refine ⟨h.end_ _ _,?_⟩
  rw [g2]
  exact ⟨rfl,rfl,rfl⟩
 rw [if_neg (by omega),if_neg c]
 exact ⟨UT h hj hr (by omega),rfl,rfl,rfl⟩
def cnt (L:List Int) (j:Jb):Option Jb:=if j.runs=true∧j.id∈L then (if j.left=1 then none else some (j.to (j.left-1))) else some j
theorem D8 {p:Jb→Bool} {f:Jb→Option Jb}:∀l:List Jb,(∀y∈l,f y=if p y=true then some y else none)→l.filterMap f=l.filter p
 |[],_=>rfl
 |x::r,h=>by
  have h1:=h x (by simp)
  have h2:=D8 r fun y hy=>h y (by simp [hy])
  rw [List.filterMap_cons,List.filter_cons,h1,h2]
  cases p x<;>rfl
theorem Sc {g:Jb→Jb} {f:Jb→Option Jb}:∀l:List Jb,(∀y∈l,f y=some (g y))→l.filterMap f=l.map g
 |[],_=>rfl
 |x::r,h=>by
  rw [List.filterMap_cons,h x (by simp),Sc r fun y hy=>h y (by simp [hy])];rfl
theorem UU {l:List Jb} (ha:tc l) {i:Nat} {j:Jb} (hj:l[i]?=some j) (x:Jb):l.set i x=l.map fun y=>if y.id=j.id then x else y:=by
 refine List.ext_getElem? fun k=>?_
 rw [List.getElem?_set,List.getElem?_map]
 by_cases c:i=k
 ·subst c
  rw [if_pos rfl,if_pos (List.getElem?_eq_some_iff.1 hj).1,hj];simp
 rw [if_neg c]
 cases hk:l[k]? with
 |none=>rfl
 |some y=>
  have:y.id≠j.id:=fun e=>c (vR ha hj hk e.symm)
  simp [this]
theorem Ci {s:aW} (h:s.ok) {i:Nat} {j:Jb} (hj:s.av[i]?=some j) (hr:j.runs=true):(cI s j.id).av=s.av.filterMap (cnt [j.id]):=by
 rw [(rU h hj hr).2.2.2]
 have hm:=List.mem_of_getElem? hj
 by_cases c:j.left=1
 ·rw [if_pos c,QE h.ids hj]
  refine (D8 _ fun y hy=>?_).symm
  unfold cnt
  by_cases e:y.id=j.id
  ·have:=dh h.ids hy hm e;subst this
   simp [hr,c]
  simp [e]
 rw [if_neg c,UU h.ids hj]
 refine (Sc _ fun y hy=>?_).symm
 unfold cnt
 by_cases e:y.id=j.id
 ·have:=dh h.ids hy hm e;subst this
  simp [hr,c]
 simp [e]
theorem UW {id:Int} {R:List Int} (hn:id ∉ R) (j:Jb):(cnt [id] j).bind (cnt R)=cnt (id::R) j:=by
 unfold cnt
 by_cases h1:j.runs=true∧j.id=id
 ·obtain ⟨h1,rfl⟩:=h1
  by_cases h2:j.left=1
  ·simp [h1,h2]
  simp [h1,h2,hn]
 by_cases h3:j.runs=true
 ·have h4:j.id≠id:=fun e=>h1 ⟨h3,e⟩
  simp [h3,h4]
 simp [h3]
theorem rV:∀(R:List Int) {t:aW},t.ok→R.Nodup→(∀id∈R,∃j∈t.av,j.id=id∧j.runs=true)→
 (R.foldl cI t).ok∧(R.foldl cI t).queue=t.queue∧(R.foldl cI t).round=t.round∧(R.foldl cI t).av=t.av.filterMap (cnt R)
 |[],t,h,_,_=>⟨h,rfl,rfl,by rw [show cnt []=some from funext fun j=>by simp [cnt],List.filterMap_some];rfl⟩
 |id::R,t,h,hn,hj=>by
  obtain ⟨Cx,hn2⟩:=List.nodup_cons.1 hn
  obtain ⟨j,hm,rfl,hr⟩:=hj id (by simp)
  obtain ⟨i,hi⟩:=List.getElem?_of_mem hm
  obtain ⟨c1,c2,c3,_⟩:=rU h hi hr
  have c4:=Ci h hi hr
  have hj2:∀x∈R,∃o∈(cI t j.id).av,o.id=x∧o.runs=true:=by
   intro x hx
   obtain ⟨o,ho,rfl,CQ⟩:=hj x (by simp [hx])
   have hne:o.id≠j.id:=fun e=>Cx (by rw [←e];exact hx)
   refine ⟨o,?_,rfl,CQ⟩
   rw [c4,List.mem_filterMap]
   exact ⟨o,ho,by unfold cnt;rw [if_neg (by simp [hne])]⟩
  obtain ⟨g1,g2,g3,g4⟩:=rV R c1 hn2 hj2
  refine ⟨g1,by rw [List.foldl_cons,g2,c2],by rw [List.foldl_cons,g3,c3],?_⟩
  rw [List.foldl_cons,g4,c4,List.filterMap_filterMap]
  exact congrArg (fun f=>t.av.filterMap f) (funext fun j=>UW Cx j)
def zD (j:Jb):Option Jb:=if j.runs=true then (if j.left=1 then none else some (j.to (j.left-1))) else some j
theorem iT {s:aW} (h:s.ok):(dL s).ok∧(dL s).queue=s.queue∧(dL s).round=u64 (s.round+1)∧(dL s).av=s.av.filterMap zD:=by
 have h':aW.ok {s with round:=u64 (s.round+1)}:={aY:=h.aY,ie:=h.ie,tree:=h.tree,used:=h.used,most:=h.most,next:=h.next,ids:=h.ids,vU:=h.vU,sN:=h.sN,left:=h.left,kC:=h.kC,kY:=h.kY,iP:=h.iP,places:=h.places,count:=h.count,notes:=h.notes}
 have hn:(cK s).Nodup:=by
  unfold cK
  rw [List.nodup_iff_pairwise_ne,List.pairwise_map]
  exact (h.ids.filter _).imp fun {a b} g=>by omega
 have hj:∀id∈cK s,∃j∈s.av,j.id=id∧j.runs=true:=by
  intro id hid
  obtain ⟨j,hj,e⟩:=List.mem_map.1 hid
  obtain ⟨h1,h2⟩:=List.mem_filter.1 hj
  exact ⟨j,h1,e,h2⟩
 obtain ⟨g1,g2,g3,g4⟩:=rV (cK s) h' hn hj
 refine ⟨g1,g2,g3,?_⟩
 unfold dL
 rw [g4]
 have:∀l:List Jb,(∀y∈l,y∈s.av)→l.filterMap (cnt (cK s))=l.filterMap zD:=by
  intro l
  induction l with
  |nil=>intro _;rfl
  |cons x r ih=>
   intro hl
   have e:cnt (cK s) x=zD x:=by
    unfold cnt zD
    by_cases c:x.runs=true
    ·have:x.id∈cK s:=List.mem_map_of_mem (List.mem_filter.2 ⟨hl x (by simp),c⟩)
     simp [c,this]
    simp [c]
   rw [List.filterMap_cons,List.filterMap_cons,e,ih fun y hy=>hl y (by simp [hy])]
 exact this s.av fun y hy=>hy
end Dem
end
section
open Go Dem Go.Proofs
namespace Dem
variable {t:Th}
theorem UX {l:List Jb} {q:Nat} {x:Jb} (hx:l[q]?=some x) (h:x.runs=true):((l.take (q+1)).filter (·.runs)).map (·.id)=((l.take q).filter (·.runs)).map (·.id)++[x.id]:=by rw [cV hx,List.filter_append];simp [h]
theorem Xx {l:List Jb} {q:Nat} {x:Jb} (hx:l[q]?=some x) (h:x.runs=false):((l.take (q+1)).filter (·.runs)).map (·.id)=((l.take q).filter (·.runs)).map (·.id):=by rw [cV hx,List.filter_append];simp [h]
theorem Ll (ht:TT t) (rd nx ef af:Int) {nl:List Node} {pl:List Place} {tl:List aR} {jl:List Jb} {ql:List bK} {el al:List dc} {ns ps ts js qs es bH:List (List D)} (eE:ns=nl.map Node.cells) (hps:ps=pl.map Place.cells) (hts:ts=tl.map aR.cells) (dM:js=jl.map Jb.cells) (dF:qs=ql.map bK.cells) (aC:es=el.map dc.cells) (has:bH=al.map dc.cells) (hjl:jl.length<1000000):FC 69 [.agg [az rd,az nx,SL ns,SL ps,SL ts,SL js,SL qs,az ef,SL es,az af,SL bH]] [] (.ret (UQ t (t _ fun _=>cK ⟨rd,nx,⟨nl,pl⟩,tl,jl,ql,⟨ef,el⟩,⟨af,al⟩⟩))) []:=by
 refine cr ht Tryz.func69 (N:=22) ?_
 cbv
 obtain ⟨cZ,de,dg,cu,bZ,aF,cw⟩:=fc eE hps hts dM dF aC has
 obtain ⟨J0,dz⟩:∃J0:Nat→List (List D)×Int→Prop,∀n u i,J0 n (u,i)↔(∃q:Nat,i=q∧q+n=jl.length∧u=(((jl.take q).filter (·.runs)).map (·.id)).map Int.cells):=⟨fun n v=>match v with|(u,i)=>(∃q:Nat,i=q∧q+n=jl.length∧u=(((jl.take q).filter (·.runs)).map (·.id)).map Int.cells),fun _ _ _=>Iff.rfl⟩
 refine bA ⟨[3,7,8,9],[(3,1)],[]⟩ (σ:=List (List D)×Int) (fun v=>[(3,.ow 0 1 (t _ fun _=>(v.1).length)),(9,.d (.int .i64 (t _ fun _=>v.2)))]) (fun v=>[(0,.row 1 (t _ fun _=>v.1))]) J0 ?_
 cbv
 refine aE ⟨jl.length,([],_),(dz _ _ _).2 ?_,by simp only [ht];rfl,?_⟩
 ·exact ⟨0,rfl,by simp,rfl⟩
 rintro n ⟨u,i⟩ hj
 replace hj:=(dz _ _ _).1 hj
 obtain ⟨q,rfl,j1,j4⟩:=hj
 cbv
 apply ap<;>intro h1
 ·simp [ht,ah,cu] at h1
  cbv
  (refine ig ht dM (cT:=Jb.aS t) (by simp only [ht,ah];omega) (by simp only [ht,ah];omega) (fun _=>rfl) (fun _=>by simp only [Jb.cells,Jb.aS,ht]) (fun x mx=>?_);simp [ht,ah] at mx)
  cbv
  apply ap<;>intro h2
  ·cbv
   refine ⟨?_,?_⟩
   ·(have h9:=Y8 (l:=((jl.take q).filter (·.runs)).map (·.id)) (cells:=Int.cells) (u:=u) (row:=[D.int .u64 x.id]) (sz:=1) (b:=8) j4 (fun _=>rfl) rfl (by have:=List.length_filter_le (fun y:Jb=>y.runs) (jl.take q);simp at this ⊢;omega) (by decide);simp only [ht];exact ⟨trv,h9.2⟩)
   cbv
   refine bG (_,_) (by simp only [ht,←List.length_append];rfl) (n-1) ?_ ((dz _ _ _).2 ?_)
   ·omega
   simp only [ah]
   exact ⟨q+1,aB (by omega),by omega,by rw [j4,UX mx (by simpa using h2)];simp [Int.cells]⟩
  cbv
  refine bG (_,_) (by simp only [ht];rfl) (n-1) ?_ ((dz _ _ _).2 ?_)
  ·omega
  simp only [ah]
  exact ⟨q+1,aB (by omega),by omega,by rw [j4,Xx mx (by simpa using h2)]⟩
 simp [ht,ah,cu] at h1
 cbv
 refine lQ trv (by simp [ht]) rfl rfl rfl ?_
 (rw [List.take_of_length_le (by omega)] at j4;simp only [ht,cK,j4];done)
def jR (s:aW) (l:List Int):aW:=l.foldl cI s
theorem uG {s:aW} {l:List Int} {k:Nat} {x:Int} (h:l[k]?=some x):jR s (l.take (k+1))=cI (jR s (l.take k)) x:=by
 unfold jR;rw [cV h,List.foldl_append];rfl
theorem Sd {s:aW} (h:s.sm) {i:Nat} {x:Jb} (hx:s.av[i]?=some x) (z:Int):∀y∈s.av.set i {x with left:=z},y.x.gB.u'∧y.x.path.length<1000000000000:=fun y hy=>by
 rcases List.mem_or_eq_of_mem_set hy with g|rfl
 ·exact uE h y g
 exact uE h x (List.mem_of_getElem? hx)
theorem Told.ab4 {s:aW} {rd nx ef af:Int} {ns ps ts js js' qs es bH:List (List D)} {J:List Jb} (h:Told s rd nx ns ps ts js qs ef es af bH) (hj:js'=J.map Jb.cells):Told {s with av:=J} rd nx ns ps ts js' qs ef es af bH:=
 ⟨h.r,h.x,h.n,h.p,h.t,hj,h.q,h.f,h.e,h.g,h.a⟩
theorem Told.eqJ {s:aW} {rd nx ef af:Int} {ns ps ts js qs es bH:List (List D)} (h:Told s rd nx ns ps ts js qs ef es af bH) (J:List Jb):(⟨rd,nx,⟨s.aY.nodes,s.aY.places⟩,s.tree,J,s.queue,⟨ef,s.ev.l⟩,⟨af,s.au.l⟩⟩:aW)={s with av:=J}:=by
 rw [h.r,h.x,h.f,h.g]
theorem IP {l:List Jb} {i:Nat} {x:Jb} (hx:l[i]?=some x) (z:Int):(l.map Jb.cells).set i (be ((l.map Jb.cells).getD i []) 11 [.int .i64 z])=(l.set i {x with left:=z}).map Jb.cells:=by
 obtain ⟨h,e⟩:=List.getElem?_eq_some_iff.1 hx
 rw [List.map_set];congr 1
 simp [h,e,be,Jb.cells]
theorem OU {s:aW} {id:Int} (h:s.av.findIdx? (fun j=>decide (j.id=id))=none):cI s id=s:=by unfold cI;rw [h]
theorem Se {s:aW} {id:Int} {i:Nat} {x:Jb} (h:s.av.findIdx? (fun j=>decide (j.id=id))=some i) (hd:s.av.getD i Jb.zero=x) (hl:x.left-1≤0):cI s id=(send {s with av:=s.av.set i {x with left:=x.left-1}} id 3).1:=by
 unfold cI;rw [h];simp only;rw [hd,if_pos hl];unfold zj;rw [hd]
theorem OV {s:aW} {id:Int} {i:Nat} {x:Jb} (h:s.av.findIdx? (fun j=>decide (j.id=id))=some i) (hd:s.av.getD i Jb.zero=x) (hl:0<x.left-1):cI s id={s with av:=s.av.set i {x with left:=x.left-1}}:=by
 unfold cI;rw [h];simp only;rw [hd,if_neg (by omega)];unfold zj;rw [hd]
theorem Xy (ht:TT t) (id i n k l a b c d:Int) (p:aH) (sr:List (List D)) (rn:Bool) (lf:Int):FC 71 [.agg [az i,ST p,az a,az b,az c,az d,bD n,bD k,bD l,SL sr,BL rn,bD lf],.ptr 0 0] [.var [az id]] (.ret (BL (decide (i=id)))) [.var [az id]]:=by
 refine jG ht (bz:=[.var [az id]]) Tryz.func71 rfl rfl (N:=8) rfl rfl (n:=1) rfl rfl ?_
 cbv
 refine an ?_
 simp [ht]
theorem Sf (ht:TT t) (rd nx ef af:Int) {nl:List Node} {pl:List Place} {tl:List aR} {jl:List Jb} {ql:List bK} {el al:List dc} {ns ps ts js qs es bH:List (List D)} (eE:ns=nl.map Node.cells) (hps:ps=pl.map Place.cells) (hts:ts=tl.map aR.cells) (dM:js=jl.map Jb.cells) (dF:qs=ql.map bK.cells) (aC:es=el.map dc.cells) (has:bH=al.map dc.cells) (hrl:jl.length<1000000) (hg:∀k,(jR {(⟨rd,nx,⟨nl,pl⟩,tl,jl,ql,⟨ef,el⟩,⟨af,al⟩⟩:aW) with round:=u64 (rd+1)} ((cK ⟨rd,nx,⟨nl,pl⟩,tl,jl,ql,⟨ef,el⟩,⟨af,al⟩⟩).take k)).sm) (hf:∀k,∀x∈(jR {(⟨rd,nx,⟨nl,pl⟩,tl,jl,ql,⟨ef,el⟩,⟨af,al⟩⟩:aW) with round:=u64 (rd+1)} ((cK ⟨rd,nx,⟨nl,pl⟩,tl,jl,ql,⟨ef,el⟩,⟨af,al⟩⟩).take k)).av,0≤x.left∧x.left<9223372036854775808):
 FC 29 [.agg [az rd,az nx,SL ns,SL ps,SL ts,SL js,SL qs,az ef,SL es,az af,SL bH]] [] (.ret (ff t (t _ fun _=>dL ⟨rd,nx,⟨nl,pl⟩,tl,jl,ql,⟨ef,el⟩,⟨af,al⟩⟩))) []:=by
 obtain ⟨R,hR⟩:∃R,R=cK ⟨rd,nx,⟨nl,pl⟩,tl,jl,ql,⟨ef,el⟩,⟨af,al⟩⟩:=⟨_,rfl⟩
 obtain ⟨S,hS⟩:∃S:aW,S={(⟨rd,nx,⟨nl,pl⟩,tl,jl,ql,⟨ef,el⟩,⟨af,al⟩⟩:aW) with round:=u64 (rd+1)}:=⟨_,rfl⟩
 have hE:dL ⟨rd,nx,⟨nl,pl⟩,tl,jl,ql,⟨ef,el⟩,⟨af,al⟩⟩=jR S R:=by rw [hR,hS];rfl
 have hRl:R.length<1000000:=by rw [hR];unfold cK;rw [lgM];have:=List.length_filter_le (fun y:Jb=>y.runs) jl;exact Nat.lt_of_le_of_lt this hrl
 have hRz:∀z:Int,cK {(⟨rd,nx,⟨nl,pl⟩,tl,jl,ql,⟨ef,el⟩,⟨af,al⟩⟩:aW) with round:=z}=R:=fun z=>by rw [hR];rfl
 rw [←hS,←hR] at hg hf
 have wo:Told S (u64 (rd+1)) nx ns ps ts js qs ef es af bH:=by rw [hS];exact ⟨rfl,rfl,eE,hps,hts,dM,dF,rfl,aC,rfl,has⟩
 rw [hE]
 clear hS hE hR
 refine cr ht Tryz.func29 (N:=51) ?_
 cbv
 obtain ⟨cZ,de,dg,cu,bZ,aF,cw⟩:=fc eE hps hts dM dF aC has
 refine aD (Ll ht _ _ _ _ ‹_› ‹_› ‹_› ‹_› ‹_› ‹_› ‹_› ‹_›) trv (fun r0 cN=>?_)
 simp only [ht] at cN
 (replace cN:=(cN).trans (hRz _);subst r0)
 cbv
 obtain ⟨J1,mR⟩:∃J1:Nat→Int×Int×Int×List (List D)×List (List D)×List (List D)×List (List D)×List (List D)×Int×List (List D)×Int×List (List D)→Prop,∀n i rd nx ns ps ts js qs ef es af bH,J1 n (i,rd,nx,ns,ps,ts,js,qs,ef,es,af,bH)↔(∃k:Nat,i=k∧k+n=R.length∧Told (jR S (R.take k)) rd nx ns ps ts js qs ef es af bH):=⟨fun n v=>match v with|(i,rd,nx,ns,ps,ts,js,qs,ef,es,af,bH)=>(∃k:Nat,i=k∧k+n=R.length∧Told (jR S (R.take k)) rd nx ns ps ts js qs ef es af bH),fun _ _ _ _ _ _ _ _ _ _ _ _ _=>Iff.rfl⟩
 refine bA ⟨[1,2,11,12,13],[],[(0,5,0)]⟩ (σ:=Int×Int×Int×List (List D)×List (List D)×List (List D)×List (List D)×List (List D)×Int×List (List D)×Int×List (List D)) (fun v=>[(13,.d (.int .i64 (t _ fun _=>v.1)))]) (fun v=>[(0,.var [.d (.int .u64 (t _ fun _=>v.2.1)),.d (.int .u64 (t _ fun _=>v.2.2.1)),.d (.sl (t _ fun _=>v.2.2.2.1)),.d (.sl (t _ fun _=>v.2.2.2.2.1)),.d (.sl (t _ fun _=>v.2.2.2.2.2.1)),.d (.sl (t _ fun _=>v.2.2.2.2.2.2.1)),.d (.sl (t _ fun _=>v.2.2.2.2.2.2.2.1)),.d (.int .u64 (t _ fun _=>v.2.2.2.2.2.2.2.2.1)),.d (.sl (t _ fun _=>v.2.2.2.2.2.2.2.2.2.1)),.d (.int .u64 (t _ fun _=>v.2.2.2.2.2.2.2.2.2.2.1)),.d (.sl (t _ fun _=>v.2.2.2.2.2.2.2.2.2.2.2))])]) J1 ?_
 cbv
 refine aE ⟨R.length,(_,_,_,_,_,_,_,_,_,_,_,_),(mR _ _ _ _ _ _ _ _ _ _ _ _ _).2 ?_,by simp only [ht];rfl,?_⟩
 ·exact ⟨0,rfl,by simp,wo⟩
 rintro n ⟨i,rd,nx,ns,ps,ts,js,qs,ef,es,af,bH⟩ hj
 replace hj:=(mR _ _ _ _ _ _ _ _ _ _ _ _ _).1 hj
 obtain ⟨k,rfl,j1,jT⟩:=hj
 cbv
 apply ap<;>intro h2
 ·simp [ht,ah] at h2
  cbv
  (refine ig ht (l:=R) (cells:=Int.cells) (cT:=Int.aS t) (by simp only [ht]<;>rfl) (by simp only [ht,ah];omega) (by simp only [ht,ah];omega) (fun _=>rfl) (fun _=>rfl) (fun x2 gX=>?_);simp [ht,ah] at gX)
  cbv
  (obtain ⟨r9,gD⟩:∃r,r=EW (jR S (R.take k)).av x2:=⟨_,rfl⟩;refine dJ [2] trv rfl rfl (H9 ht x2 (l:=(jR S (R.take k)).av) (by simp only [ht];exact jT.j) 71 (fun x=>decide (x.id=x2)) (by have:=(hg k).av.1;omega) (fun x _=>Xy ht x2 _ _ _ _ _ _ _ _ _ _ _ _) gD) (cA ?_);have ec:=Fq gD (P:=fun _=>True) (fun _ _=>trivial);rcases ec with ⟨e1,e2⟩|⟨i,xi,xa,xb,xc,xd,xn,xp,xt,xf,xq,xr,xl,e1,e2,e3,e4,e5,_,e8⟩)
  ·cbv
   apply ap<;>intro h3
   ·simp [ht] at h3
    cbv
    refine bG (_,_,_,_,_,_,_,_,_,_,_,_) (by simp only [ht];rfl) (n-1) ?_ ((mR _ _ _ _ _ _ _ _ _ _ _ _ _).2 ?_)
    ·omega
    simp only [ah]
    exact ⟨k+1,aB (by omega),by omega,by rw [uG gX,OU e2];exact jT⟩
   simp [ht] at h3
   omega
  cbv
  apply ap<;>intro h4
  ·simp [ht] at h4
   (simp only [ah] at*;omega)
  simp [ht] at h4
  cbv
  (refine jY trv (nw ht (l:=(jR S (R.take k)).av) (by simp only [ht];exact jT.j) (by have:=(hg k).av.1;omega)) trv rfl (.inr rfl) ?_)
  cbv
  refine ⟨?_,?_⟩
  ·(obtain ⟨_,e9⟩:=List.getElem?_eq_some_iff.1 e3;simp [ht,ah,e1,e2];done)
  cbv
  ((refine ZU (l:=(jR S (R.take k)).av) (cells:=Jb.cells) rfl (Jb.aS t) (fun _=>by simp only [Jb.cells,Jb.aS,ht]) i e2 (by simp only [ht,ah,e1,Int.toNat_natCast]) (fun h=>by simp only [ht,ah,e1,Int.toNat_natCast];exact h) (fun x mx=>?_);rw [e3] at mx;cases mx))
  cbv
  refine ⟨?_,?_⟩
  ·(obtain ⟨_,e9⟩:=List.getElem?_eq_some_iff.1 e3;simp [ht,ah,e1,e2];done)
  refine ⟨?_,?_⟩
  ·(obtain ⟨_,e9⟩:=List.getElem?_eq_some_iff.1 e3;simp [ht,ah,e1,e2,e9,Jb.cells];done)
  refine ⟨?_,?_⟩
  ·(obtain ⟨_,e9⟩:=List.getElem?_eq_some_iff.1 e3;simp [ht,ah,e1,e2];done)
  cbv
  ((obtain ⟨z9,ZX⟩:∃z,z=IntKind.i64.wrap (xf-1):=⟨_,rfl⟩;refine Qi (Jb.aS t ⟨xi,⟨xq,⟨xa,xb,xc,xd⟩,xn,xp,xt,xl⟩,xr,z9⟩) (by simp only [ht,ah,e1,Int.toNat_natCast,List.length_set,lgM];exact e2) (by obtain ⟨_,e9⟩:=List.getElem?_eq_some_iff.1 e3;simp [ht,ah,e1,e2,e9,ZX,be,Jb.cells,Jb.aS]) ?_))
  cbv
  apply ap<;>intro h5
  ·simp [ht] at h5
   cbv
   (have qi:=hg k;have hz8:z9=xf-1:=(by have h8:=hf k _ (List.mem_of_getElem? e3);simp only at h8;rw [ZX];exact wrap64 (by omega) (by omega));refine JO (E:=Mn t) trv rfl (by simp [ht]) (by exact cR [] rfl rfl rfl rfl (Rs ht _ _ _ _ (nl:=(jR S (R.take k)).aY.nodes) (pl:=(jR S (R.take k)).aY.places) (tl:=(jR S (R.take k)).tree) (jl:=(jR S (R.take k)).av.set i ⟨xi,⟨xq,⟨xa,xb,xc,xd⟩,xn,xp,xt,xl⟩,xr,xf-1⟩) (ql:=(jR S (R.take k)).queue) (el:=(jR S (R.take k)).ev.l) (al:=(jR S (R.take k)).au.l) (by simp only [ht];exact jT.n) (by simp only [ht];exact jT.p) (by simp only [ht];exact jT.t) (by simp only [ht,ah,e1,Int.toNat_natCast];rw [←ZX,hz8];exact IP e3 _) (by simp only [ht];exact jT.q) (by simp only [ht];exact jT.e) (by simp only [ht];exact jT.a) x2 3 (Sd qi e3 _) qi.tree.1 (by rw [List.length_set];exact qi.av.1) qi.places qi.queue qi.notes.1)) (fun r1 cM=>?_);simp only [ht] at cM;rw [jT.eqJ] at cM)
   cbv
   refine bG (_,_,_,_,_,_,_,_,_,_,_,_) (by simp only [ht];rfl) (n-1) ?_ ((mR _ _ _ _ _ _ _ _ _ _ _ _ _).2 ?_)
   ·omega
   simp only [ah]
   exact ⟨k+1,aB (by omega),by omega,by rw [uG gX,Se e4 e5 (by simp only;omega),←cM];exact Told.self r1.1⟩
  simp [ht] at h5
  cbv
  refine ⟨?_,?_⟩
  ·(exact ⟨⟨by simp [ht]⟩,trv⟩)
  cbv
  refine bG (_,_,_,_,_,_,_,_,_,_,_,_) (by simp only [ht];rfl) (n-1) ?_ ((mR _ _ _ _ _ _ _ _ _ _ _ _ _).2 ?_)
  ·omega
  simp only [ah]
  (have h8:=hf k _ (List.mem_of_getElem? e3);simp only at h8;have hz8:z9=xf-1:=(by rw [ZX];exact wrap64 (by omega) (by omega));simp only [ah] at e1;exact ⟨k+1,aB (by omega),by omega,by rw [uG gX,OV e4 e5 (by simp only;omega)];exact jT.ab4 (by simp only [e1,Int.toNat_natCast];rw [←ZX,hz8];exact IP e3 _)⟩)
 simp [ht,ah] at h2
 cbv
 refine an ?_
 (rw [List.take_of_length_le (by omega)] at jT;simp only [ht,jT.r,jT.x,jT.n,jT.p,jT.t,jT.j,jT.q,jT.f,jT.e,jT.g,jT.a];done)
def Xz (t:Th) (r:Int×Nat×Bool):AV:=.ek [az r.1,bD (t _ fun _=>(r.2.1:Int)),BL r.2.2]
theorem MF (ht:TT t) (rd nx ef af:Int) {nl:List Node} {pl:List Place} {tl:List aR} {jl:List Jb} {ql:List bK} {el al:List dc} {ns ps ts js qs es bH:List (List D)} (eE:ns=nl.map Node.cells) (hps:ps=pl.map Place.cells) (hts:ts=tl.map aR.cells) (dM:js=jl.map Jb.cells) (dF:qs=ql.map bK.cells) (aC:es=el.map dc.cells) (has:bH=al.map dc.cells) (hC:∀id,FC 23 [.agg [az rd,az nx,SL ns,SL ps,SL ts,SL js,SL qs,az ef,SL es,az af,SL bH],az id] [] (.ret (cU (t _ fun _=>dK ⟨rd,nx,⟨nl,pl⟩,tl,jl,ql,⟨ef,el⟩,⟨af,al⟩⟩ id))) []) (Um:ql.length<1000000) (b:Nat) {bb:Int} (hb:bb=b) (uI:b<1000000):
 FC 28 [.agg [az rd,az nx,SL ns,SL ps,SL ts,SL js,SL qs,az ef,SL es,az af,SL bH],bD bb] [] (.ret (Xz t (t _ fun _=>bg ⟨rd,nx,⟨nl,pl⟩,tl,jl,ql,⟨ef,el⟩,⟨af,al⟩⟩ b))) []:=by
 obtain ⟨S,hS⟩:∃S:aW,S=⟨rd,nx,⟨nl,pl⟩,tl,jl,ql,⟨ef,el⟩,⟨af,al⟩⟩:=⟨_,rfl⟩
 rw [←hS] at hC ⊢
 have hE:bg S b=mP S (ql.drop b) b:=by rw [hS];rfl
 rw [hE]
 clear hS hE
 refine cr ht Tryz.func28 (N:=32) ?_
 cbv
 obtain ⟨cZ,de,dg,cu,bZ,aF,cw⟩:=fc eE hps hts dM dF aC has
 obtain ⟨J0,dz⟩:∃J0:Nat→Int→Prop,∀n kk,J0 n kk↔(∃k:Nat,kk=k∧k+n=max b ql.length∧mP S (ql.drop b) b=mP S (ql.drop k) k):=⟨fun n v=>match v with|kk=>(∃k:Nat,kk=k∧k+n=max b ql.length∧mP S (ql.drop b) b=mP S (ql.drop k) k),fun _ _=>Iff.rfl⟩
 refine bA ⟨[2,7],[],[]⟩ (σ:=Int) (fun v=>[(7,.d (.int .i64 (t _ fun _=>v)))]) (fun v=>[]) J0 ?_
 cbv
 refine aE ⟨(max b ql.length-b),_,(dz _ _).2 ?_,rfl,?_⟩
 ·exact ⟨b,by ((try simp only [ah] at*);omega),by omega,rfl⟩
 rintro n kk hj
 replace hj:=(dz _ _).1 hj
 obtain ⟨k,rfl,j1,j2⟩:=hj
 cbv
 apply ap<;>intro h1
 ·simp [ht,ah,bZ] at h1
  cbv
  refine bS [false,false,false,false,false,false,false,true] ?_
  cbv
  iterate 4 refine gI (by simp) ?_
  ((refine ig ht dF (cT:=bK.aS t) (by simp only [ht,ah];omega) (by simp only [ht,ah];omega) (fun _=>rfl) (fun _=>rfl) (fun x mx=>?_);simp [ht,ah] at mx))
  cbv
  iterate 2 refine gI (by simp) ?_
  (refine aG (hC _) (by simp) (fun r1 cM=>?_);simp only [ht] at cM)
  cbv
  apply ap<;>intro h2
  ·cbv
   ((refine zx ht dF (cT:=bK.aS t) mx (by simp only [ht]) (fun _=>rfl) (fun _=>rfl) ?_))
   cbv
   refine an ?_
   (rw [cM] at h2;simp only [ht,j2,eI mx,mP];rw [if_pos h2];done)
  cbv
  refine bG _ (by simp only [ht];rfl) (n-1) ?_ ((dz _ _).2 ?_)
  ·omega
  simp only [ah]
  exact ⟨k+1,aB (by omega),by omega,by rw [j2,eI mx,mP,if_neg (by simp_all)]⟩
 simp [ht,ah,bZ] at h1
 cbv
 refine an ?_
 (simp only [ht,j2];rw [List.drop_eq_nil_of_le (by omega)];rfl)
def XA (t:Th) (r:aW×Nat×Bool):AV:=.ek [.agg [az r.1.round,az r.1.next,SL (t _ fun _=>r.1.aY.nodes.map Node.cells),SL (t _ fun _=>r.1.aY.places.map Place.cells),SL (t _ fun _=>r.1.tree.map aR.cells),SL (t _ fun _=>r.1.av.map Jb.cells),SL (t _ fun _=>r.1.queue.map bK.cells),az r.1.ev.first,SL (t _ fun _=>r.1.ev.l.map dc.cells),az r.1.au.first,SL (t _ fun _=>r.1.au.l.map dc.cells),bD (t _ fun _=>(r.2.1:Int))],BL r.2.2]
theorem Sg (ht:TT t) (rd nx ef af:Int) {nl:List Node} {pl:List Place} {tl:List aR} {jl:List Jb} {ql:List bK} {el al:List dc} {ns ps ts js qs es bH:List (List D)} (eE:ns=nl.map Node.cells) (hps:ps=pl.map Place.cells) (hts:ts=tl.map aR.cells) (dM:js=jl.map Jb.cells) (dF:qs=ql.map bK.cells) (aC:es=el.map dc.cells) (has:bH=al.map dc.cells) (a:Nat) {aa:Int} (SB:aa=a) {w:Int×Nat×Bool} (hw:w=bg ⟨rd,nx,⟨nl,pl⟩,tl,jl,ql,⟨ef,el⟩,⟨af,al⟩⟩ a) {vi:List Int×List aH×Bool} (hv:w.2.2=true→vi=aU ⟨rd,nx,⟨nl,pl⟩,tl,jl,ql,⟨ef,el⟩,⟨af,al⟩⟩ w.1)
 (hN:FC 28 [.agg [az rd,az nx,SL ns,SL ps,SL ts,SL js,SL qs,az ef,SL es,az af,SL bH],bD aa] [] (.ret (Xz t (t _ fun _=>w))) []) (hV:w.2.2=true→FC 19 [.agg [az rd,az nx,SL ns,SL ps,SL ts,SL js,SL qs,az ef,SL es,az af,SL bH],az w.1] [] (.ret (Xv t (t _ fun _=>vi))) [])
 (hvl:vi.1.length<1000000∧vi.2.1.length<1000000) (hg:∀k,(aT ⟨rd,nx,⟨nl,pl⟩,tl,jl,ql,⟨ef,el⟩,⟨af,al⟩⟩ (vi.1.take k)).sm):
 FC 72 [.agg [az rd,az nx,SL ns,SL ps,SL ts,SL js,SL qs,az ef,SL es,az af,SL bH,bD aa]] [] (.ret (XA t (t _ fun _=>cL ⟨rd,nx,⟨nl,pl⟩,tl,jl,ql,⟨ef,el⟩,⟨af,al⟩⟩ a))) []:=by
 obtain ⟨S,hS⟩:∃S:aW,S=⟨rd,nx,⟨nl,pl⟩,tl,jl,ql,⟨ef,el⟩,⟨af,al⟩⟩:=⟨_,rfl⟩
 rw [←hS] at hg hw hv ⊢
 have wo:Told S rd nx ns ps ts js qs ef es af bH:=by rw [hS];exact ⟨rfl,rfl,eE,hps,hts,dM,dF,rfl,aC,rfl,has⟩
 obtain ⟨R,hR⟩:∃R,R=cL S a:=⟨_,rfl⟩
 have r1:w.2.2=false→R=(S,a,false):=by intro h;rw [hR];unfold cL;rw [←hw,h];rfl
 have r2:w.2.2=true→vi.2.2=false→R=(S,a,false):=by intro h h2;rw [hR];unfold cL;rw [←hw,h,←hv h,h2];rfl
 have r3:w.2.2=true→vi.2.2=true→(cJ (aT S vi.1) w.1 vi.2.1).2≠0→R=(aT S vi.1,a,false):=by intro h h2 h3;rw [hR];unfold cL;rw [←hw,h,←hv h,h2];simp only [Bool.not_true,Bool.false_eq_true,if_false];rw [if_pos h3]
 have r4:w.2.2=true→vi.2.2=true→(cJ (aT S vi.1) w.1 vi.2.1).2=0→R=((cJ (aT S vi.1) w.1 vi.2.1).1,w.2.1,true):=by intro h h2 h3;rw [hR];unfold cL;rw [←hw,h,←hv h,h2];simp only [Bool.not_true,Bool.false_eq_true,if_false];rw [if_neg (by simp [h3])]
 rw [←hR]
 clear hS hR hw hv
 refine cr ht Tryz.func72 (N:=65) ?_
 cbv
 obtain ⟨cZ,de,dg,cu,bZ,aF,cw⟩:=fc eE hps hts dM dF aC has
 (refine aD hN (by simp) (fun r9 gD=>?_);simp only [ht] at gD;subst r9)
 cbv
 apply ap<;>intro h0
 ·simp [ht] at h0
  cbv
  refine an ?_
  (simp only [ht,r1 (by simp_all),wo.r,wo.x,wo.n,wo.p,wo.t,wo.j,wo.q,wo.f,wo.e,wo.g,wo.a,SB];done)
 simp [ht] at h0
 cbv
 (refine aD (hV ‹_›) (by simp) (fun q2 eq2=>?_);simp only [ht] at eq2;subst q2)
 cbv
 apply ap<;>intro h1
 ·simp [ht] at h1
  cbv
  refine an ?_
  (simp only [ht,r2 ‹_› (by simp_all),wo.r,wo.x,wo.n,wo.p,wo.t,wo.j,wo.q,wo.f,wo.e,wo.g,wo.a,SB];done)
 simp [ht] at h1
 cbv
 obtain ⟨J2,zC⟩:∃J2:Nat→Int×Int×Int×List (List D)×List (List D)×List (List D)×List (List D)×List (List D)×Int×List (List D)×Int×List (List D)×Int→Prop,∀n i rd nx ns ps ts js qs ef es af bH ax,J2 n (i,rd,nx,ns,ps,ts,js,qs,ef,es,af,bH,ax)↔(∃k:Nat,i=k∧k+n=vi.1.length∧ax=aa∧Told (aT S (vi.1.take k)) rd nx ns ps ts js qs ef es af bH):=⟨fun n v=>match v with|(i,rd,nx,ns,ps,ts,js,qs,ef,es,af,bH,ax)=>(∃k:Nat,i=k∧k+n=vi.1.length∧ax=aa∧Told (aT S (vi.1.take k)) rd nx ns ps ts js qs ef es af bH),fun _ _ _ _ _ _ _ _ _ _ _ _ _ _=>Iff.rfl⟩
 refine bA ⟨[1,2,4,5,8,36,37,38],[],[]⟩ (σ:=Int×Int×Int×List (List D)×List (List D)×List (List D)×List (List D)×List (List D)×Int×List (List D)×Int×List (List D)×Int) (fun v=>[(38,.d (.int .i64 (t _ fun _=>v.1)))]) (fun v=>[(0,.var [.d (.int .u64 (t _ fun _=>v.2.1)),.d (.int .u64 (t _ fun _=>v.2.2.1)),.d (.sl (t _ fun _=>v.2.2.2.1)),.d (.sl (t _ fun _=>v.2.2.2.2.1)),.d (.sl (t _ fun _=>v.2.2.2.2.2.1)),.d (.sl (t _ fun _=>v.2.2.2.2.2.2.1)),.d (.sl (t _ fun _=>v.2.2.2.2.2.2.2.1)),.d (.int .u64 (t _ fun _=>v.2.2.2.2.2.2.2.2.1)),.d (.sl (t _ fun _=>v.2.2.2.2.2.2.2.2.2.1)),.d (.int .u64 (t _ fun _=>v.2.2.2.2.2.2.2.2.2.2.1)),.d (.sl (t _ fun _=>v.2.2.2.2.2.2.2.2.2.2.2.1)),.d (.int .i64 (t _ fun _=>v.2.2.2.2.2.2.2.2.2.2.2.2))])]) J2 ?_
 cbv
 refine aE ⟨vi.1.length,(_,_,_,_,_,_,_,_,_,_,_,_,_),(zC _ _ _ _ _ _ _ _ _ _ _ _ _ _).2 ?_,by simp only [ht];rfl,?_⟩
 ·exact ⟨0,rfl,by simp,rfl,wo⟩
 rintro n ⟨i,rd,nx,ns,ps,ts,js,qs,ef,es,af,bH,ax⟩ hj
 replace hj:=(zC _ _ _ _ _ _ _ _ _ _ _ _ _ _).1 hj
 obtain ⟨k,rfl,j1,jx,jT⟩:=hj
 cbv
 apply ap<;>intro h3
 ·simp [ht,ah] at h3
  cbv
  (refine ig ht (l:=vi.1) (cells:=Int.cells) (cT:=Int.aS t) (by simp only [ht]<;>rfl) (by simp only [ht,ah];omega) (by simp only [ht,ah];omega) (fun _=>rfl) (fun _=>rfl) (fun x2 gX=>?_);simp [ht,ah] at gX)
  cbv
  (have qi:=hg k;refine aD (Fs ht _ _ _ _ (nl:=(aT S (vi.1.take k)).aY.nodes) (pl:=(aT S (vi.1.take k)).aY.places) (tl:=(aT S (vi.1.take k)).tree) (jl:=(aT S (vi.1.take k)).av) (ql:=(aT S (vi.1.take k)).queue) (el:=(aT S (vi.1.take k)).ev.l) (al:=(aT S (vi.1.take k)).au.l) (by simp only [ht];exact jT.n) (by simp only [ht];exact jT.p) (by simp only [ht];exact jT.t) (by simp only [ht];exact jT.j) (by simp only [ht];exact jT.q) (by simp only [ht];exact jT.e) (by simp only [ht];exact jT.a) _ _ (uE qi) qi.tree.1 qi.av.1 qi.places qi.queue qi.notes.1) (by simp) (fun r1 cM=>?_);simp only [ht] at cM;rw [jT.eq] at cM)
  cbv
  refine bG (_,_,_,_,_,_,_,_,_,_,_,_,_) (by simp only [ht];rfl) (n-1) ?_ ((zC _ _ _ _ _ _ _ _ _ _ _ _ _ _).2 ?_)
  ·omega
  simp only [ah]
  exact ⟨k+1,aB (by omega),by omega,jx,by rw [tJ gX,←cM];exact Told.self r1.1⟩
 simp [ht,ah] at h3
 cbv
 (have qi:=hg k;rw [List.take_of_length_le (by omega)] at jT qi;refine aD (wm ht _ _ _ _ (nl:=(aT S vi.1).aY.nodes) (pl:=(aT S vi.1).aY.places) (tl:=(aT S vi.1).tree) (jl:=(aT S vi.1).av) (ql:=(aT S vi.1).queue) (el:=(aT S vi.1).ev.l) (al:=(aT S vi.1).au.l) (by simp only [ht];exact jT.n) (by simp only [ht];exact jT.p) (by simp only [ht];exact jT.t) (by simp only [ht];exact jT.j) (by simp only [ht];exact jT.q) (by simp only [ht];exact jT.e) (by simp only [ht];exact jT.a) w.1 (names:=vi.2.1) (by simp only [ht]) (uE qi) qi.tree.1 qi.av.1 qi.nodes.1 qi.places qi.queue qi.notes.1 hvl.2) (by simp) (fun b eb=>?_);simp only [ht] at eb;rw [jT.eq] at eb;rw [←eb] at r3 r4)
 cbv
 apply ap<;>intro h4
 ·simp [ht] at h4
  cbv
  refine an ?_
  (simp only [ht,r3 ‹_› ‹_› ‹_›,jT.r,jT.x,jT.n,jT.p,jT.t,jT.j,jT.q,jT.f,jT.e,jT.g,jT.a,jx,SB];done)
 simp [ht] at h4
 cbv
 refine an ?_
 (simp only [ht,r4 ‹_› ‹_› ‹_›];done)
theorem OW (ht:TT t) (rd nx ef af:Int) {nl:List Node} {pl:List Place} {tl:List aR} {jl:List Jb} {ql:List bK} {el al:List dc} {ns ps ts js qs es bH:List (List D)} (eE:ns=nl.map Node.cells) (hps:ps=pl.map Place.cells) (hts:ts=tl.map aR.cells) (dM:js=jl.map Jb.cells) (dF:qs=ql.map bK.cells) (aC:es=el.map dc.cells) (has:bH=al.map dc.cells) (P:aW→Nat→Prop) (h0:P ⟨rd,nx,⟨nl,pl⟩,tl,jl,ql,⟨ef,el⟩,⟨af,al⟩⟩ 0) (hP:∀T a,P T a→(cL T a).2.2=true→P (cL T a).1 (cL T a).2.1)
 (hC:∀T a,P T a→∀rd nx ns ps ts js qs ef es af bH,Told T rd nx ns ps ts js qs ef es af bH→∀aa:Int,aa=a→FC 72 [.agg [az rd,az nx,SL ns,SL ps,SL ts,SL js,SL qs,az ef,SL es,az af,SL bH,bD aa]] [] (.ret (XA t (t _ fun _=>cL T a))) []):
 FC 30 [.agg [az rd,az nx,SL ns,SL ps,SL ts,SL js,SL qs,az ef,SL es,az af,SL bH]] [] (.ret (ff t (t _ fun _=>Ch ⟨rd,nx,⟨nl,pl⟩,tl,jl,ql,⟨ef,el⟩,⟨af,al⟩⟩))) []:=by
 obtain ⟨S,hS⟩:∃S:aW,S=⟨rd,nx,⟨nl,pl⟩,tl,jl,ql,⟨ef,el⟩,⟨af,al⟩⟩:=⟨_,rfl⟩
 have wo:Told S rd nx ns ps ts js qs ef es af bH:=by rw [hS];exact ⟨rfl,rfl,eE,hps,hts,dM,dF,rfl,aC,rfl,has⟩
 rw [←hS] at h0 ⊢
 obtain ⟨R,hR⟩:∃R,R=Ch S:=⟨_,rfl⟩
 have hR0:R=eL 128 S 0:=hR
 rw [←hR]
 clear hS hR
 refine cr ht Tryz.func30 (N:=23) ?_
 cbv
 obtain ⟨cZ,de,dg,cu,bZ,aF,cw⟩:=fc eE hps hts dM dF aC has
 obtain ⟨J0,dz⟩:∃J0:Nat→Int×Int×Int×List (List D)×List (List D)×List (List D)×List (List D)×List (List D)×Int×List (List D)×Int×List (List D)×Int→Prop,∀n i rd nx ns ps ts js qs ef es af bH ax,J0 n (i,rd,nx,ns,ps,ts,js,qs,ef,es,af,bH,ax)↔(∃(k:Nat) (T:aW) (a:Nat),i=k∧k+n=128∧ax=a∧Told T rd nx ns ps ts js qs ef es af bH∧P T a∧R=eL n T a):=⟨fun n v=>match v with|(i,rd,nx,ns,ps,ts,js,qs,ef,es,af,bH,ax)=>(∃(k:Nat) (T:aW) (a:Nat),i=k∧k+n=128∧ax=a∧Told T rd nx ns ps ts js qs ef es af bH∧P T a∧R=eL n T a),fun _ _ _ _ _ _ _ _ _ _ _ _ _ _=>Iff.rfl⟩
 refine bA ⟨[2,3,4,9],[],[]⟩ (σ:=Int×Int×Int×List (List D)×List (List D)×List (List D)×List (List D)×List (List D)×Int×List (List D)×Int×List (List D)×Int) (fun v=>[(9,.d (.int .i64 (t _ fun _=>v.1)))]) (fun v=>[(1,.var [.d (.int .u64 (t _ fun _=>v.2.1)),.d (.int .u64 (t _ fun _=>v.2.2.1)),.d (.sl (t _ fun _=>v.2.2.2.1)),.d (.sl (t _ fun _=>v.2.2.2.2.1)),.d (.sl (t _ fun _=>v.2.2.2.2.2.1)),.d (.sl (t _ fun _=>v.2.2.2.2.2.2.1)),.d (.sl (t _ fun _=>v.2.2.2.2.2.2.2.1)),.d (.int .u64 (t _ fun _=>v.2.2.2.2.2.2.2.2.1)),.d (.sl (t _ fun _=>v.2.2.2.2.2.2.2.2.2.1)),.d (.int .u64 (t _ fun _=>v.2.2.2.2.2.2.2.2.2.2.1)),.d (.sl (t _ fun _=>v.2.2.2.2.2.2.2.2.2.2.2.1)),.d (.int .i64 (t _ fun _=>v.2.2.2.2.2.2.2.2.2.2.2.2))])]) J0 ?_
 cbv
 refine aE ⟨128,(_,_,_,_,_,_,_,_,_,_,_,_,_),(dz _ _ _ _ _ _ _ _ _ _ _ _ _ _).2 ?_,by simp only [ht];rfl,?_⟩
 ·exact ⟨0,S,0,rfl,rfl,rfl,wo,h0,hR0⟩
 rintro n ⟨i,rd,nx,ns,ps,ts,js,qs,ef,es,af,bH,ax⟩ hj
 replace hj:=(dz _ _ _ _ _ _ _ _ _ _ _ _ _ _).1 hj
 obtain ⟨k,T,a,rfl,j1,j2,j3,j4,j5⟩:=hj
 cbv
 apply ap<;>intro h1
 ·simp [ht,ah] at h1
  cbv
  (refine aD (hC T a j4 _ _ _ _ _ _ _ _ _ _ _ (by simp only [ht];exact j3) _ (by simp only [ht];exact j2)) (by simp) (fun r1 cM=>?_);simp only [ht] at cM)
  cbv
  apply ap<;>intro h2
  ·simp [ht] at h2
   cbv
   refine an ?_
   (obtain ⟨m,rfl⟩:∃m,n=m+1:=⟨n-1,(by ((try simp only [ah] at*);omega))⟩;rw [eL,←cM,if_neg (by simp_all)] at j5;simp only [ht,j5];done)
  simp [ht] at h2
  cbv
  refine bG (_,_,_,_,_,_,_,_,_,_,_,_,_) (by simp only [ht];rfl) (n-1) ?_ ((dz _ _ _ _ _ _ _ _ _ _ _ _ _ _).2 ?_)
  ·((try simp only [ah] at*);omega)
  simp only [ah]
  (obtain ⟨m,rfl⟩:∃m,n=m+1:=⟨n-1,(by ((try simp only [ah] at*);omega))⟩;rw [eL,if_pos (by rw [←cM];assumption)] at j5;exact ⟨k+1,r1.1,r1.2.1,aB (by omega),by omega,rfl,Told.self r1.1,by rw [cM];exact hP _ _ j4 (by rw [←cM];assumption),by rw [cM];exact j5⟩)
 simp [ht,ah] at h1
 cbv
 refine an ?_
 (obtain rfl:n=0:=(by ((try simp only [ah] at*);omega));rw [eL] at j5;simp only [ht,j5,j3.r,j3.x,j3.n,j3.p,j3.t,j3.j,j3.q,j3.f,j3.e,j3.g,j3.a];done)
end Dem
end
section
open Go
namespace Dem
theorem Sh {s:aW} (h:s.ok) (a:Nat):(cL s a).1.ok:=by
 have h1:=(fJ h (aU s (bg s a).1).1).ok
 unfold cL
 split
 ·exact h
 split
 ·exact h
 split
 ·exact h1
 exact h1.Ki _ _
theorem uH (s:aW):∀(l:List bK) (k:Nat),(match mP s l k with|(id,at_,ok)=>(ok=true→k≤at_∧∃q,l[at_-k]?=some q∧q.id=id∧dK s id=true∧∀i<at_-k,∀p,l[i]?=some p→dK s p.id=false)∧
 (ok=false→id=0∧at_=0∧∀p∈l,dK s p.id=false))
 |[],k=>by simp [mP]
 |q::r,k=>by
  unfold mP
  by_cases c:dK s q.id=true
  ·rw [if_pos c]
   exact ⟨fun _=>⟨Nat.le_refl _,q,by simp,rfl,c,fun i hi=>by omega⟩,fun e=>by cases e⟩
  rw [if_neg c]
  have ih:=uH s r (k+1)
  cases hn:mP s r (k+1) with
  |mk id t=>
   obtain ⟨at_,ok⟩:=t
   rw [hn] at ih
   simp only at ih ⊢
   refine ⟨fun e=>?_,fun e=>?_⟩
   ·obtain ⟨h1,p,h2,h3,h4,h5⟩:=ih.1 e
    refine ⟨by omega,p,?_,h3,h4,fun i hi x hx=>?_⟩
    ·rw [show at_-k=(at_-(k+1))+1 by omega];simpa using h2
    cases i with
    |zero=>simp at hx;subst hx;simpa using c
    |succ i=>exact h5 i (by omega) x (by simpa using hx)
   obtain ⟨h1,h2,h3⟩:=ih.2 e
   refine ⟨h1,h2,fun x hx=>?_⟩
   rcases List.mem_cons.1 hx with rfl|hx
   ·simpa using c
   exact h3 x hx
theorem Lm {t u:List aR} (h:bW t u):tH u=tH t:=by
 refine List.ext_getElem? fun i=>?_
 unfold tH
 rw [List.getElem?_map,List.getElem?_map]
 cases hi:t[i]? with
 |none=>rw [List.getElem?_eq_none_iff] at hi;rw [List.getElem?_eq_none_iff.2 (by rw [h.len];exact hi)]
 |some e=>
  obtain ⟨x,h1,h2,h3⟩:=h.at_ i e hi
  rw [h1]
  cases x;cases e;simp_all
theorem D9 {s:aW} (h:s.ok) {j:Jb} (hj:j∈s.av) (hr:j.runs=false):fG s j.id=(j,true):=by
 obtain ⟨i,hi⟩:=List.getElem?_of_mem hj
 unfold fG
 rw [(gx h.ids hi).2.2]
 simp [hr]
theorem pS {s t:aW} (h:s.ok) (h':t.ok) (hn:t.aY.nodes=s.aY.nodes) (hk:bW s.tree t.tree) {j o:Jb} (hj:j∈s.av) (hr:j.runs=false) (ho:o∈t.av) (CQ:o.runs=false) (e:o.id=j.id) (ex:o.x=j.x):
 dK t j.id=dK s j.id:=by
 have a:=D9 h hj hr
 have b:=D9 h' ho CQ
 rw [e] at b
 unfold dK jP uB
 rw [a,b,hn,Lm hk]
 simp only
 rw [ex]
theorem xU {s:aW} (h:s.ok) {a:Nat} (e:(cL s a).2.2=true):
 (bg s a).2.2=true∧(aU s (bg s a).1).2.2=true∧(cL s a).2.1=(bg s a).2.1∧(cL s a).1.ok∧(cL s a).1.aY.nodes=s.aY.nodes∧bW s.tree (cL s a).1.tree∧
 ∃(i:Nat) (j:Jb),s.av[i]?=some j∧j.id=(bg s a).1∧j.runs=false∧(cL s a).1.av=(s.av.map (c5 (aU s (bg s a).1).1)).set i j.begun:=by
 have hok:=Sh h a
 have g:=fJ h (aU s (bg s a).1).1
 unfold cL at e hok ⊢
 cases c1:(bg s a).2.2 with
 |false=>rw [c1] at e;cases e
 |true=>
  rw [c1] at e hok
  rw [show (!true)=false from rfl,if_neg (by decide)] at e hok ⊢
  cases c2:(aU s (bg s a).1).2.2 with
  |false=>rw [c2] at e;cases e
  |true=>
   rw [c2] at e hok
   rw [show (!true)=false from rfl,if_neg (by decide)] at e hok ⊢
   by_cases c3:(cJ (aT s (aU s (bg s a).1).1) (bg s a).1 (aU s (bg s a).1).2.1).2=0
   ·rw [if_neg (by simp [c3])] at e hok ⊢
    refine ⟨rfl,rfl,rfl,hok,?_⟩
    obtain ⟨i,j,T,b1,b2,b3,_,b5,b6⟩:=xH g.ok c3
    rw [b6]
    refine ⟨g.nodes,g.tree.trans b5,i,?_⟩
    rw [g.av,List.getElem?_map] at b1
    cases hi:s.av[i]? with
    |none=>rw [hi] at b1;cases b1
    |some o=>
     rw [hi] at b1
     simp only [Option.map_some,osI] at b1
     have hc:dK s (bg s a).1=true:=by
      have:=uH s (s.queue.drop a) a
      rw [show mP s (s.queue.drop a) a=bg s a from rfl] at this
      exact (this.1 c1).2.choose_spec.2.2.1
     have hw:(fG s (bg s a).1).2=true:=by
      cases hx:(fG s (bg s a).1).2 with
      |true=>rfl
      |false=>unfold dK jP at hc;rw [hx] at hc;exact (show False from Bool.noConfusion hc).elim
     have hid:o.id=(bg s a).1:=by rw [←b2,←b1,(ct _ o).1]
     have CQ:o.runs=false:=by
      unfold fG at hw
      rw [←hid,(gx h.ids hi).2.2] at hw
      simpa using hw
     have:c5 (aU s (bg s a).1).1 o=o:=by unfold c5;rw [if_neg (by simp [CQ])]
     rw [this] at b1
     subst b1
     exact ⟨o,rfl,hid,CQ,by rw [←g.av];rfl⟩
   rw [if_pos c3] at e;cases e
theorem Si (q:bK):∀{L:List bK},zA L→L=L.filter (fun x=>bO x q)++L.filter (fun x=>!bO x q)
 |[],_=>rfl
 |x::r,h=>by
  have h1:=List.pairwise_cons.1 h
  have ih:=Si q h1.2
  cases hx:bO x q with
  |true=>
   rw [List.filter_cons,List.filter_cons,hx]
   simpa using ih
  |false=>
   have hn:∀y∈r,bO y q=false:=by
    intro y hy
    cases c:bO y q with
    |false=>rfl
    |true=>rw [vO (h1.1 y hy) c] at hx;cases hx
   have e1:r.filter (fun x=>bO x q)=[]:=List.filter_eq_nil_iff.2 fun y hy=>by simp [hn y hy]
   have e2:r.filter (fun x=>!bO x q)=r:=List.filter_eq_self.2 fun y hy=>by simp [hn y hy]
   rw [List.filter_cons,List.filter_cons,hx,e1,e2];rfl
def rW (s:aW) (a:Nat):Prop:=∀k<a,∀p,s.queue[k]?=some p→dK s p.id=false
theorem Cj (s:aW) (a:Nat):((bg s a).2.2=true→a≤(bg s a).2.1∧∃q,s.queue[(bg s a).2.1]?=some q∧q.id=(bg s a).1∧dK s (bg s a).1=true∧∀k,a≤k→k<(bg s a).2.1→∀p,s.queue[k]?=some p→dK s p.id=false)∧
 ((bg s a).2.2=false→∀k,a≤k→∀p,s.queue[k]?=some p→dK s p.id=false):=by
 unfold bg
 obtain ⟨h1,h2⟩:=uH s (s.queue.drop a) a
 generalize mP s (s.queue.drop a) a=w at h1 h2 ⊢
 obtain ⟨w1,w2,w3⟩:=w
 simp only at h1 h2 ⊢
 refine ⟨fun e=>?_,fun e k hk p hp=>?_⟩
 ·obtain ⟨g1,q,g2,g3,g4,g5⟩:=h1 e
  refine ⟨g1,q,?_,g3,g4,fun k hk hk2 p hp=>g5 (k-a) (by omega) p ?_⟩
  ·rw [List.getElem?_drop] at g2;rwa [show a+(w2-a)=w2 by omega] at g2
  rw [List.getElem?_drop,show a+(k-a)=k by omega];exact hp
 refine (h2 e).2.2 p (List.mem_of_getElem? (i:=k-a) ?_)
 rw [List.getElem?_drop,show a+(k-a)=k by omega];exact hp
theorem rX {a b:bK} (h:bO a b=true) (g:bO b a=true):False:=by
 rw [iO] at h g;omega
theorem zk {s:aW} (h:s.ok) {a:Nat} (hn:rW s a) (e:(cL s a).2.2=true):rW (cL s a).1 (cL s a).2.1:=by
 obtain ⟨c1,c2,c3,hok,FA,hkeep,i,j,hi,hid,hr,MG⟩:=xU h e
 obtain ⟨n1,q,n2,n3,n4,n5⟩:=(Cj s a).1 c1
 have hj:=List.mem_of_getElem? hi
 have hq:q=⟨j.id,j.x.prio⟩:=by
  obtain ⟨o,ho,_,rfl⟩:=(h.iP q).1 (List.mem_of_getElem? n2)
  have:=dh h.ids ho hj (by rw [hid];exact n3)
  rw [this]
 have hno:∀k<(bg s a).2.1,∀p,s.queue[k]?=some p→dK s p.id=false:=by
  intro k hk p hp
  by_cases c:k<a
  ·exact hn k c p hp
  exact n5 k (by omega) hk p hp
 have OS:∀x∈(aU s (bg s a).1).1,∃y∈s.av,y.id=x∧y.x.prio<j.x.prio:=by
  intro x hx
  have h1:=((rT h (.inl ⟨j,hj,hid,hr⟩)).2 c2).2.1 x hx
  have h2:=(gx h.ids hi).2.2
  rw [hid] at h2
  obtain ⟨k,hk⟩:=List.getElem?_of_mem h1
  obtain ⟨o,g1,g2,_,_,g5⟩:=(rS h h2).2.1 k x hk
  exact ⟨o,g1,g2,g5⟩
 have hmem:∀p,bO p q=true→(p∈(cL s a).1.queue↔p∈s.queue):=by
  intro p hp
  rw [hok.iP,h.iP,MG]
  constructor
  ·rintro ⟨o,ho,CQ,rfl⟩
   obtain ⟨k,hk⟩:=List.getElem?_of_mem ho
   rw [List.getElem?_set] at hk
   split at hk
   ·split at hk
    ·cases hk;cases CQ
    cases hk
   rw [List.getElem?_map] at hk
   cases hy:s.av[k]? with
   |none=>rw [hy] at hk;cases hk
   |some y=>
    rw [hy] at hk
    simp only [Option.map_some,osI] at hk
    subst hk
    cases I3:y.runs with
    |false=>
     have:c5 (aU s (bg s a).1).1 y=y:=by unfold c5;rw [if_neg (by simp [I3])]
     exact ⟨y,List.mem_of_getElem? hy,I3,by rw [this]⟩
    |true=>
     have hv:y.id∈(aU s (bg s a).1).1:=by
      by_cases c:y.id∈(aU s (bg s a).1).1
      ·exact c
      have:=(gq (aU s (bg s a).1).1 y).2 ⟨I3,c⟩
      rw [CQ] at this;cases this
     obtain ⟨z,hz,hz1,Sr⟩:=OS _ hv
     have:=dh h.ids hz (List.mem_of_getElem? hy) hz1
     subst this
     rw [hq,iO,(ct _ z).2] at hp
     simp only at hp
     omega
  rintro ⟨y,hy,I3,rfl⟩
  refine ⟨y,?_,I3,rfl⟩
  obtain ⟨k,hk⟩:=List.getElem?_of_mem hy
  have hne:i≠k:=by
   intro c
   subst c
   rw [hi] at hk;cases hk
   rw [hq] at hp
   exact rX hp hp
  refine List.mem_of_getElem? (i:=k) ?_
  rw [List.getElem?_set,if_neg hne,List.getElem?_map,hk]
  simp [c5,I3]
 have hF:(cL s a).1.queue.filter (fun x=>bO x q)=s.queue.filter (fun x=>bO x q):=by
  refine Ih (hok.kC.filter _) (h.kC.filter _) fun p=>?_
  rw [List.mem_filter,List.mem_filter]
  exact ⟨fun ⟨g1,g2⟩=>⟨(hmem p g2).1 g1,g2⟩,fun ⟨g1,g2⟩=>⟨(hmem p g2).2 g1,g2⟩⟩
 have hlt:=(List.getElem?_eq_some_iff.1 n2).1
 have hlen:(bg s a).2.1≤(s.queue.filter fun x=>bO x q).length:=by
  have h1:(s.queue.take (bg s a).2.1).filter (fun x=>bO x q)=s.queue.take (bg s a).2.1:=by
   refine List.filter_eq_self.2 fun p hp=>?_
   obtain ⟨k,hk⟩:=List.getElem?_of_mem hp
   obtain ⟨k1,k2⟩:=List.getElem?_eq_some_iff.1 hk
   rw [List.length_take] at k1
   obtain ⟨b1,b2⟩:=List.getElem?_eq_some_iff.1 n2
   have:=List.pairwise_iff_getElem.1 h.kC k (bg s a).2.1 (by omega) b1 (by omega)
   rw [b2] at this
   rw [List.getElem_take] at k2
   rwa [k2] at this
  have h2:=((List.take_sublist (bg s a).2.1 s.queue).filter fun x=>bO x q).length_le
  rw [h1,List.length_take] at h2
  omega
 rw [c3]
 intro k hk p hp
 have hpa:bO p q=true:=by
  rw [Si q hok.kC,hF,List.getElem?_append_left (by omega)] at hp
  exact (List.mem_filter.1 (List.mem_of_getElem? hp)).2
 have hps:=(hmem p hpa).1 (List.mem_of_getElem? hp)
 obtain ⟨m,hm⟩:=List.getElem?_of_mem hps
 have hma:m<(bg s a).2.1:=by
  rcases Nat.lt_or_ge m (bg s a).2.1 with c|c
  ·exact c
  exfalso
  obtain ⟨b1,b2⟩:=List.getElem?_eq_some_iff.1 n2
  obtain ⟨d1,d2⟩:=List.getElem?_eq_some_iff.1 hm
  by_cases c2:m=(bg s a).2.1
  ·subst c2
   rw [b2] at d2;subst d2
   exact rX hpa hpa
  have:=List.pairwise_iff_getElem.1 h.kC (bg s a).2.1 m b1 d1 (by omega)
  rw [b2,d2] at this
  exact rX hpa this
 have hz:=hno m hma p hm
 obtain ⟨o,ho,CQ,hop⟩:=(hok.iP p).1 (List.mem_of_getElem? hp)
 obtain ⟨y,hy,I3,hyp⟩:=(h.iP p).1 hps
 have UY:o.id=y.id:=by rw [hop] at hyp;exact congrArg bK.id hyp
 have hx:o.x=y.x:=by
  rw [MG] at ho
  obtain ⟨k2,hk2⟩:=List.getElem?_of_mem ho
  rw [List.getElem?_set] at hk2
  split at hk2
  ·split at hk2
   ·cases hk2;cases CQ
   cases hk2
  rw [List.getElem?_map] at hk2
  cases hw:s.av[k2]? with
  |none=>rw [hw] at hk2;cases hk2
  |some w=>
   rw [hw] at hk2
   simp only [Option.map_some,osI] at hk2
   subst hk2
   rw [(ct _ w).1] at UY
   rw [(ct _ w).2,dh h.ids (List.mem_of_getElem? hw) hy UY]
 have:=pS h hok FA hkeep hy I3 ho CQ UY hx
 rw [hop];show dK _ o.id=false
 rw [UY,this]
 rw [hyp] at hz;exact hz
theorem zV {j o:Jb} (h:zD j=some o):o.id=j.id∧o.x=j.x∧o.runs=j.runs∧(j.runs=true→o.left=j.left-1)∧(j.runs=false→o=j):=by
 unfold zD at h
 split at h
 ·rename_i hr
  split at h
  ·cases h
  cases h;exact ⟨rfl,rfl,rfl,fun _=>rfl,fun c=>by rw [hr] at c;cases c⟩
 rename_i hr
 cases h;exact ⟨rfl,rfl,rfl,fun c=>absurd c hr,fun _=>rfl⟩
def aW.FB (s:aW):Prop:=∀w∈s.av,w.runs=false→dK s w.id=true→∀o∈s.av,o.runs=true→o.x.prio<w.x.prio→o.id<12
structure aW.fair (s:aW):Prop where
 ok:s.ok
 dD:s.dD tI
 FB:s.FB
theorem aW.good.fair {s:aW} (h:s.good):s.fair:=⟨h.ok,h.dD,fun _ _ _ _ o ho hr _=>h.zI o ho hr⟩
theorem fH.trans {s t u:aW} (h:fH s t) (g:fH t u):fH s u:=by
 refine ⟨g.nodes.trans h.nodes,fun e he=>?_,fun j hj=>?_⟩
 ·obtain ⟨f,hf,e1⟩:=g.paths e he
  obtain ⟨k,hk,e2⟩:=h.paths f hf
  exact ⟨k,hk,e1.trans e2⟩
 obtain ⟨f,hf,e1⟩:=g.xs j hj
 obtain ⟨k,hk,e2⟩:=h.xs f hf
 exact ⟨k,hk,e1.trans e2⟩
theorem FD {s:aW} (h:s.ok) {i:Nat} {j:Jb} (hj:s.av[i]?=some j) (hr:j.runs=true):bW s.tree (cI s j.id).tree∧fH s (cI s j.id):=by
 obtain ⟨h1,h2,_⟩:=gx h.ids hj
 have hl:=(h.left j (List.mem_of_getElem? hj)).1 hr
 have e:zj s i={s with av:=s.av.set i (j.to (j.left-1))}:=by unfold zj;rw [h2]
 unfold cI
 rw [h1]
 simp only
 rw [h2,e]
 by_cases c:j.left=1
 ·rw [if_pos (by omega),ME h hj]
  have hk:=DU h j.id 3
  obtain ⟨_,_,g⟩:=zR h hj 3
  obtain ⟨T,gT,g2⟩:=g hr
  refine ⟨?_,hk⟩
  rw [g2];exact gT
 rw [if_neg (by omega)]
 exact ⟨bW.refl _,⟨rfl,fun e he=>⟨e,he,rfl⟩,KB hj rfl⟩⟩
theorem pT:∀(R:List Int) {t:aW},t.ok→R.Nodup→(∀id∈R,∃j∈t.av,j.id=id∧j.runs=true)→
 bW t.tree (R.foldl cI t).tree∧fH t (R.foldl cI t)
 |[],t,_,_,_=>⟨bW.refl _,fH.refl _⟩
 |id::R,t,h,hn,hj=>by
  obtain ⟨Cx,hn2⟩:=List.nodup_cons.1 hn
  obtain ⟨o,hm,rfl,hr⟩:=hj id (by simp)
  obtain ⟨i,hi⟩:=List.getElem?_of_mem hm
  have c1:=(rU h hi hr).1
  have c4:=Ci h hi hr
  have hj2:∀x∈R,∃y∈(cI t o.id).av,y.id=x∧y.runs=true:=by
   intro x hx
   obtain ⟨y,hy,rfl,I3⟩:=hj x (by simp [hx])
   have hne:y.id≠o.id:=fun e=>Cx (by rw [←e];exact hx)
   refine ⟨y,?_,rfl,I3⟩
   rw [c4,List.mem_filterMap]
   exact ⟨y,hy,by unfold cnt;rw [if_neg (by simp [hne])]⟩
  obtain ⟨g1,g2⟩:=pT R c1 hn2 hj2
  obtain ⟨k1,k2⟩:=FD h hi hr
  rw [List.foldl_cons]
  exact ⟨k1.trans g1,k2.trans g2⟩
def FE (s:aW):aW:={s with round:=u64 (s.round+1)}
theorem xV {s:aW} (h:s.ok):(FE s).ok:={aY:=h.aY,ie:=h.ie,tree:=h.tree,used:=h.used,most:=h.most,next:=h.next,ids:=h.ids,vU:=h.vU,sN:=h.sN,left:=h.left,kC:=h.kC,kY:=h.kY,iP:=h.iP,places:=h.places,count:=h.count,notes:=h.notes}
theorem Ck {s:aW} (h:s.ok):(cK s).Nodup∧∀id∈cK s,∃j∈s.av,j.id=id∧j.runs=true:=by
 refine ⟨?_,fun id hid=>?_⟩
 ·unfold cK
  rw [List.nodup_iff_pairwise_ne,List.pairwise_map]
  exact (h.ids.filter _).imp fun {a b} g=>by omega
 obtain ⟨j,hj,e⟩:=List.mem_map.1 hid
 obtain ⟨h1,h2⟩:=List.mem_filter.1 hj
 exact ⟨j,h1,e,h2⟩
theorem Ea {s:aW} (h:s.ok) (l:s.dD tI) (k:Nat):(((cK s).take k).foldl cI (FE s)).ok∧(((cK s).take k).foldl cI (FE s)).dD tI:=by
 obtain ⟨r1,r2⟩:=Ck h
 have n1:((cK s).take k).Nodup:=r1.sublist (List.take_sublist _ _)
 have n2:∀id∈(cK s).take k,∃j∈(FE s).av,j.id=id∧j.runs=true:=fun id hid=>r2 id (List.mem_of_mem_take hid)
 exact ⟨(rV _ (xV h) n1 n2).1,(pT _ (xV h) n1 n2).2.dD ⟨l.names,l.paths,l.xs⟩⟩
theorem IS {s:aW} (h:s.ok):bW s.tree (dL s).tree∧fH s (dL s):=by
 obtain ⟨r1,r2⟩:=Ck h
 obtain ⟨a,b⟩:=pT (cK s) (xV h) r1 r2
 exact ⟨a,⟨b.nodes,b.paths,b.xs⟩⟩
theorem aW.fair.count {s:aW} (h:s.fair):(dL s).fair:=by
 obtain ⟨k1,k2⟩:=IS h.ok
 obtain ⟨c1,c2,c3,c4⟩:=iT h.ok
 refine ⟨c1,k2.dD h.dD,fun w hw hr hc o ho CQ hp=>?_⟩
 have hw':=hw
 rw [c4] at hw ho
 obtain ⟨y,hy,e⟩:=List.mem_filterMap.1 hw
 obtain ⟨z,hz,g⟩:=List.mem_filterMap.1 ho
 obtain ⟨e1,e2,e3,_⟩:=zV e
 obtain ⟨g1,g2,g3,_⟩:=zV g
 have hs:=pS h.ok c1 k2.nodes k1 hy (by rw [←e3];exact hr) hw' hr e1 e2
 rw [e1,hs] at hc
 rw [g1]
 exact h.FB y hy (by rw [←e3];exact hr) hc z hz (by rw [←g3];exact CQ) (by rw [←g2,←e2];exact hp)
theorem wB {s:aW} (h:s.ok) {a:Nat} (e:(bg s a).2.2=true):∃j∈s.av,j.id=(bg s a).1∧j.runs=false∧dK s j.id=true∧s.queue[(bg s a).2.1]?=some ⟨j.id,j.x.prio⟩∧∀k,a≤k→k<(bg s a).2.1→∀p,s.queue[k]?=some p→dK s p.id=false:=by
 obtain ⟨n1,q,n2,n3,n4,n5⟩:=(Cj s a).1 e
 obtain ⟨o,ho,CQ,rfl⟩:=(h.iP q).1 (List.mem_of_getElem? n2)
 exact ⟨o,ho,n3,CQ,by rw [show o.id=(bg s a).1 from n3];exact n4,n2,n5⟩
theorem Sj {s:aW} (h:s.ok) (hl:s.FB) {w:Jb} (hw:w∈s.av) (hr:w.runs=false) (hc:dK s w.id=true):(s.av.filter fun o=>o.runs&&decide (o.x.prio<w.x.prio)).length≤12:=by
 have h1:=Fu ((s.av.filter fun o=>o.runs&&decide (o.x.prio<w.x.prio)).map (·.id)) 1 12 (List.pairwise_map.2 (h.ids.filter _)) fun x hx=>by
  obtain ⟨j,hj,rfl⟩:=List.mem_map.1 hx
  obtain ⟨a,b⟩:=List.mem_filter.1 hj
  simp only [Bool.and_eq_true,decide_eq_true_eq] at b
  exact ⟨(h.vU j a).1,hl w hw hr hc j a b.1 b.2⟩
 rw [lgM] at h1;omega
theorem aW.fair.step {s:aW} (h:s.fair) {a:Nat} (hn:rW s a) (e:(cL s a).2.2=true):(cL s a).1.fair:=by
 obtain ⟨c1,c2,c3,hok,FA,hkeep,i,j,hi,hid,hr,MG⟩:=xU h.ok e
 obtain ⟨j0,hj0,e1,_,e3,e4,e5⟩:=wB h.ok c1
 have hj:=List.mem_of_getElem? hi
 have:j0=j:=dh h.ok.ids hj0 hj (e1.trans hid.symm)
 subst this
 have OS:∀x∈(aU s (bg s a).1).1,∃y∈s.av,y.id=x∧y.x.prio<j0.x.prio:=by
  intro x hx
  have h1:=((rT h.ok (.inl ⟨j0,hj,hid,hr⟩)).2 c2).2.1 x hx
  have h2:=(gx h.ok.ids hi).2.2
  rw [hid] at h2
  obtain ⟨k,hk⟩:=List.getElem?_of_mem h1
  obtain ⟨o,g1,g2,_,_,g5⟩:=(rS h.ok h2).2.1 k x hk
  exact ⟨o,g1,g2,g5⟩
 have hmem:∀o∈(cL s a).1.av,o=j0.begun∨∃y∈s.av,o=c5 (aU s (bg s a).1).1 y:=by
  intro o ho
  rw [MG] at ho
  rcases List.mem_or_eq_of_mem_set ho with g|g
  ·obtain ⟨y,hy,rfl⟩:=List.mem_map.1 g
   exact .inr ⟨y,hy,rfl⟩
  exact .inl g
 have hpr:∀w∈s.av,w.runs=false→dK s w.id=true→w.x.prio≤j0.x.prio:=by
  intro w hw SD SE
  obtain ⟨k,hk⟩:=List.getElem?_of_mem ((h.ok.iP ⟨w.id,w.x.prio⟩).2 ⟨w,hw,SD,rfl⟩)
  have hle:(bg s a).2.1≤k:=by
   rcases Nat.lt_or_ge k (bg s a).2.1 with d|d
   ·have:dK s w.id=false:=by
     rcases Nat.lt_or_ge k a with f|f
     ·exact hn k f _ hk
     exact e5 k f d _ hk
    rw [this] at SE;cases SE
   exact d
  rcases Nat.eq_or_lt_of_le hle with d|d
  ·rw [←d,e4] at hk
   have:=congrArg bK.prio (Option.some.inj hk)
   simp only at this;omega
  have:=(List.pairwise_iff_getElem.1 h.ok.kC) (bg s a).2.1 k (List.getElem?_eq_some_iff.1 e4).1 (List.getElem?_eq_some_iff.1 hk).1 d
  rw [(List.getElem?_eq_some_iff.1 e4).2,(List.getElem?_eq_some_iff.1 hk).2,iO] at this
  simp only at this;omega
 refine ⟨hok,⟨by rw [FA];exact h.dD.names,fun x hx=>?_,fun o ho=>?_⟩,fun w hw SD SE o ho CQ hp=>?_⟩
 ·obtain ⟨f,hf,e6⟩:=oB hkeep x hx
  rw [e6];exact h.dD.paths f hf
 ·rcases hmem o ho with rfl|⟨y,hy,rfl⟩
  ·exact h.dD.xs j0 hj
  rw [(ct _ y).2];exact h.dD.xs y hy
 have hw':=hw
 rcases hmem w hw with rfl|⟨y,hy,rfl⟩
 ·cases SD
 rw [(ct _ y).2] at hp
 rw [(ct _ y).1] at SE
 have key:∀z∈s.av,o=c5 (aU s (bg s a).1).1 z→z.runs=true∧o.id=z.id∧o.x=z.x:=by
  intro z _ ez
  rw [ez] at CQ
  exact ⟨((gq _ z).1 CQ).1,by rw [ez];exact (ct _ z).1,by rw [ez];exact (ct _ z).2⟩
 by_cases I3:y.runs=true
 ·have hv:y.id∈(aU s (bg s a).1).1:=by
   rcases Classical.em (y.id∈(aU s (bg s a).1).1) with g|g
   ·exact g
   have:=(gq (aU s (bg s a).1).1 y).2 ⟨I3,g⟩
   rw [this] at SD;cases SD
  obtain ⟨y2,Yb,f1,f2⟩:=OS _ hv
  have:=dh h.ok.ids Yb hy f1
  subst this
  rcases hmem o ho with rfl|⟨z,hz,ez⟩
  ·have:j0.x.prio<y2.x.prio:=hp
   omega
  obtain ⟨k1,k2,k3⟩:=key z hz ez
  rw [k2]
  exact h.FB j0 hj hr e3 z hz k1 (by rw [←k3];omega)
 have XY:y.runs=false:=by simpa using I3
 have hs:=pS h.ok hok FA hkeep hy XY hw' SD (ct _ y).1 (ct _ y).2
 rw [hs] at SE
 have h3:=hpr y hy XY SE
 rcases hmem o ho with rfl|⟨z,hz,ez⟩
 ·have:j0.x.prio<y.x.prio:=hp
  omega
 obtain ⟨k1,k2,k3⟩:=key z hz ez
 rw [k2]
 exact h.FB y hy XY SE z hz k1 (by rw [←k3];exact hp)
theorem aW.fair.ZZ {s t:aW} {l:List Int} (h:s.fair) (g:lC s l t) {j:Jb} (hj:j∈s.av) (hr:j.runs=false) (hc:dK s j.id=true) (hl:∀y∈s.av,y.id∈l→y.x.prio<j.x.prio):t.fair:=by
 refine ⟨g.ok,fH.dD ⟨g.nodes,oB g.tree,fun o ho=>?_⟩ h.dD,fun w hw SD SE o ho CQ hp=>?_⟩
 ·rw [g.av] at ho
  obtain ⟨y,hy,rfl⟩:=List.mem_map.1 ho
  exact ⟨y,hy,(ct l y).2⟩
 have hw':=hw
 rw [g.av] at hw ho
 obtain ⟨y,hy,rfl⟩:=List.mem_map.1 hw
 obtain ⟨z,hz,rfl⟩:=List.mem_map.1 ho
 rw [(ct l y).2,(ct l z).2] at hp
 rw [(ct l z).1]
 have hzr:=((gq l z).1 CQ).1
 by_cases I3:y.runs=true
 ·have hv:y.id∈l:=by
   rcases Classical.em (y.id∈l) with f|f
   ·exact f
   rw [(gq l y).2 ⟨I3,f⟩] at SD;cases SD
  have:=hl y hy hv
  exact h.FB j hj hr hc z hz hzr (by omega)
 have XY:y.runs=false:=by simpa using I3
 have hs:=pS h.ok g.ok g.nodes g.tree hy XY hw' SD (ct l y).1 (ct l y).2
 rw [(ct l y).1,hs] at SE
 exact h.FB y hy XY SE z hz hzr hp
theorem aW.fair.stays {s:aW} (h:s.fair) {a:Nat} (e:(cL s a).2.2=false):(cL s a).1.fair:=by
 unfold cL at e ⊢
 split
 ·exact h
 rename_i c1
 rw [if_neg c1] at e
 split
 ·exact h
 rename_i c2
 rw [if_neg c2] at e
 split
 ·obtain ⟨j,hj,e1,hr,hc,_⟩:=wB h.ok (a:=a) (by simpa using c1)
  refine h.ZZ (fJ h.ok _) hj hr hc fun y hy hv=>?_
  have h1:=((rT h.ok (.inl ⟨j,hj,e1,hr⟩)).2 (by simpa using c2)).2.1 y.id hv
  obtain ⟨i,hi⟩:=List.getElem?_of_mem hj
  have h2:=(gx h.ok.ids hi).2.2
  rw [e1] at h2
  obtain ⟨k,hk⟩:=List.getElem?_of_mem h1
  obtain ⟨o,g1,g2,_,_,g5⟩:=(rS h.ok h2).2.1 k y.id hk
  rw [dh h.ok.ids g1 hy g2] at g5;exact g5
 rename_i c3
 rw [if_neg c3] at e;cases e
theorem wC:∀(n:Nat) {s:aW} {a:Nat},s.fair→rW s a→(eL n s a).fair
 |0,_,_,h,_=>h
 |n+1,s,a,h,hn=>by
  unfold eL
  cases e:(cL s a).2.2 with
  |true=>rw [if_pos rfl];exact wC n (h.step hn e) (zk h.ok hn e)
  |false=>rw [if_neg (by decide)];exact h.stays e
theorem aW.fair.tick {s:aW} (h:s.fair):(qb s).fair:=wC 128 h.count (fun k hk=>by omega)
end Dem
end
section
open Go Dem Go.Proofs
namespace Dem
variable {t:Th}
theorem aW.fair.sm {s:aW} (h:s.fair):s.sm:=h.ok.small h.dD
theorem Cl {s:aW} (h:s.fair) (l:List Int):(aT s l).sm:=by
 have g:=fJ h.ok l
 refine g.ok.small (fH.dD ⟨g.nodes,oB g.tree,fun j hj=>?_⟩ h.dD)
 rw [g.av] at hj
 obtain ⟨y,hy,rfl⟩:=List.mem_map.1 hj
 exact ⟨y,hy,(ct l y).2⟩
theorem zm {s:aW} (h:s.ok) (id:Int):(cm s id).length<1000:=by
 have h1:=h.most
 unfold cm
 split
 ·simp
 rw [lgM,List.length_mergeSort]
 have:=List.length_filter_le (fun o:Jb=>o.runs&&decide (o.x.prio<(bC s.av id).1.x.prio)) s.av
 omega
theorem CR {s:aW} (h:s.ok) (id:Int):(aU s id).1.length<1000000∧(aU s id).2.1.length<1000000:=by
 have ha:=zm h id
 unfold aU
 split
 ·simp
 rename_i l nodes e
 have h1:=Cg _ _ _ _ e
 have h2:=uF (s:=s) (id:=id) (l.length+1) 0 l nodes h1.2
 exact ⟨by have:=h2.1;simp only;omega,h2.2⟩
theorem Lo (ht:TT t) {s:aW} (h:s.fair) {a:Nat} (e:(bg s a).2.2=true):FC 19 [.agg [az s.round,az s.next,SL (s.aY.nodes.map Node.cells),SL (s.aY.places.map Place.cells),SL (s.tree.map aR.cells),SL (s.av.map Jb.cells),SL (s.queue.map bK.cells),az s.ev.first,SL (s.ev.l.map dc.cells),az s.au.first,SL (s.au.l.map dc.cells)],az (bg s a).1] [] (.ret (Xv t (t _ fun _=>aU s (bg s a).1))) []:=by
 obtain ⟨j,hj,e1,hr,hc,_⟩:=wB h.ok e
 obtain ⟨i,hi⟩:=List.getElem?_of_mem hj
 have hf:=(gx h.ok.ids hi).2.2
 rw [e1] at hf
 have h12:(Fz s.av (bC s.av (bg s a).1).1.x.prio).length≤12:=by rw [hf];exact Sj h.ok h.FB hj hr hc
 have hjl:=h.sm.av.1
 refine Lj ht s.round s.next s.ev.first s.au.first rfl rfl rfl rfl rfl rfl rfl _ ?_ (zm h.ok _) (Cl h)
 rcases Nat.eq_zero_or_pos (Fz s.av (bC s.av (bg s a).1).1.x.prio).length with g|g
 ·exact R9 ht _ _ _ _ rfl rfl rfl rfl rfl rfl rfl _ hjl (List.length_eq_zero_iff.1 g)
 exact Sa ht _ _ _ _ rfl rfl rfl rfl rfl rfl rfl _ hjl rfl g h12 h.ok.ids
theorem Sk (ht:TT t) {s:aW} (h:s.fair) (a:Nat) (ha:a<1000000) {aa:Int} (SB:aa=a) {rd nx ef af:Int} {ns ps ts js qs es bH:List (List D)} (hT:Told s rd nx ns ps ts js qs ef es af bH):
 FC 72 [.agg [az rd,az nx,SL ns,SL ps,SL ts,SL js,SL qs,az ef,SL es,az af,SL bH,bD aa]] [] (.ret (XA t (t _ fun _=>cL s a))) []:=by
 obtain ⟨rfl,rfl,rfl,rfl,rfl,rfl,rfl,rfl,rfl,rfl,rfl⟩:=hT
 refine Sg ht s.round s.next s.ev.first s.au.first rfl rfl rfl rfl rfl rfl rfl a SB (w:=bg s a) rfl (vi:=if (bg s a).2.2 then aU s (bg s a).1 else ([],[],false)) (fun e=>by rw [if_pos e]) ?_ (fun e=>?_) ?_ (fun k=>Cl h _)
 ·exact MF ht s.round s.next s.ev.first s.au.first rfl rfl rfl rfl rfl rfl rfl (fun id=>xN ht s.round s.next s.ev.first s.au.first rfl rfl rfl rfl rfl rfl rfl h.sm id) h.sm.queue a SB ha
 ·rw [if_pos e];exact Lo ht h e
 split
 ·exact CR h.ok _
 simp
theorem Sl {s:aW} (hf:s.fair) {a:Nat} (ha:a<1000000):(cL s a).2.1<1000000:=by
 have h:=hf.ok
 cases e:(cL s a).2.2 with
 |true=>
  obtain ⟨c1,_,c3,_⟩:=xU h e
  obtain ⟨j,_,_,_,_,e4,_⟩:=wB h c1
  have:=(List.getElem?_eq_some_iff.1 e4).1
  have h2:=hf.sm.queue
  omega
 |false=>
  unfold cL at e ⊢
  split
  ·exact ha
  split
  ·exact ha
  split
  ·exact ha
  rename_i g1 g2 g3;rw [if_neg g1,if_neg g2,if_neg g3] at e;cases e
theorem IT (ht:TT t) (rd nx ef af:Int) {nl:List Node} {pl:List Place} {tl:List aR} {jl:List Jb} {ql:List bK} {el al:List dc} {ns ps ts js qs es bH:List (List D)} (eE:ns=nl.map Node.cells) (hps:ps=pl.map Place.cells) (hts:ts=tl.map aR.cells) (dM:js=jl.map Jb.cells) (dF:qs=ql.map bK.cells) (aC:es=el.map dc.cells) (has:bH=al.map dc.cells) (h:(⟨rd,nx,⟨nl,pl⟩,tl,jl,ql,⟨ef,el⟩,⟨af,al⟩⟩:aW).fair):FC 29 [.agg [az rd,az nx,SL ns,SL ps,SL ts,SL js,SL qs,az ef,SL es,az af,SL bH]] [] (.ret (ff t (t _ fun _=>dL ⟨rd,nx,⟨nl,pl⟩,tl,jl,ql,⟨ef,el⟩,⟨af,al⟩⟩))) []:=by
 refine Sf ht _ _ _ _ eE hps hts dM dF aC has h.sm.av.1 (fun k=>?_) (fun k x hx=>?_)
 ·have:=Ea h.ok h.dD k
  exact this.1.small this.2
 have g:=(Ea h.ok h.dD k).1
 have h1:=g.left x hx
 have h2:=(dZ.1 (g.sN x hx).1)
 rcases Bool.eq_false_or_eq_true x.runs with r|r
 ·have:=h1.1 r;omega
 have:=h1.2 r;omega
theorem Sm (ht:TT t) {s:aW} (h:s.fair):FC 30 [ff t s] [] (.ret (ff t (t _ fun _=>Ch s))) []:=
 OW ht _ _ _ _ (by simp only [ht]) (by simp only [ht]) (by simp only [ht]) (by simp only [ht]) (by simp only [ht]) (by simp only [ht]) (by simp only [ht]) (fun T a=>T.fair∧rW T a∧a<1000000) ⟨h,fun k hk=>by omega,by omega⟩ (fun T a g e=>⟨g.1.step g.2.1 e,zk g.1.ok g.2.1 e,Sl g.1 g.2.2⟩) (fun T a g rd nx ns ps ts js qs ef es af bH hT aa SB=>Sk ht g.1 a g.2.2 SB hT)
theorem MH (ht:TT t) (rd nx ef af:Int) {nl:List Node} {pl:List Place} {tl:List aR} {jl:List Jb} {ql:List bK} {el al:List dc} {ns ps ts js qs es bH:List (List D)} (eE:ns=nl.map Node.cells) (hps:ps=pl.map Place.cells) (hts:ts=tl.map aR.cells) (dM:js=jl.map Jb.cells) (dF:qs=ql.map bK.cells) (aC:es=el.map dc.cells) (has:bH=al.map dc.cells) (h:(⟨rd,nx,⟨nl,pl⟩,tl,jl,ql,⟨ef,el⟩,⟨af,al⟩⟩:aW).fair):FC 27 [.agg [az rd,az nx,SL ns,SL ps,SL ts,SL js,SL qs,az ef,SL es,az af,SL bH]] [] (.ret (ff t (t _ fun _=>qb ⟨rd,nx,⟨nl,pl⟩,tl,jl,ql,⟨ef,el⟩,⟨af,al⟩⟩))) []:=by
 obtain ⟨C,hC⟩:∃C,C=dL ⟨rd,nx,⟨nl,pl⟩,tl,jl,ql,⟨ef,el⟩,⟨af,al⟩⟩:=⟨_,rfl⟩
 have fC:C.fair:=by rw [hC];exact h.count
 have cc:FC 29 [.agg [az rd,az nx,SL ns,SL ps,SL ts,SL js,SL qs,az ef,SL es,az af,SL bH]] [] (.ret (ff t (t _ fun _=>C))) []:=by rw [hC];exact IT ht _ _ _ _ eE hps hts dM dF aC has h
 obtain ⟨R,hR⟩:∃R,R=qb ⟨rd,nx,⟨nl,pl⟩,tl,jl,ql,⟨ef,el⟩,⟨af,al⟩⟩:=⟨_,rfl⟩
 have cp:FC 30 [ff t C] [] (.ret (ff t (t _ fun _=>R))) []:=by
  rw [show R=Ch C by rw [hR,hC];rfl];exact Sm ht fC
 rw [←hR]
 clear hR hC h
 refine cr ht Tryz.func27 (N:=6) ?_
 cbv
 obtain ⟨cZ,de,dg,cu,bZ,aF,cw⟩:=fc eE hps hts dM dF aC has
 (refine aD cc (by simp) (fun r1 cM=>?_);simp only [ht] at cM;subst r1)
 cbv
 (refine aD cp (by simp) (fun r2 iu=>?_);simp only [ht] at iu;subst r2)
 cbv
 refine an ?_
 (simp only [ht];done)
theorem zW (ht:TT t) (s:aW) (h:s.fair):FC 27 [ff t s] [] (.ret (ff t (t _ fun _=>qb s))) []:=
 MH ht _ _ _ _ (by simp only [ht]) (by simp only [ht]) (by simp only [ht]) (by simp only [ht]) (by simp only [ht]) (by simp only [ht]) (by simp only [ht]) h
theorem UZ (ht:TT t):FC 66 [] [] (.ret (ff t (t _ fun _=>CO 2))) []:=by
 obtain ⟨A,hA⟩:∃A,A=CO 2:=⟨_,rfl⟩
 have h0:=(wu 192).sm
 have h1:=Cc.sm
 have h2:=Cd.sm
 rw [←hA]
 refine cr ht Tryz.func66 (N:=29) ?_
 cbv
 (refine aD (yW ht 192 (by decide) rfl) (by simp) (fun r1 cM=>?_);simp only [ht] at cM;rw [←cM] at h0)
 cbv
 ((refine aD (lZ ht _ _ _ _ (nl:=r1.aY.nodes) (pl:=r1.aY.places) (tl:=r1.tree) (jl:=r1.av) (ql:=r1.queue) (el:=r1.ev.l) (al:=r1.au.l) (by simp only [ht]) (by simp only [ht]) (by simp only [ht]) (by simp only [ht]) (by simp only [ht]) (by simp only [ht]) (by simp only [ht]) 3 0 0 0 1 1 5 [97] (nJ:=[]) rfl (mO D3) h0.tree.1 h0.av.1 h0.queue h0.notes.1) (by simp) (fun r2 iu=>?_);simp only [ht] at iu;have e2:r2.1=RT:=(by rw [iu,cM];rfl);have e3:r2.2.1=RU:=(by rw [iu,cM];rfl);rw [←e2] at h1))
 cbv
 (refine aD (wm ht _ _ _ _ (nl:=r2.1.aY.nodes) (pl:=r2.1.aY.places) (tl:=r2.1.tree) (jl:=r2.1.av) (ql:=r2.1.queue) (el:=r2.1.ev.l) (al:=r2.1.au.l) (by simp only [ht]) (by simp only [ht]) (by simp only [ht]) (by simp only [ht]) (by simp only [ht]) (by simp only [ht]) (by simp only [ht]) _ (names:=[[110,49]]) (by rfl) (uE h1) h1.tree.1 h1.av.1 h1.nodes.1 h1.places h1.queue h1.notes.1 (by simp)) (by simp) (fun r3 kO=>?_);simp only [ht] at kO;have e4:r3.1=II:=(by rw [kO];unfold II;rw [←e2,←e3]);rw [←e4] at h2)
 cbv
 ((refine aD (lZ ht _ _ _ _ (nl:=r3.1.aY.nodes) (pl:=r3.1.aY.places) (tl:=r3.1.tree) (jl:=r3.1.av) (ql:=r3.1.queue) (el:=r3.1.ev.l) (al:=r3.1.au.l) (by simp only [ht]) (by simp only [ht]) (by simp only [ht]) (by simp only [ht]) (by simp only [ht]) (by simp only [ht]) (by simp only [ht]) 2 0 0 0 1 3 2 [98] (nJ:=[]) rfl (mO (D4 2)) h2.tree.1 h2.av.1 h2.queue h2.notes.1) (by simp) (fun r4 iY=>?_);simp only [ht] at iY;have e5:A=r4.1:=(by rw [iY,hA];show (cY II (ZR 2)).1=_;rw [←e4];rfl)))
 cbv
 refine an ?_
 (simp only [ht,e5];done)
theorem IU (ht:TT t) (s:aW) (h:s.fair):FC 29 [ff t s] [] (.ret (ff t (t _ fun _=>dL s))) []:=
 IT ht _ _ _ _ (by simp only [ht]) (by simp only [ht]) (by simp only [ht]) (by simp only [ht]) (by simp only [ht]) (by simp only [ht]) (by simp only [ht]) h
theorem MI (ht:TT t) (s:aW) (h:s.fair) (b:Nat) (hb:b<1000000) {bb:Int} (e:bb=b):FC 28 [ff t s,bD bb] [] (.ret (Xz t (t _ fun _=>bg s b))) []:=by
 refine MF ht _ _ _ _ (by simp only [ht]) (by simp only [ht]) (by simp only [ht]) (by simp only [ht]) (by simp only [ht]) (by simp only [ht]) (by simp only [ht]) (fun id=>?_) h.sm.queue b e hb
 exact xN ht _ _ _ _ (by simp only [ht]) (by simp only [ht]) (by simp only [ht]) (by simp only [ht]) (by simp only [ht]) (by simp only [ht]) (by simp only [ht]) h.sm id
theorem Sn (ht:TT t) (s:aW) (h:s.fair) (id:Int):FC 23 [ff t s,az id] [] (.ret (cU (t _ fun _=>dK s id))) []:=
 xN ht _ _ _ _ (by simp only [ht]) (by simp only [ht]) (by simp only [ht]) (by simp only [ht]) (by simp only [ht]) (by simp only [ht]) (by simp only [ht]) h.sm id
theorem oE (ht:TT t) (s:aW) (h:s.fair) (id:Int):FC 17 [ff t s,az id] [] (.ret (WI t (t _ fun _=>bC s.av id))) []:=
 mM ht id _ _ _ _ _ _ _ _ _ _ (by simp only [ht]) (by have:=h.sm.av.1;omega)
end Dem
end
section
open Go
namespace Dem
theorem IV {s:aW} {id:Int} {L:List Int} (h:cm s id=L):aU s id=rP s id L:=by subst h;rfl
theorem IW {s:aW} {a k:Nat} {id:Int} {L l:List Int} {nodes:List aH} (h1:bg s a=(id,k,true)) (h2:cm s id=L) (h3:rP s id L=(l,nodes,true)) (h4:(cJ (aT s l) id nodes).2=0):
 cL s a=((cJ (aT s l) id nodes).1,k,true):=by
 unfold cL
 rw [h1]
 simp only
 rw [IV h2,h3]
 simp only
 rw [if_neg (by decide),if_neg (by decide),if_neg (by simp [h4])]
theorem Eb {s:aW} {a k:Nat} {id:Int} {L:List Int} (h1:bg s a=(id,k,true)) (h2:cm s id=L) (h3:(rP s id L).2.2=false):cL s a=(s,a,false):=by
 unfold cL
 rw [h1]
 simp only
 rw [IV h2,h3]
 rw [if_neg (by decide),if_pos (by decide)]
theorem Cm {s:aW} {a:Nat} (h1:(bg s a).2.2=false):cL s a=(s,a,false):=by
 unfold cL;rw [h1,if_pos (by decide)]
theorem lV {n:Nat} {s:aW} {a:Nat} (h:cL s a=(s,a,false)):eL (n+1) s a=s:=by
 rw [eL,h,if_neg (by simp)]
theorem Cn {n:Nat} {s t:aW} {a k:Nat} (h:cL s a=(t,k,true)):eL (n+1) s a=eL n t k:=by
 rw [eL,h,if_pos rfl]
def xC:aW:=dL (CO 2)
def OY:aW:=(cJ (aT xC [1]) 2 [[110,49]]).1
def VI:aW:=dL OY
def Z0:aW:=dL VI
def XB:aW:=(cJ (aT Z0 []) 1 [[110,49]]).1
theorem yn1:bg (CO 2) 0=(2,0,true):=by decide+kernel
theorem yn2:bg (CO 2) 1=(0,0,false):=by decide+kernel
theorem ya1:bg xC 0=(2,0,true):=by decide+kernel
theorem ya2:cm xC 2=[1]:=K9 (a:=⟨1,Ask.zero,false,0⟩) (by decide+kernel) (by decide+kernel)
theorem ya3:rP xC 2 [1]=([1],[[110,49]],true):=by decide+kernel
theorem ya4:(cJ (aT xC [1]) 2 [[110,49]]).2=0:=by decide+kernel
theorem yb1:bg OY 0=(1,0,true):=by decide+kernel
theorem yb2:rP OY 1 []=([],[],false):=by decide+kernel
theorem yc1:bg VI 0=(1,0,true):=by decide+kernel
theorem yc2:rP VI 1 []=([],[],false):=by decide+kernel
theorem yd1:bg Z0 0=(1,0,true):=by decide+kernel
theorem yd2:rP Z0 1 []=([],[[110,49]],true):=by decide+kernel
theorem yd3:(cJ (aT Z0 []) 1 [[110,49]]).2=0:=by decide+kernel
theorem yd4:(bg XB 0).2.2=false:=by decide+kernel
theorem VJ:qb (CO 2)=OY:=by
 show eL (126+1+1) xC 0=OY
 rw [Cn (IW ya1 ya2 ya3 ya4)]
 exact lV (Eb yb1 (rO (by decide+kernel)) (show (rP OY 1 []).2.2=false by rw [yb2]))
theorem Z1:qb OY=VI:=show eL (127+1) VI 0=VI from lV (Eb yc1 (rO (by decide+kernel)) (show (rP VI 1 []).2.2=false by rw [yc2]))
theorem Z2:qb VI=XB:=by
 show eL (126+1+1) Z0 0=XB
 rw [Cn (IW yd1 (rO (by decide+kernel)) yd2 yd3)]
 exact lV (Cm yd4)
theorem Z3:qb CI=dL CI:=show eL (127+1) (dL CI) 0=dL CI from lV (Cm (by decide+kernel))
theorem yv1:OY.round=1∧(bC OY.av 1).2=true∧(bC OY.av 1).1.runs=false∧(bC OY.av 2).2=true∧(bC OY.av 2).1.runs=true∧(bC OY.av 2).1.left=2:=by decide+kernel
theorem yv2:XB.round=3∧(bC XB.av 1).2=true∧(bC XB.av 1).1.runs=true∧(bC XB.av 2).2=false:=by decide+kernel
theorem yv3:(bC xC.av 1).1.left=4∧dK (CO 2) 2=true∧(dL CI).round=1:=by decide+kernel
end Dem
end
section
open Go Dem Go.Proofs
namespace Dem
variable {t:Th}
theorem zn (ht:TT t):FC 25 [] [] (.ret (BL true)) []:=by
 obtain ⟨A,hA⟩:∃A,A=CO 2:=⟨_,rfl⟩
 have fA:A.fair:=by rw [hA];exact (OD 2).fair
 have c0:FC 66 [] [] (.ret (ff t (t _ fun _=>A))) []:=by rw [hA];exact UZ ht
 have n1:bg A 0=(2,0,true):=by rw [hA];exact yn1
 have n2:bg A 1=(0,0,false):=by rw [hA];exact yn2
 obtain ⟨T,hT⟩:∃T,T=qb A:=⟨_,rfl⟩
 have fT:T.fair:=by rw [hT];exact fA.tick
 obtain ⟨U,hU⟩:∃U,U=qb T:=⟨_,rfl⟩
 have fU:U.fair:=by rw [hU];exact fT.tick
 obtain ⟨V,hV⟩:∃V,V=qb U:=⟨_,rfl⟩
 have fV:V.fair:=by rw [hV];exact fU.tick
 obtain ⟨C,hC⟩:∃C,C=dL A:=⟨_,rfl⟩
 have fC:C.fair:=by rw [hC];exact fA.count
 obtain ⟨E,hE⟩:∃E,E=CI:=⟨_,rfl⟩
 have fE:E.fair:=by rw [hE];exact OE.fair
 obtain ⟨F,hF⟩:∃F,F=qb E:=⟨_,rfl⟩
 have ct1:FC 27 [ff t A] [] (.ret (ff t (t _ fun _=>T))) []:=by rw [hT];exact zW ht A fA
 have ct2:FC 27 [ff t T] [] (.ret (ff t (t _ fun _=>U))) []:=by rw [hU];exact zW ht T fT
 have ct3:FC 27 [ff t U] [] (.ret (ff t (t _ fun _=>V))) []:=by rw [hV];exact zW ht U fU
 have ct4:FC 27 [ff t E] [] (.ret (ff t (t _ fun _=>F))) []:=by rw [hF];exact zW ht E fE
 have cc:FC 29 [ff t A] [] (.ret (ff t (t _ fun _=>C))) []:=by rw [hC];exact IU ht A fA
 have cn:FC 38 [] [] (.ret (ff t (t _ fun _=>E))) []:=by rw [hE];exact Mo ht
 have v1:=yv1
 have v2:=yv2
 have v3:=yv3
 rw [←VJ,←hA,←hT] at v1
 rw [←Z2,←Z1,←VJ,←hA,←hT,←hU,←hV] at v2
 rw [show xC=dL (CO 2) from rfl,←hA,←hC,←Z3,←hE,←hF] at v3
 obtain ⟨w1,w2,w3⟩:=v3
 obtain ⟨p1,p2,p3,p4,p5,p6⟩:=v1
 obtain ⟨q1,q2,q3,q4⟩:=v2
 clear hA hT hU hV hC hE hF
 refine cr ht Tryz.func25 (N:=135) ?_
 cbv
 (refine aD c0 (by simp) (fun r1 cM=>?_);simp only [ht] at cM;subst r1)
 cbv
 ((refine aD (MI ht A fA 0 (by decide) (bb:=0) rfl) (by simp) (fun r1 cM=>?_);simp only [ht] at cM;rw [n1] at cM;subst r1))
 cbv
 ((refine aD (MI ht A fA 1 (by decide) (bb:=1) rfl) (by simp) (fun r1 cM=>?_);simp only [ht] at cM;rw [n2] at cM;subst r1))
 cbv
 ((refine aD ct1 (by simp) (fun r1 cM=>?_);simp only [ht] at cM;subst r1))
 cbv
 ((refine aD ct2 (by simp) (fun r1 cM=>?_);simp only [ht] at cM;subst r1))
 cbv
 ((refine aD ct3 (by simp) (fun r1 cM=>?_);simp only [ht] at cM;subst r1))
 cbv
 ((refine aD (oE ht T fT 1) (by simp) (fun o eo=>?_);simp only [ht] at eo;rw [←eo] at p2 p3))
 cbv
 ((refine aD (oE ht T fT 2) (by simp) (fun o eo=>?_);simp only [ht] at eo;rw [←eo] at p4 p5 p6))
 cbv
 ((refine aD (oE ht V fV 1) (by simp) (fun o eo=>?_);simp only [ht] at eo;rw [←eo] at q2 q3))
 cbv
 ((refine aD (oE ht V fV 2) (by simp) (fun o eo=>?_);simp only [ht] at eo;rw [←eo] at q4))
 cbv
 (refine aD cc (by simp) (fun r1 cM=>?_);simp only [ht] at cM;subst r1)
 cbv
 ((refine aD (oE ht C fC 1) (by simp) (fun o eo=>?_);simp only [ht] at eo;rw [←eo] at w1))
 cbv
 iterate 2 refine gI (by simp [ht]) ?_
 refine pI (by simp [ht]) ?_
 refine gI (by simp [ht]) ?_
 refine pI (by simp [ht]) ?_
 iterate 2 refine gI (by simp [ht]) ?_
 refine pI (by simp [ht]) ?_
 iterate 3 refine gI (by simp [ht]) ?_
 refine pI (by simp [ht]) ?_
 refine gI (by simp [ht]) ?_
 refine pI (by simp [ht]) ?_
 iterate 3 refine gI (by simp [ht]) ?_
 refine pI (by simp [ht]) ?_
 refine gI (by simp [ht]) ?_
 refine pI (by simp [ht]) ?_
 iterate 2 refine gI (by simp [ht]) ?_
 refine pI (by simp [ht]) ?_
 iterate 3 refine gI (by simp [ht]) ?_
 refine pI (by simp [ht]) ?_
 iterate 3 refine gI (by simp [ht]) ?_
 refine pI (by simp [ht]) ?_
 refine gI (by simp [ht]) ?_
 refine pI (by simp [ht]) ?_
 iterate 2 refine gI (by simp [ht]) ?_
 refine pI (by simp [ht]) ?_
 iterate 2 refine gI (by simp [ht]) ?_
 refine pI (by simp [ht]) ?_
 iterate 3 refine gI (by simp [ht]) ?_
 refine pI (by simp [ht]) ?_
 refine gI (by simp [ht]) ?_
 (refine cj (fun g9=>⟨(by trivial),by simp,Sn ht A fA 2⟩) rfl rfl (fun q9 eq9=>?_);simp only [ht] at eq9;rw [w2] at eq9;subst eq9)
 cbv
 refine pI (by simp [ht]) ?_
 (refine kK (fun g9=>⟨(by trivial),(by trivial),cn⟩) rfl rfl rfl (fun r1 cM=>?_);simp only [ht] at cM;subst r1)
 cbv
 ((refine kK (fun g9=>⟨(by trivial),(by trivial),ct4⟩) rfl rfl rfl (fun r1 cM=>?_);simp only [ht] at cM;subst r1))
 cbv
 iterate 2 refine gI (by simp [ht]) ?_
 refine pI (by simp [ht]) ?_
 refine an ?_
 (simp only [ht,ah];grind)
end Dem
end
