/- Parts of a proof, joined. -/
import Derived.Test.YtihohjnkkalgiaaGreatDoorP24
set_option linter.all false
set_option maxRecDepth 100000
set_option maxHeartbeats 4000000
section
open Go Dem Go.Proofs
namespace Dem
variable {t:Th}
def CS (t:Th) (r:List Int×List aQ×Bool):AV:=.dL [SL (t _ fun _=>r.1.map Int.cells),SL (t _ fun _=>r.2.1.map bg),BL r.2.2]
theorem ng {l:List Int} {es:List (List D)} (h:es=l.map Int.cells):∀r∈es,r.length=1:=by rw [h];intro r hr;obtain ⟨y,_,rfl⟩:=List.mem_map.1 hr;rfl
theorem HN (ht:TT t) {l:List Int} {es:List (List D)} (aA:es=l.map Int.cells) {i m:Nat} (hm:m=l.length) {z z1:Int} (hz:z=i) (hz1:z1=(i:Int)+1) (hi:i<l.length) (hs:l.length<1000000) {r:List (List D)} (hr:r=(l.eraseIdx i).map Int.cells):
 FC 55 [.ow 0 1 m,bG z,bG z1] [.row 1 es] (.ret (SL r)) [.dead]:=by
 have e1:z1=((i+1:Nat):Int):=by omega
 have hel:es.length=l.length:=by rw [aA,lgM]
 subst hz
 rw [e1]
 refine dK (fun c hc hc0=>HM ht (es:=es) (i:=i) (by omega) (by omega) hc (ng aA) (by omega) ?_)
 rw [hr,aA,List.eraseIdx_eq_take_drop_succ,List.map_append,List.map_take,List.map_drop]
theorem lP (l:List Int) (k:Nat):gq (l.map Int.cells) none (some (k:Int))=(l.take k).map Int.cells:=by rw [List.map_take];rfl
theorem HO (ht:TT t) (rd nx ef af:Int) {nl:List Node} {pl:List Place} {tl:List bu} {jl:List Jb} {ql:List cR} {el al:List eI} {ns ps ts js qs es cQ:List (List D)} (fC:ns=nl.map Node.cells) (hps:ps=pl.map Place.cells) (hts:ts=tl.map bu.cells) (eZ:js=jl.map Jb.cells) (eU:qs=ql.map cR.cells) (aA:es=el.map eI.cells) (has:cQ=al.map eI.cells) (id:Int) (Vp:FC 18 [.agg [az rd,az nx,SL ns,SL ps,SL ts,SL js,SL qs,az ef,SL es,az af,SL cQ],az id] [] (.ret (ve t (t _ fun _=>cm ⟨rd,nx,⟨nl,pl⟩,tl,jl,ql,⟨ef,el⟩,⟨af,al⟩⟩ id))) []) (hal:(cm ⟨rd,nx,⟨nl,pl⟩,tl,jl,ql,⟨ef,el⟩,⟨af,al⟩⟩ id).length<1000) (hg:∀l,(bB ⟨rd,nx,⟨nl,pl⟩,tl,jl,ql,⟨ef,el⟩,⟨af,al⟩⟩ l).sm):
 FC 19 [.agg [az rd,az nx,SL ns,SL ps,SL ts,SL js,SL qs,az ef,SL es,az af,SL cQ],az id] [] (.ret (CS t (t _ fun _=>bF ⟨rd,nx,⟨nl,pl⟩,tl,jl,ql,⟨ef,el⟩,⟨af,al⟩⟩ id))) []:=by
 obtain ⟨A,hA⟩:∃A,A=cm ⟨rd,nx,⟨nl,pl⟩,tl,jl,ql,⟨ef,el⟩,⟨af,al⟩⟩ id:=⟨_,rfl⟩
 obtain ⟨R,hR⟩:∃R,R=bF ⟨rd,nx,⟨nl,pl⟩,tl,jl,ql,⟨ef,el⟩,⟨af,al⟩⟩ id:=⟨_,rfl⟩
 obtain ⟨F,hF⟩:∃F,F=kn ⟨rd,nx,⟨nl,pl⟩,tl,jl,ql,⟨ef,el⟩,⟨af,al⟩⟩ id A (A.length+1) 0:=⟨_,rfl⟩
 have XH:(F=none→R=([],[],false))∧∀l nodes,F=some (l,nodes)→R=((fF ⟨rd,nx,⟨nl,pl⟩,tl,jl,ql,⟨ef,el⟩,⟨af,al⟩⟩ id (l.length+1) 0 l nodes).1,(fF ⟨rd,nx,⟨nl,pl⟩,tl,jl,ql,⟨ef,el⟩,⟨af,al⟩⟩ id (l.length+1) 0 l nodes).2,true):=by
  have e:R=N1 ⟨rd,nx,⟨nl,pl⟩,tl,jl,ql,⟨ef,el⟩,⟨af,al⟩⟩ id A:=by rw [hR,hA];rfl
  unfold N1 at e
  rw [←hF] at e
  exact ⟨fun h=>by rw [h] at e;exact e,fun l nodes h=>by rw [h] at e;exact e⟩
 rw [←hA] at Vp hal
 rw [←hR]
 have hT:∀(u:List Int) (us:List (List D)),us=u.map Int.cells→u.length<1000000→FC 52 [SL us,.ptr 0 0,.ptr 1 0] [.var [az rd,az nx,SL ns,SL ps,SL ts,SL js,SL qs,az ef,SL es,az af,SL cQ],.var [az id]] (.ret (qD t (t _ fun _=>fR ⟨rd,nx,⟨nl,pl⟩,tl,jl,ql,⟨ef,el⟩,⟨af,al⟩⟩ id u))) [.var [az rd,az nx,SL ns,SL ps,SL ts,SL js,SL qs,az ef,SL es,az af,SL cQ],.var [az id]]:=
  fun u us h1 h2=>SW ht rd nx ef af fC hps hts eZ eU aA has id h1 h2 (fun k=>hg _)
 obtain ⟨T,VU⟩:∃T:List Int→List aQ×Bool,T=fR ⟨rd,nx,⟨nl,pl⟩,tl,jl,ql,⟨ef,el⟩,⟨af,al⟩⟩ id:=⟨_,rfl⟩
 obtain ⟨G,hG⟩:∃G:Nat→Nat→Option (List Int×List aQ),G=kn ⟨rd,nx,⟨nl,pl⟩,tl,jl,ql,⟨ef,el⟩,⟨af,al⟩⟩ id A:=⟨_,rfl⟩
 obtain ⟨H,hH⟩:∃H:Nat→Nat→List Int→List aQ→List Int×List aQ,H=fF ⟨rd,nx,⟨nl,pl⟩,tl,jl,ql,⟨ef,el⟩,⟨af,al⟩⟩ id:=⟨_,rfl⟩
 have YM:∀n k,G (n+1) k=if (T (A.take k)).2 then some (A.take k,(T (A.take k)).1) else G n (k+1):=by intro n k;rw [hG,VU];rfl
 have Z7:∀k,G 0 k=none:=by intro k;rw [hG];rfl
 have Vq:∀n k l nodes,H (n+1) k l nodes=if k<l.length then (if (T (l.eraseIdx k)).2 then H n k (l.eraseIdx k) (T (l.eraseIdx k)).1 else H n (k+1) l nodes) else (l,nodes):=by intro n k l nodes;rw [hH,VU];rfl
 rw [←hG] at hF
 rw [←hH] at XH
 rw [←VU] at hT
 clear hG hH VU hR hA
 refine bL ht (aI:=[]) Tryz.func19 rfl rfl (N:=62) rfl rfl (n:=0) rfl rfl ?_
 cbv
 have hw:IntKind.i64.wrap ((A.length:Int)+1)=(A.length:Int)+1:=wrap64 (by omega) (by omega)
 have aU:ns.length=nl.length:=by rw [fC,lgM]
 have aW:ps.length=pl.length:=by rw [hps,lgM]
 have aV:ts.length=tl.length:=by rw [hts,lgM]
 have aX:js.length=jl.length:=by rw [eZ,lgM]
 have aK:qs.length=ql.length:=by rw [eU,lgM]
 have av:es.length=el.length:=by rw [aA,lgM]
 have aJ:cQ.length=al.length:=by rw [has,lgM]
 (refine aB trv Vp (by simp [ht]) rfl rfl rfl (fun r1 dM=>?_);simp only [ht] at dM;subst r1)
 cbv
 obtain ⟨J0,fI⟩:∃J0:Nat→List (List D)×List (List D)×Bool×Int→Prop,∀m ls nd ok i,J0 m (ls,nd,ok,i)↔(∃k:Nat,i=k∧k+m=A.length+1∧ok=false∧F=G m k):=⟨fun m v=>match v with|(ls,nd,ok,i)=>(∃k:Nat,i=k∧k+m=A.length+1∧ok=false∧F=G m k),fun _ _ _ _ _=>Iff.rfl⟩
 refine bI ⟨[4,5,6,7,8,20,21],[(4,0),(5,0)],[]⟩ (σ:=List (List D)×List (List D)×Bool×Int) (fun v=>[(4,.d (.sl (t _ fun _=>v.1))),(5,.d (.sl (t _ fun _=>v.2.1))),(6,.d (.bool (t _ fun _=>v.2.2.1))),(21,.d (.int .i64 (t _ fun _=>v.2.2.2)))]) (fun v=>[]) J0 ?_
 cbv
 refine aC ⟨A.length+1,(_,_,_,_),(fI _ _ _ _ _).2 ?_,by simp only [ht];rfl,?_⟩
 ·exact ⟨0,rfl,by simp,rfl,hF⟩
 rintro m ⟨ls,nd,ok,i⟩ hj
 replace hj:=(fI _ _ _ _ _).1 hj
 obtain ⟨k,rfl,j1,rfl,j4⟩:=hj
 cbv
 refine an (fun h1=>?_) (fun h1=>?_)
 ·simp [ht,aa,aU,aW,aV,aX,aK,av,aJ,hw] at h1
  cbv
  refine ⟨?_,?_⟩
  ·(simp only [ht,bJ,lgM];refine ⟨by ((try simp only [aa] at*);omega),?_⟩;exact ng rfl)
  cbv
  (first|(refine o4 trv (Bx ht (by simp only [ht,lP];exact ng rfl) (by simp only [ht,lP];simp;((try simp only [aa] at*);omega))) (by simp [ht]) rfl rfl rfl ?_)|(obtain ⟨n1,DE⟩:∃n1,n1=L.length:=⟨_,rfl⟩;refine jg trv (FE ht (m:=n1) (by simp only [ht];exact ng i4) (by simp only [ht];rw [i4];simp;((try simp only [aa] at*);omega)) (by simp only [ht];rw [i4];simp [DE])) (by simp [ht]) rfl (.inr rfl) ?_))
  cbv
  (first|(obtain ⟨r,hr⟩:∃r,r=T (A.take k):=⟨_,rfl⟩;have XI:=hT (A.take k) _ rfl (by simp;((try simp only [aa] at*);omega));rw [←hr] at XI;rw [show m=(m-1)+1 by ((try simp only [aa] at*);omega),YM,←hr] at j4;refine dx [0,1] trv rfl rfl (hT (A.take k) _ (by simp only [ht,lP]) (by simp;((try simp only [aa] at*);omega))) (cj ?_);rw [←hr])|(obtain ⟨r,hr⟩:∃r,r=T (L.eraseIdx k2):=⟨_,rfl⟩;refine dx [0,1] trv rfl rfl (hT (L.eraseIdx k2) _ Og (by rw [List.length_eraseIdx];split<;>((try simp only [aa] at*);omega))) (cj ?_);rw [←hr]))
  cbv
  refine an (fun h2=>?_) (fun h2=>?_)
  ·simp [ht,aa,aU,aW,aV,aX,aK,av,aJ,hw] at h2
   cbv
   refine an (fun h3=>?_) (fun h3=>?_)
   ·simp [ht,aa,aU,aW,aV,aX,aK,av,aJ,hw] at h3
    cbv
    refine ax trv trv rfl rfl rfl ?_
    (simp only [ht,aa,CS,ve,qD];grind)
   simp [ht,aa,aU,aW,aV,aX,aK,av,aJ,hw] at h3
   cbv
   obtain ⟨J4,FM⟩:∃J4:Nat→List (List D)×List (List D)×Int→Prop,∀m ls nd i,J4 m (ls,nd,i)↔(∃(k2:Nat) (L:List Int) (N:List aQ),i=k2∧L.length=k2+m∧ls=L.map Int.cells∧nd=N.map bg∧L.length≤1000∧R=((H (m+1) k2 L N).1,(H (m+1) k2 L N).2,true)):=⟨fun m v=>match v with|(ls,nd,i)=>(∃(k2:Nat) (L:List Int) (N:List aQ),i=k2∧L.length=k2+m∧ls=L.map Int.cells∧nd=N.map bg∧L.length≤1000∧R=((H (m+1) k2 L N).1,(H (m+1) k2 L N).2,true)),fun _ _ _ _=>Iff.rfl⟩
   refine bI ⟨[4,5,7,10],[],[]⟩ (σ:=List (List D)×List (List D)×Int) (fun v=>[(4,.d (.sl (t _ fun _=>v.1))),(5,.d (.sl (t _ fun _=>v.2.1))),(10,.d (.int .i64 (t _ fun _=>v.2.2)))]) (fun v=>[]) J4 ?_
   cbv
   refine aC ⟨(A.take k).length,(_,_,_),(FM _ _ _ _).2 ?_,by simp only [ht];rfl,?_⟩
   ·exact ⟨0,A.take k,r.1,rfl,by simp,by simp only [ht,lP],rfl,by simp;((try simp only [aa] at*);omega),XH.2 _ _ (by rw [j4,if_pos (by simp_all)])⟩
   rintro m ⟨ls,nd,i⟩ hj
   replace hj:=(FM _ _ _ _).1 hj
   obtain ⟨k2,L,N,rfl,i1,i4,i5,i6,i7⟩:=hj
   have pK:ls.length=L.length:=by rw [i4,lgM]
   have CT:nd.length=N.length:=by rw [i5,lgM]
   cbv
   refine an (fun h5=>?_) (fun h5=>?_)
   ·simp [ht,aa,aU,aW,aV,aX,aK,av,aJ,pK,CT,hw] at h5
    cbv
    (first|(refine o4 trv (Bx ht (by simp only [ht,lP];exact ng rfl) (by simp only [ht,lP];simp;((try simp only [aa] at*);omega))) (by simp [ht]) rfl rfl rfl ?_)|(obtain ⟨n1,DE⟩:∃n1,n1=L.length:=⟨_,rfl⟩;refine jg trv (FE ht (m:=n1) (by simp only [ht];exact ng i4) (by simp only [ht];rw [i4];simp;((try simp only [aa] at*);omega)) (by simp only [ht];rw [i4];simp [DE])) (by simp [ht]) rfl (.inr rfl) ?_))
    cbv
    (obtain ⟨VV,Og⟩:∃r,r=(L.eraseIdx k2).map Int.cells:=⟨_,rfl⟩;refine dx [2] trv rfl rfl (HN ht (l:=L) (i:=k2) (by simp only [ht];exact i4) DE (by simp only [ht]) (by simp only [ht];exact aD (by ((try simp only [aa] at*);omega))) (by ((try simp only [aa] at*);omega)) (by ((try simp only [aa] at*);omega)) Og) (cj ?_))
    cbv
    (first|(obtain ⟨r,hr⟩:∃r,r=T (A.take k):=⟨_,rfl⟩;have XI:=hT (A.take k) _ rfl (by simp;((try simp only [aa] at*);omega));rw [←hr] at XI;rw [show m=(m-1)+1 by ((try simp only [aa] at*);omega),YM,←hr] at j4;refine dx [0,1] trv rfl rfl (hT (A.take k) _ (by simp only [ht,lP]) (by simp;((try simp only [aa] at*);omega))) (cj ?_);rw [←hr])|(obtain ⟨r,hr⟩:∃r,r=T (L.eraseIdx k2):=⟨_,rfl⟩;refine dx [0,1] trv rfl rfl (hT (L.eraseIdx k2) _ Og (by rw [List.length_eraseIdx];split<;>((try simp only [aa] at*);omega))) (cj ?_);rw [←hr]))
    cbv
    refine an (fun h6=>?_) (fun h6=>?_)
    ·simp [ht,aa,aU,aW,aV,aX,aK,av,aJ,pK,CT,hw] at h6
     cbv
     refine cL (_,_,_) (by simp only [ht];rfl) (m-1) ?_ ((FM _ _ _ _).2 ?_)
     ·omega
     simp only [ht,aa]
     first|exact ⟨k2+1,L,N,aD (by ((try simp only [aa] at*);omega)),by ((try simp only [aa] at*);omega),i4,i5,i6,(by have e:m-1+1=m:=(by ((try simp only [aa] at*);omega));rw [e,i7,Vq,if_pos (by ((try simp only [aa] at*);omega)),←hr,if_neg (by simp_all)])⟩|exact ⟨k2,L.eraseIdx k2,r.1,rfl,by rw [List.length_eraseIdx];split<;>((try simp only [aa] at*);omega),Og,rfl,by rw [List.length_eraseIdx];split<;>((try simp only [aa] at*);omega),(by have e:m-1+1=m:=(by ((try simp only [aa] at*);omega));rw [e,i7,Vq,if_pos (by ((try simp only [aa] at*);omega)),←hr,if_pos (by simp_all)])⟩
    simp [ht,aa,aU,aW,aV,aX,aK,av,aJ,pK,CT,hw] at h6
    cbv
    refine cL (_,_,_) (by simp only [ht];rfl) (m-1) ?_ ((FM _ _ _ _).2 ?_)
    ·omega
    simp only [ht,aa]
    first|exact ⟨k2+1,L,N,aD (by ((try simp only [aa] at*);omega)),by ((try simp only [aa] at*);omega),i4,i5,i6,(by have e:m-1+1=m:=(by ((try simp only [aa] at*);omega));rw [e,i7,Vq,if_pos (by ((try simp only [aa] at*);omega)),←hr,if_neg (by simp_all)])⟩|exact ⟨k2,L.eraseIdx k2,r.1,rfl,by rw [List.length_eraseIdx];split<;>((try simp only [aa] at*);omega),Og,rfl,by rw [List.length_eraseIdx];split<;>((try simp only [aa] at*);omega),(by have e:m-1+1=m:=(by ((try simp only [aa] at*);omega));rw [e,i7,Vq,if_pos (by ((try simp only [aa] at*);omega)),←hr,if_pos (by simp_all)])⟩
   simp [ht,aa,aU,aW,aV,aX,aK,av,aJ,pK,CT,hw] at h5
   cbv
   refine ax trv trv rfl rfl rfl ?_
   (have e:R=(L,N,true):=(by rw [i7,show m=0 by ((try simp only [aa] at*);omega),Vq,if_neg (by ((try simp only [aa] at*);omega))]);simp [ht,e,i4,i5];done)
  cbv
  refine cL (_,_,_,_) (by simp only [ht];rfl) (m-1) ?_ ((fI _ _ _ _ _).2 ?_)
  ·((try simp only [aa] at*);omega)
  simp only [ht,aa]
  exact ⟨k+1,aD (by ((try simp only [aa] at*);omega)),by ((try simp only [aa] at*);omega),by simp_all,by rw [j4,if_neg (by simp_all)]⟩
 cbv
 refine an (fun h7=>?_) (fun h7=>?_)
 ·cbv
  refine ax trv trv rfl rfl rfl ?_
  (have hm0:m=0:=(by first|((try simp only [aa] at*);omega)|(simp [ht,aa,hw] at h1;((try simp only [aa] at*);omega)));subst hm0;have e:=XH.1 (j4.trans (Z7 _));simp [ht,e];done)
 (exact absurd h7 (by simp [ht]))
theorem FF {s:bH} (h:s.good) (p:Int):(zK s.aG p).length≤12:=Qb h _ (fun j hj=>by simp only [Bool.and_eq_true] at hj;exact hj.1)
theorem sg {s:bH} (h:s.good) (id:Int):(cm s id).length<1000:=by
 unfold cm
 split
 ·simp
 rw [lgM,List.length_mergeSort]
 have:=FF h (cG s.aG id).1.x.prio
 unfold zK at this;omega
theorem iX (ht:TT t) (s:bH) (h:s.good) (id:Int):FC 20 [fL t s,az id] [] (.ret (qD t (t _ fun _=>gH s id))) []:=
 I4 ht _ _ _ _ (by simp only [ht]) (by simp only [ht]) (by simp only [ht]) (by simp only [ht]) (by simp only [ht]) (by simp only [ht]) (by simp only [ht]) h.sm id
theorem tZ (ht:TT t) (s:bH) (h:s.good) (id:Int):FC 23 [fL t s,az id] [] (.ret (cP (t _ fun _=>rX s id))) []:=
 KQ ht _ _ _ _ (by simp only [ht]) (by simp only [ht]) (by simp only [ht]) (by simp only [ht]) (by simp only [ht]) (by simp only [ht]) (by simp only [ht]) h.sm id
theorem nh (ht:TT t) (s:bH) (h:s.good) (id:Int):FC 18 [fL t s,az id] [] (.ret (ve t (t _ fun _=>cm s id))) []:=
 Of ht _ _ _ _ (by simp only [ht]) (by simp only [ht]) (by simp only [ht]) (by simp only [ht]) (by simp only [ht]) (by simp only [ht]) (by simp only [ht]) id h.sm.aG.1 (FF h) h.ok.ids
theorem sj (ht:TT t) (s:bH) (h:s.good) (id:Int):FC 19 [fL t s,az id] [] (.ret (CS t (t _ fun _=>bF s id))) []:=
 HO ht _ _ _ _ (by simp only [ht]) (by simp only [ht]) (by simp only [ht]) (by simp only [ht]) (by simp only [ht]) (by simp only [ht]) (by simp only [ht]) id (nh ht s h id) (sg h id) (fun l=>(kN h l).sm)
theorem Qv (ht:TT t) (s:bH) (h:s.good) (id kd:Int):FC 39 [fL t s,az id,bG kd] [] (.ret (zb t (t _ fun _=>eJ s id kd))) []:=
 wW ht _ _ _ _ (by simp only [ht]) (by simp only [ht]) (by simp only [ht]) (by simp only [ht]) (by simp only [ht]) (by simp only [ht]) (by simp only [ht]) id kd (zB h.sm) h.sm.tree.1 h.sm.aG.1 h.sm.places h.sm.queue h.sm.notes.1
theorem HP (ht:TT t) (s:bH) (h:s.good) (k:Nat) {kk:Int} (hk:kk=k) (hk2:k<256):FC 16 [fL t s,U8 kk] [] (.ret (EC (t _ fun _=>ke s k))) []:=
 HH ht _ _ _ _ (by simp only [ht]) (by simp only [ht]) (by simp only [ht]) (by simp only [ht]) (by simp only [ht]) (by simp only [ht]) (by simp only [ht]) k hk hk2 h.sm.queue
theorem zL (ht:TT t) {l m:List Int} {es fs:List (List D)} (aA:es=l.map Int.cells) (Rb:fs=m.map Int.cells) (hl:l.length<1000000000) (hm:m.length<1000000000):
 FC 40 [SL es,SL fs] [] (.ret (cP (t _ fun _=>decide (l=m)))) []:=by
 refine bL ht (aI:=[]) Tryz.func40 rfl rfl (N:=26) rfl rfl (n:=0) rfl rfl ?_
 cbv
 have av:es.length=l.length:=by rw [aA,lgM]
 have fM:fs.length=m.length:=by rw [Rb,lgM]
 refine an (fun h0=>?_) (fun h0=>?_)
 ·simp [ht,aa,av,fM] at h0
  cbv
  refine ax trv trv rfl rfl rfl ?_
  (simp [ht];rintro rfl;simp_all;done)
 simp [ht,aa,av,fM] at h0
 cbv
 obtain ⟨J1,pF⟩:∃J1:Nat→Int→Prop,∀n i,J1 n i↔(∃k:Nat,i=k∧k+n=l.length∧l.length=m.length∧decide (l=m)=decide (l.drop k=m.drop k)):=⟨fun n v=>match v with|i=>(∃k:Nat,i=k∧k+n=l.length∧l.length=m.length∧decide (l=m)=decide (l.drop k=m.drop k)),fun _ _=>Iff.rfl⟩
 refine bI ⟨[0,1,5],[],[]⟩ (σ:=Int) (fun v=>[(5,.d (.int .i64 (t _ fun _=>v)))]) (fun v=>[]) J1 ?_
 cbv
 refine aC ⟨l.length,_,(pF _ _).2 ?_,by simp only [ht];rfl,?_⟩
 ·exact ⟨0,rfl,by simp,by ((try simp only [aa] at*);omega),by simp⟩
 rintro n i hj
 replace hj:=(pF _ _).1 hj
 obtain ⟨k,rfl,j1,j2,j4⟩:=hj
 cbv
 refine an (fun h2=>?_) (fun h2=>?_)
 ·simp [ht,aa,av,fM] at h2
  cbv
  refine c7 [false,false,false,false,false,false,false,false,true] (by kernel_rfl) (by kernel_rfl) ?_
  cbv
  iterate 2 refine gI (by simp [ht,ah]) ?_
  refine jZ ht aA (cT:=Int.bC t) (by (simp only [ht,aa];omega)) (by (simp only [ht,aa];omega)) (fun _=>rfl) (fun _=>rfl) (fun x3 U3=>?_)
  simp [ht,aa] at U3
  rw [gu U3] at j4
  cbv
  iterate 3 refine gI (by simp [ht,ah]) ?_
  refine jZ ht Rb (cT:=Int.bC t) (by (simp only [ht,aa];omega)) (by (simp only [ht,aa];omega)) (fun _=>rfl) (fun _=>rfl) (fun x4 FN=>?_)
  simp [ht,aa] at FN
  rw [gu FN] at j4
  cbv
  refine gI (by simp [ht,ah]) ?_
  refine an (fun h5=>?_) (fun h5=>?_)
  ·simp [ht,aa,av,fM] at h5
   cbv
   refine ax trv trv rfl rfl rfl ?_
   (simp [ht];rintro rfl;simp_all;done)
  simp [ht,aa,av,fM] at h5
  cbv
  refine cL _ (by simp only [ht];rfl) (n-1) ?_ ((pF _ _).2 ?_)
  ·omega
  simp only [ht,aa]
  refine ⟨k+1,aD (by omega),by omega,by omega,?_⟩
  (simp [ht,cP, *];done)
 simp [ht,aa,av,fM] at h2
 cbv
 refine ax trv trv rfl rfl rfl ?_
 (simp [ht,j4,List.drop_eq_nil_of_le (show l.length≤k by omega),List.drop_eq_nil_of_le (show m.length≤k by omega)];done)
theorem HQ (ht:TT t):FC 14 [] [] (.ret (BL true)) []:=by
 obtain ⟨S,hS⟩:∃S,S=u9 5:=⟨_,rfl⟩
 obtain ⟨S0,VW⟩:∃S0,S0=JR:=⟨_,rfl⟩
 obtain ⟨S1,Vr⟩:∃S1,S1=(eJ S 1 5).1:=⟨_,rfl⟩
 have gS:S.good:=by rw [hS];exact K0 5
 have gZ:S0.good:=by rw [VW];exact K1
 have gT:S1.good:=by rw [Vr];exact uS gS 1 5
 have f1:(gH S 2).2=false:=by rw [hS];exact ZY
 have f2:rX S 2=true:=by rw [hS];exact ZZ
 have f3:rX S 1=false:=by rw [hS];exact Z0
 have f4:cm S 2=[1]:=by rw [hS];exact YJ
 have f5:cm S 1=[]:=by rw [hS];exact Z1
 have f6:bF S 2=([1],[[110,49]],true):=by rw [hS];exact Z2
 have f7:bF S0 1=([],[],false):=by rw [VW];exact Z3
 have f8:eJ S 1 5=(S1,0):=by rw [Prod.ext_iff];exact ⟨Vr.symm,by rw [hS];exact Z4⟩
 have f9:gH S1 2=([[110,49]],true):=by rw [Vr,hS];exact Z5
 have f10:(gH S1 1).2=true:=by rw [Vr,hS];exact XC
 have c2:FC 37 [] [] (.ret (fL t (t _ fun _=>S))) []:=by rw [hS];exact SP ht
 have cn:FC 38 [] [] (.ret (fL t (t _ fun _=>S0))) []:=by rw [VW];exact IX ht
 have cs:FC 39 [fL t S,az 1,bG 5] [] (.ret (zb t (t _ fun _=>(S1,0)))) []:=by rw [←f8];exact Qv ht S gS 1 5
 have cv:FC 19 [fL t S,az 2] [] (.ret (CS t (t _ fun _=>([1],[[110,49]],true)))) []:=by rw [←f6];exact sj ht S gS 2
 have YN:FC 19 [fL t S0,az 1] [] (.ret (CS t (t _ fun _=>([],[],false)))) []:=by rw [←f7];exact sj ht S0 gZ 1
 clear hS VW Vr
 refine bL ht (aI:=[]) Tryz.func14 rfl rfl (N:=104) rfl rfl (n:=0) rfl rfl ?_
 cbv
 (refine aB trv c2 trv rfl rfl rfl (fun r0 cF=>?_);simp only [ht] at cF;subst r0)
 cbv
 (first|(refine aB trv (iX ht S gS 2) (by simp [ht]) rfl rfl rfl (fun q1 Rj=>?_);simp only [ht] at Rj;replace f1:q1.2=false:=(by rw [Rj];exact f1))|(refine aB trv (iX ht S1 gT 2) (by simp [ht]) rfl rfl rfl (fun q2 Vs=>?_);simp only [ht,f9] at Vs;subst q2)|(refine aB trv (iX ht S1 gT 1) (by simp [ht]) rfl rfl rfl (fun q3 Rk=>?_);simp only [ht] at Rk;replace f10:q3.2=true:=(by rw [Rk];exact f10)))
 cbv
 (first|(refine aB trv cv (by simp [ht]) rfl rfl rfl (fun r0 cF=>?_);simp only [ht] at cF;subst r0)|(refine aB trv YN (by simp [ht]) rfl rfl rfl (fun r0 cF=>?_);simp only [ht] at cF;subst r0))
 cbv
 (refine aB trv cn trv rfl rfl rfl (fun r0 cF=>?_);simp only [ht] at cF;subst r0)
 cbv
 (first|(refine aB trv cv (by simp [ht]) rfl rfl rfl (fun r0 cF=>?_);simp only [ht] at cF;subst r0)|(refine aB trv YN (by simp [ht]) rfl rfl rfl (fun r0 cF=>?_);simp only [ht] at cF;subst r0))
 cbv
 (refine aB trv cs (by simp [ht]) rfl rfl rfl (fun r0 cF=>?_);simp only [ht] at cF;subst r0)
 cbv
 (first|(refine aB trv (iX ht S gS 2) (by simp [ht]) rfl rfl rfl (fun q1 Rj=>?_);simp only [ht] at Rj;replace f1:q1.2=false:=(by rw [Rj];exact f1))|(refine aB trv (iX ht S1 gT 2) (by simp [ht]) rfl rfl rfl (fun q2 Vs=>?_);simp only [ht,f9] at Vs;subst q2)|(refine aB trv (iX ht S1 gT 1) (by simp [ht]) rfl rfl rfl (fun q3 Rk=>?_);simp only [ht] at Rk;replace f10:q3.2=true:=(by rw [Rk];exact f10)))
 cbv
 (first|(refine aB trv (iX ht S gS 2) (by simp [ht]) rfl rfl rfl (fun q1 Rj=>?_);simp only [ht] at Rj;replace f1:q1.2=false:=(by rw [Rj];exact f1))|(refine aB trv (iX ht S1 gT 2) (by simp [ht]) rfl rfl rfl (fun q2 Vs=>?_);simp only [ht,f9] at Vs;subst q2)|(refine aB trv (iX ht S1 gT 1) (by simp [ht]) rfl rfl rfl (fun q3 Rk=>?_);simp only [ht] at Rk;replace f10:q3.2=true:=(by rw [Rk];exact f10)))
 cbv
 refine gI (by simp [ht,ah]) ?_
 (first|(refine cY (fun g9=>⟨(by first|trivial|exact ⟨g9,trv⟩|exact ⟨g9,g9,trv⟩|exact ⟨g9,g9,g9,trv⟩|exact ⟨g9,g9,g9,g9,trv⟩),by simp [ht],tZ ht S gS 2⟩) rfl rfl (fun q4 Vt=>?_);simp only [ht] at Vt;rw [f2] at Vt;subst q4)|(refine cY (fun g9=>⟨(by first|trivial|exact ⟨g9,trv⟩|exact ⟨g9,g9,trv⟩|exact ⟨g9,g9,g9,trv⟩|exact ⟨g9,g9,g9,g9,trv⟩),by simp [ht],tZ ht S gS 1⟩) rfl rfl (fun q5 Vu=>?_);simp only [ht] at Vu;rw [f3] at Vu;subst q5))
 cbv
 refine pI (by simp [ht,ah]) ?_
 refine gI (by simp [ht,ah]) ?_
 (first|(refine cY (fun g9=>⟨(by first|trivial|exact ⟨g9,trv⟩|exact ⟨g9,g9,trv⟩|exact ⟨g9,g9,g9,trv⟩|exact ⟨g9,g9,g9,g9,trv⟩),by simp [ht],tZ ht S gS 2⟩) rfl rfl (fun q4 Vt=>?_);simp only [ht] at Vt;rw [f2] at Vt;subst q4)|(refine cY (fun g9=>⟨(by first|trivial|exact ⟨g9,trv⟩|exact ⟨g9,g9,trv⟩|exact ⟨g9,g9,g9,trv⟩|exact ⟨g9,g9,g9,g9,trv⟩),by simp [ht],tZ ht S gS 1⟩) rfl rfl (fun q5 Vu=>?_);simp only [ht] at Vu;rw [f3] at Vu;subst q5))
 cbv
 refine gI (by simp [ht,ah]) ?_
 refine pI (by simp [ht,ah]) ?_
 refine gI (by simp [ht,ah]) ?_
 (first|(refine fc (fun g9=>⟨(by first|trivial|exact ⟨g9,trv⟩|exact ⟨g9,g9,trv⟩|exact ⟨g9,g9,g9,trv⟩|exact ⟨g9,g9,g9,g9,trv⟩),by simp [ht],nh ht S gS 2⟩) rfl rfl rfl (fun q6 Vv=>?_);simp only [ht] at Vv;rw [f4] at Vv;subst q6)|(refine fc (fun g9=>⟨(by first|trivial|exact ⟨g9,trv⟩|exact ⟨g9,g9,trv⟩|exact ⟨g9,g9,g9,trv⟩|exact ⟨g9,g9,g9,g9,trv⟩),by simp [ht],nh ht S gS 1⟩) rfl rfl rfl (fun q7 Vw=>?_);simp only [ht] at Vw;rw [f5] at Vw;subst q7))
 cbv
 refine gI (by simp [ht,ah]) ?_
 (refine cY (fun g9=>⟨(by first|trivial|exact ⟨g9,trv⟩|exact ⟨g9,g9,trv⟩|exact ⟨g9,g9,g9,trv⟩|exact ⟨g9,g9,g9,g9,trv⟩),by simp [ht],zL ht (l:=[1]) (m:=[1]) (by first|rfl|simp only [ht]) (by first|rfl|simp only [ht]) (by simp) (by simp)⟩) rfl rfl (fun q8 XJ=>?_);simp only [ht,decide_true] at XJ;subst q8)
 cbv
 refine pI (by simp [ht,ah]) ?_
 refine gI (by simp [ht,ah]) ?_
 (first|(refine fc (fun g9=>⟨(by first|trivial|exact ⟨g9,trv⟩|exact ⟨g9,g9,trv⟩|exact ⟨g9,g9,g9,trv⟩|exact ⟨g9,g9,g9,g9,trv⟩),by simp [ht],nh ht S gS 2⟩) rfl rfl rfl (fun q6 Vv=>?_);simp only [ht] at Vv;rw [f4] at Vv;subst q6)|(refine fc (fun g9=>⟨(by first|trivial|exact ⟨g9,trv⟩|exact ⟨g9,g9,trv⟩|exact ⟨g9,g9,g9,trv⟩|exact ⟨g9,g9,g9,g9,trv⟩),by simp [ht],nh ht S gS 1⟩) rfl rfl rfl (fun q7 Vw=>?_);simp only [ht] at Vw;rw [f5] at Vw;subst q7))
 cbv
 iterate 2 refine gI (by simp [ht,ah]) ?_
 refine pI (by simp [ht,ah]) ?_
 refine gI (by simp [ht,ah]) ?_
 refine pI (by simp [ht,ah]) ?_
 iterate 2 refine gI (by simp [ht,ah]) ?_
 (refine cY (fun g9=>⟨(by first|trivial|exact ⟨g9,trv⟩|exact ⟨g9,g9,trv⟩|exact ⟨g9,g9,g9,trv⟩|exact ⟨g9,g9,g9,g9,trv⟩),by simp [ht],zL ht (l:=[1]) (m:=[1]) (by first|rfl|simp only [ht]) (by first|rfl|simp only [ht]) (by simp) (by simp)⟩) rfl rfl (fun q8 XJ=>?_);simp only [ht,decide_true] at XJ;subst q8)
 cbv
 refine pI (by simp [ht,ah]) ?_
 iterate 2 refine gI (by simp [ht,ah]) ?_
 (refine cY (fun g9=>⟨(by first|trivial|exact ⟨g9,trv⟩|exact ⟨g9,g9,trv⟩|exact ⟨g9,g9,g9,trv⟩|exact ⟨g9,g9,g9,g9,trv⟩),by simp [ht],ze ht (l:=[[110,49]]) (m:=[[110,49]]) (by first|rfl|simp only [ht]) (by first|rfl|simp only [ht]) (by simp) (by simp)⟩) rfl rfl (fun q9 Vx=>?_);simp only [ht,decide_true] at Vx;subst q9)
 cbv
 refine pI (by simp [ht,ah]) ?_
 iterate 2 refine gI (by simp [ht,ah]) ?_
 refine pI (by simp [ht,ah]) ?_
 iterate 2 refine gI (by simp [ht,ah]) ?_
 refine pI (by simp [ht,ah]) ?_
 refine gI (by simp [ht,ah]) ?_
 refine pI (by simp [ht,ah]) ?_
 iterate 2 refine gI (by simp [ht,ah]) ?_
 (refine cY (fun g9=>⟨(by first|trivial|exact ⟨g9,trv⟩|exact ⟨g9,g9,trv⟩|exact ⟨g9,g9,g9,trv⟩|exact ⟨g9,g9,g9,g9,trv⟩),by simp [ht],ze ht (l:=[[110,49]]) (m:=[[110,49]]) (by first|rfl|simp only [ht]) (by first|rfl|simp only [ht]) (by simp) (by simp)⟩) rfl rfl (fun q9 Vx=>?_);simp only [ht,decide_true] at Vx;subst q9)
 cbv
 refine pI (by simp [ht,ah]) ?_
 refine gI (by simp [ht,ah]) ?_
 refine pI (by simp [ht,ah]) ?_
 refine ax trv trv rfl rfl rfl ?_
 (simp [ht,f1,f10];done)
theorem HR (ht:TT t) (rd nx ef af:Int) {nl:List Node} {pl:List Place} {tl:List bu} {jl:List Jb} {ql:List cR} {el al:List eI} {ns ps ts js qs es cQ:List (List D)} (fC:ns=nl.map Node.cells) (hps:ps=pl.map Place.cells) (hts:ts=tl.map bu.cells) (eZ:js=jl.map Jb.cells) (eU:qs=ql.map cR.cells) (aA:es=el.map eI.cells) (has:cQ=al.map eI.cells) {ids:List Int} {ir:List (List D)} (Rf:ir=ids.map Int.cells) (hil:ids.length<1000000) (hg:∀k,(bB ⟨rd,nx,⟨nl,pl⟩,tl,jl,ql,⟨ef,el⟩,⟨af,al⟩⟩ (ids.take k)).sm):
 FC 21 [.agg [az rd,az nx,SL ns,SL ps,SL ts,SL js,SL qs,az ef,SL es,az af,SL cQ],SL ir] [] (.ret (fL t (t _ fun _=>bB ⟨rd,nx,⟨nl,pl⟩,tl,jl,ql,⟨ef,el⟩,⟨af,al⟩⟩ ids))) []:=by
 obtain ⟨S,hS⟩:∃S:bH,S=⟨rd,nx,⟨nl,pl⟩,tl,jl,ql,⟨ef,el⟩,⟨af,al⟩⟩:=⟨_,rfl⟩
 rw [←hS] at hg ⊢
 have Xj:Told S rd nx ns ps ts js qs ef es af cQ:=by rw [hS];exact ⟨rfl,rfl,fC,hps,hts,eZ,eU,rfl,aA,rfl,has⟩
 clear hS
 refine bL ht (aI:=[]) Tryz.func21 rfl rfl (N:=22) rfl rfl (n:=0) rfl rfl ?_
 cbv
 have aU:ns.length=nl.length:=by rw [fC,lgM]
 have aW:ps.length=pl.length:=by rw [hps,lgM]
 have aV:ts.length=tl.length:=by rw [hts,lgM]
 have aX:js.length=jl.length:=by rw [eZ,lgM]
 have aK:qs.length=ql.length:=by rw [eU,lgM]
 have av:es.length=el.length:=by rw [aA,lgM]
 have aJ:cQ.length=al.length:=by rw [has,lgM]
 have uU:ir.length=ids.length:=by rw [Rf,lgM]
 obtain ⟨J0,fI⟩:∃J0:Nat→Int×Int×Int×List (List D)×List (List D)×List (List D)×List (List D)×List (List D)×Int×List (List D)×Int×List (List D)→Prop,∀n i rd nx ns ps ts js qs ef es af cQ,J0 n (i,rd,nx,ns,ps,ts,js,qs,ef,es,af,cQ)↔(∃k:Nat,i=k∧k+n=ids.length∧Told (bB S (ids.take k)) rd nx ns ps ts js qs ef es af cQ):=⟨fun n v=>match v with|(i,rd,nx,ns,ps,ts,js,qs,ef,es,af,cQ)=>(∃k:Nat,i=k∧k+n=ids.length∧Told (bB S (ids.take k)) rd nx ns ps ts js qs ef es af cQ),fun _ _ _ _ _ _ _ _ _ _ _ _ _=>Iff.rfl⟩
 refine bI ⟨[1,2,4,5],[],[]⟩ (σ:=Int×Int×Int×List (List D)×List (List D)×List (List D)×List (List D)×List (List D)×Int×List (List D)×Int×List (List D)) (fun v=>[(5,.d (.int .i64 (t _ fun _=>v.1)))]) (fun v=>[(0,.var [.d (.int .u64 (t _ fun _=>v.2.1)),.d (.int .u64 (t _ fun _=>v.2.2.1)),.d (.sl (t _ fun _=>v.2.2.2.1)),.d (.sl (t _ fun _=>v.2.2.2.2.1)),.d (.sl (t _ fun _=>v.2.2.2.2.2.1)),.d (.sl (t _ fun _=>v.2.2.2.2.2.2.1)),.d (.sl (t _ fun _=>v.2.2.2.2.2.2.2.1)),.d (.int .u64 (t _ fun _=>v.2.2.2.2.2.2.2.2.1)),.d (.sl (t _ fun _=>v.2.2.2.2.2.2.2.2.2.1)),.d (.int .u64 (t _ fun _=>v.2.2.2.2.2.2.2.2.2.2.1)),.d (.sl (t _ fun _=>v.2.2.2.2.2.2.2.2.2.2.2))])]) J0 ?_
 cbv
 refine aC ⟨ids.length,(_,_,_,_,_,_,_,_,_,_,_,_),(fI _ _ _ _ _ _ _ _ _ _ _ _ _).2 ?_,by simp only [ht];rfl,?_⟩
 ·exact ⟨0,rfl,by simp,Xj⟩
 rintro n ⟨i,rd,nx,ns,ps,ts,js,qs,ef,es,af,cQ⟩ hj
 replace hj:=(fI _ _ _ _ _ _ _ _ _ _ _ _ _).1 hj
 obtain ⟨k,rfl,j1,jT⟩:=hj
 cbv
 refine an (fun h1=>?_) (fun h1=>?_)
 ·simp [ht,aa,aU,aW,aV,aX,aK,av,aJ,uU] at h1
  cbv
  refine tn [1,2] [1,2,6,7,8] [false,false,false,false,false,true,true,false,false,true] (by kernel_rfl) (by kernel_rfl) (by kernel_rfl) (by kernel_rfl) (by kernel_rfl) (by kernel_rfl) ?_
  cbv
  iterate 3 refine gI (by simp [ht,ah]) ?_
  refine jZ ht Rf (cT:=Int.bC t) (by (simp only [ht,aa];omega)) (by (simp only [ht,aa];omega)) (fun _=>rfl) (fun _=>rfl) (fun x2 nj=>?_)
  simp [ht,aa] at nj
  cbv
  refine gI (by simp [ht,ah]) ?_
  (have Bq:=hg k;refine aB trv (wW ht _ _ _ _ (nl:=(bB S (ids.take k)).bz.nodes) (pl:=(bB S (ids.take k)).bz.places) (tl:=(bB S (ids.take k)).tree) (jl:=(bB S (ids.take k)).aG) (ql:=(bB S (ids.take k)).queue) (el:=(bB S (ids.take k)).ev.l) (al:=(bB S (ids.take k)).au.l) (by simp only [ht];exact jT.n) (by simp only [ht];exact jT.p) (by simp only [ht];exact jT.t) (by simp only [ht];exact jT.j) (by simp only [ht];exact jT.q) (by simp only [ht];exact jT.e) (by simp only [ht];exact jT.a) _ _ (zB Bq) Bq.tree.1 Bq.aG.1 Bq.places Bq.queue Bq.notes.1) (by simp [ht]) rfl rfl rfl (fun r1 dM=>?_);simp only [ht] at dM;rw [jT.eq] at dM)
  cbv
  iterate 2 refine gI (by simp [ht,ah]) ?_
  refine cL (_,_,_,_,_,_,_,_,_,_,_,_) (by simp only [ht];rfl) (n-1) ?_ ((fI _ _ _ _ _ _ _ _ _ _ _ _ _).2 ?_)
  ·omega
  simp only [ht,aa]
  exact ⟨k+1,aD (by ((try simp only [aa] at*);omega)),by ((try simp only [aa] at*);omega),by rw [qQ nj,←dM];exact Told.self r1.1⟩
 simp [ht,aa,aU,aW,aV,aX,aK,av,aJ,uU] at h1
 cbv
 refine ax trv trv rfl rfl rfl ?_
 (rw [List.take_of_length_le (by ((try simp only [aa] at*);omega))] at jT;simp only [ht,jT.r,jT.x,jT.n,jT.p,jT.t,jT.j,jT.q,jT.f,jT.e,jT.g,jT.a];done)
theorem zM (ht:TT t) (s:bH) (h:s.good) (ids:List Int) (hil:ids.length<1000000):FC 21 [fL t s,SL (t _ fun _=>ids.map Int.cells)] [] (.ret (fL t (t _ fun _=>bB s ids))) []:=
 HR ht _ _ _ _ (by simp only [ht]) (by simp only [ht]) (by simp only [ht]) (by simp only [ht]) (by simp only [ht]) (by simp only [ht]) (by simp only [ht]) (by simp only [ht]) hil (fun k=>(kN h _).sm)
theorem By {s:bH} (id:Int):(gH s id).1.length<1000000:=by
 unfold gH kj
 split
 ·simp
 split
 ·simp
 exact uR _ _ _ _
theorem sn {s:bH} {id:Int}:∀(n k:Nat) (l:List Int) (nodes:List aQ),nodes.length<1000000→(fF s id n k l nodes).1.length≤l.length∧(fF s id n k l nodes).2.length<1000000
 |0,_,_,_,h=>⟨Nat.le_refl _,h⟩
 |n+1,k,l,nodes,h=>by
  rw [fF]
  split
  ·split
   ·have:=sn (s:=s) (id:=id) n k (l.eraseIdx k) (fR s id (l.eraseIdx k)).1 (By id)
    have h2:(l.eraseIdx k).length≤l.length:=by rw [List.length_eraseIdx];split<;>omega
    exact ⟨by omega,this.2⟩
   exact sn n (k+1) l nodes h
  exact ⟨Nat.le_refl _,h⟩
theorem zN {s:bH} {id:Int} {all:List Int}:∀(n k:Nat) (l:List Int) (nodes:List aQ),kn s id all n k=some (l,nodes)→l.length≤all.length∧nodes.length<1000000
 |0,_,_,_,h=>by cases h
 |n+1,k,l,nodes,h=>by
  rw [kn] at h
  split at h
  ·cases h;exact ⟨by simp;omega,By id⟩
  exact zN n (k+1) l nodes h
theorem CU {s:bH} (h:s.good) (id:Int):(bF s id).1.length<1000000∧(bF s id).2.1.length<1000000:=by
 have ha:=sg h id
 unfold bF
 split
 ·simp
 rename_i l nodes e
 have h1:=zN _ _ _ _ e
 have h2:=sn (s:=s) (id:=id) (l.length+1) 0 l nodes h1.2
 exact ⟨by have:=h2.1;simp only;omega,h2.2⟩
end Dem
end
