/- Parts of a proof, joined. -/
import Derived.Test.YtihohjnkkalgiaaGreatDoorU10
set_option linter.all false
set_option maxRecDepth 100000
set_option maxHeartbeats 4000000
open Go Dem Go.Proofs
namespace Dem
variable {t:Th}
theorem FF (ht:TT t) (hx0:FC 25 [] [] (.ret (BL true)) []) (N:Nat) (hN:N<256) {a:Int} (ea:a=N) {l:List iX} {dl:List (List D)} (Sq:dl=l.map iX.cells) (ZQ:∀x∈l,x.u) (hll:l.length<9223372036854775808) (r:Nat) (oN:r<256) {rr:Int} (hr:rr=r):
 FC 12 [U8 a,SL dl,U8 rr] [] (.ret (BL true)) []:=by
 obtain ⟨S,hS⟩:∃S,S=gW N l (min l.length 40):=⟨_,rfl⟩
 have fS:S.fair:=by rw [hS];exact (rL _ _ _).fair
 have hL:FC 26 [U8 a,SL dl] [] (.ret (ff t (t _ fun _=>S))) []:=by rw [hS];exact D2 ht N hN ea Sq ZQ hll
 have ZB:IntKind.i64.wrap (rr.tmod 12)=((r%12:Nat):Int):=by rw [hr,Zj,NA _ (by omega)]
 clear hS
 refine cr ht Tryz.func12 (N:=29) ?_
 cbv
 have Fy:dl.length=l.length:=by rw [Sq,lgM]
 (refine gF trv hx0 trv rfl rfl ?_)
 cbv
 apply ap<;>intro h0
 ·simp [ht] at h0
 simp [ht] at h0
 cbv
 (refine aD hL (by simp) (fun r1 cM=>?_);simp only [ht] at cM;subst r1)
 cbv
 obtain ⟨J1,mR⟩:∃J1:Nat→Int×Int×Int×List (List D)×List (List D)×List (List D)×List (List D)×List (List D)×Int×List (List D)×Int×List (List D)→Prop,∀n i rd nx ns ps ts js qs ef es af bH,J1 n (i,rd,nx,ns,ps,ts,js,qs,ef,es,af,bH)↔(∃(k:Nat) (T:aW),i=k∧k+n=r%12∧T.fair∧Told T rd nx ns ps ts js qs ef es af bH):=⟨fun n v=>match v with|(i,rd,nx,ns,ps,ts,js,qs,ef,es,af,bH)=>(∃(k:Nat) (T:aW),i=k∧k+n=r%12∧T.fair∧Told T rd nx ns ps ts js qs ef es af bH),fun _ _ _ _ _ _ _ _ _ _ _ _ _=>Iff.rfl⟩
 refine bA ⟨[2,7,8,9],[],[]⟩ (σ:=Int×Int×Int×List (List D)×List (List D)×List (List D)×List (List D)×List (List D)×Int×List (List D)×Int×List (List D)) (fun v=>[(9,.d (.int .i64 (t _ fun _=>v.1)))]) (fun v=>[(0,.var [.d (.int .u64 (t _ fun _=>v.2.1)),.d (.int .u64 (t _ fun _=>v.2.2.1)),.d (.sl (t _ fun _=>v.2.2.2.1)),.d (.sl (t _ fun _=>v.2.2.2.2.1)),.d (.sl (t _ fun _=>v.2.2.2.2.2.1)),.d (.sl (t _ fun _=>v.2.2.2.2.2.2.1)),.d (.sl (t _ fun _=>v.2.2.2.2.2.2.2.1)),.d (.int .u64 (t _ fun _=>v.2.2.2.2.2.2.2.2.1)),.d (.sl (t _ fun _=>v.2.2.2.2.2.2.2.2.2.1)),.d (.int .u64 (t _ fun _=>v.2.2.2.2.2.2.2.2.2.2.1)),.d (.sl (t _ fun _=>v.2.2.2.2.2.2.2.2.2.2.2))])]) J1 ?_
 cbv
 refine aE ⟨(r%12),(_,_,_,_,_,_,_,_,_,_,_,_),(mR _ _ _ _ _ _ _ _ _ _ _ _ _).2 ?_,by simp only [ht];rfl,?_⟩
 ·exact ⟨0,S,rfl,by simp,fS,Told.self S⟩
 rintro n ⟨i,rd,nx,ns,ps,ts,js,qs,ef,es,af,bH⟩ hj
 replace hj:=(mR _ _ _ _ _ _ _ _ _ _ _ _ _).1 hj
 obtain ⟨k,T,rfl,j1,fT,jT⟩:=hj
 cbv
 refine ⟨?_,?_⟩
 ·(simp only [ht,ah] at*;omega)
 cbv
 apply ap<;>intro h2
 ·simp [ht,ah,ZB] at h2
  cbv
  (refine aD (MH ht _ _ _ _ (nl:=T.aY.nodes) (pl:=T.aY.places) (tl:=T.tree) (jl:=T.av) (ql:=T.queue) (el:=T.ev.l) (al:=T.au.l) (by simp only [ht];exact jT.n) (by simp only [ht];exact jT.p) (by simp only [ht];exact jT.t) (by simp only [ht];exact jT.j) (by simp only [ht];exact jT.q) (by simp only [ht];exact jT.e) (by simp only [ht];exact jT.a) (by simp only [ht];rw [jT.eq];exact fT)) (by simp) (fun u eu=>?_);simp only [ht] at eu;rw [jT.eq] at eu;have fu:u.fair:=(by rw [eu];exact fT.tick))
  cbv
  (refine aG (IN ht u fu.sm) (by simp) (fun b eb=>?_);simp only [ht] at eb;rw [fu.ok.right] at eb;subst eb)
  cbv
  apply ap<;>intro h3
  ·simp [ht] at h3
  simp [ht] at h3
  cbv
  refine bG (_,_,_,_,_,_,_,_,_,_,_,_) (by simp only [ht];rfl) (n-1) ?_ ((mR _ _ _ _ _ _ _ _ _ _ _ _ _).2 ?_)
  ·((try simp only [ah] at*);omega)
  simp only [ah]
  exact ⟨k+1,u,aB (by ((try simp only [ah] at*);omega)),by ((try simp only [ah] at*);omega),fu,Told.self u⟩
 simp [ht,ah,ZB] at h2
 cbv
 refine an ?_
 rfl
end Dem
