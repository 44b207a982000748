/- Parts of a proof, joined. -/
import Derived.Test.YtjnbpclolnmimaaGreatDoorK12
import Derived.Test.YtjnbpclolnmimaaGreatDoorProg
import Derived.KernelRfl
import Derived.Defers
import Derived.Test.YtjnbpclolnmimaaGreatDoorRows
import Derived.ProofKit
import Derived.LaidMore
import Derived.OpenShut
import Derived.Carry
import Derived.Stop.Joined
import Derived.Lib.RuneCount
set_option linter.all false
set_option maxRecDepth 100000
set_option maxHeartbeats 4000000
section
open Go
namespace Dem
theorem aC {s:St} {P:St→Prop} (h:P s):qN (some s) P:=⟨h⟩
def XL (bx:List ar):List (Nat×ar)→List ar
 |[]=>bx
 |(i,b)::r=>XL (bx.set i b) r
def XM (sl:List (Nat×AV)):List (Nat×AV)→List (Nat×AV)
 |[]=>sl
 |(i,v)::r=>XM (put i v sl) r
def MT (s:St) (u:List (Nat×AV)) (b:List (Nat×ar)):St:=⟨XM s.sl u,XL s.bx b⟩
theorem bg {K:Nat} {A:(Ex→St→Prop)→St→Prop} {Q:Ex→St→Prop} {s:St} (nf:Nf) {σ:Type} (U:σ→List (Nat×AV)) (V:σ→List (Nat×ar)) (J:Nat→σ→Prop)
 (h:qN (yj K nf s) fun s0=>∃n0 v0,J n0 v0∧s0=MT s0 (U v0) (V v0)∧
  ∀n v,J n v→A (fun e s2=>mY (fun s2=>qN (yj K nf s2) (fun s3=>∃m v',(m<n∧J m v')∧s3=MT s0 (U v') (V v'))) Q e s2) (MT s0 (U v) (V v))):UJ K A Q s:=by
 obtain ⟨h⟩:=h
 split at h
 ·rename_i s0 hn
  obtain ⟨n0,v0,hJ,hs,hr⟩:=h
  refine ⟨nf,fun n s1=>∃v,J n v∧s1=MT s0 (U v) (V v),n0,⟨?_⟩,?_⟩
  ·rw [hn];exact ⟨v0,hJ,hs⟩
  rintro n s1 ⟨v,hv,rfl⟩
  have e:(fun e s2=>mY (fun s2=>qN (yj K nf s2) (fun s3=>∃m v',(m<n∧J m v')∧s3=MT s0 (U v') (V v'))) Q e s2)=
   (fun e s2=>mY (fun s2=>qN (yj K nf s2) (fun s3=>∃m,m<n∧∃v,J m v∧s3=MT s0 (U v) (V v))) Q e s2):=by
   funext e s2
   congr 1
   funext s2
   congr 1
   funext s3
   apply propext
   constructor
   ·rintro ⟨m,v',⟨h1,h2⟩,h3⟩;exact ⟨m,h1,v',h2,h3⟩
   rintro ⟨m,h1,v',h2,h3⟩;exact ⟨m,v',⟨h1,h2⟩,h3⟩
  rw [←e];exact hr n v hv
 exact h.elim
theorem ai {p:Bool} {A B:Unit→Prop} (h1:p=true→A ()) (h2:p=false→B ()):wh (.d (.bool p)) A B:=.mk (And.intro h1 h2)
theorem mJ {p:Bool} {A B:Unit→Prop} (hp:p=true) (h1:A ()):wh (.d (.bool p)) A B:=.mk (And.intro (fun _=>h1) (fun h=>by rw [hp] at h;cases h))
theorem pP {p:Bool} {A B:Unit→Prop} (hp:p=false) (h1:B ()):wh (.d (.bool p)) A B:=.mk (And.intro (fun h=>by rw [hp] at h;cases h) (fun _=>h1))
theorem iq {g:Bool} {c:Prop} {ds:List D} {K:List D→Prop} (ds':List D) (hc:c) (hd:ds=ds') (hK:K ds'):nQ g c ds K:=⟨ds',fun _=>⟨hc,hd⟩,hK⟩
theorem Vx {g:Bool} {c:Prop} {ds:List D} {K:List D→Prop} (ds':List D) (hc:c) (hd:ds=ds') (hK:K ds'):Pu g c ds K:=⟨ds',fun _=>⟨hc,hd⟩,hK⟩
theorem PM {g:Bool} {c:Prop} {ds:List D} {K:List D→Prop} (ds':List D) (h:g=true→c∧ds=ds') (hK:K ds'):nQ g c ds K:=⟨ds',h,hK⟩
theorem bP {c:Prop} {v:AV} {bx:List ar} {K:AV→List ar→Prop} (v':AV) (aF:List ar) (hc:c) (hv:v=v') (hb:bx=aF) (hK:K v' aF):Pv c v bx K:=⟨v',aF,hc,hv,hb,hK⟩
theorem iR {g:Bool} {c:Prop} {v:AV} {K:AV→Prop} (v':AV) (h:g=true→c∧v=v') (hK:K v'):UB g c v K:=⟨v',h,hK⟩
theorem gI {g:Bool} {p K:Prop} (h:g=true→p) (k:K):wK g p∧K:=⟨⟨h⟩,k⟩
theorem pI {p:Bool} {a b K:Prop} (h:(p=true→a)∧(p=false→b)) (k:K):LK p a b∧K:=⟨⟨h⟩,k⟩
section
variable {P:Program} {G:Nat→Option (List D)} {FC:Nat→List AV→List ar→ff→List ar→Prop} {kX:Prop} {f:Nat} {args args':List AV} {c:Prop} {bx sP jk:List ar} {v:AV} {K Kp:AV→List ar→Prop}
theorem gV (ho:kX) (h:FC f args' [] (.ret v) []) (hc:c) (hs:AV.shut.mW args'=true) (hf:v.flat=true) (hK:K v bx):qM FC kX f args (some (c,args')) bx K Kp:=
 ⟨ho,.inl ⟨c,args',rfl,hc,hs,.inl ⟨v,h,.inl hf,hK⟩⟩⟩
theorem GZ (ho:kX) (h:FC f args' [] (.ret v) []) (hc:c) (hs:AV.shut.mW args'=true) (hz:eK [] args=some args') (hv:v.shut=true) (hK:K v bx):qM FC kX f args (some (c,args')) bx K Kp:=
 ⟨ho,.inl ⟨c,args',rfl,hc,hs,.inl ⟨v,h,.inr ⟨hz,hv⟩,hK⟩⟩⟩
theorem pQ {sz n:Nat} {es:List (List D)} (ho:kX) (h:FC f args' [] (.ret (.ow 0 sz n)) [.row sz es]) (hc:c) (hs:AV.shut.mW args'=true) (hz:(∀r∈es,∀x∈r,x.flat=true)∨eK [] args=some args') (hK:K (.ow bx.length sz n) (bx++[.row sz es])):qM FC kX f args (some (c,args')) bx K Kp:=
 ⟨ho,.inl ⟨c,args',rfl,hc,hs,.inr ⟨sz,n,es,h,hz,hK⟩⟩⟩
theorem XN {fz:Option (Prop×List AV)} (ho:kX) (hfz:fz=some (c,args')) (hc:c) (h:FC f args' (eL bx args) (.ret v) jk) (hK:K v jk):qM FC kX f args fz bx K Kp:=
 ⟨ho,.inr ⟨args',eL bx args,.ret v,jk,.inr ⟨⟨c,hfz,hc⟩,rfl⟩,h,hK⟩⟩
theorem de {fz:Option (Prop×List AV)} (ho:kX) (h:FC f args bx (.ret v) jk) (hK:K v jk):qM FC kX f args fz bx K Kp:=
 ⟨ho,.inr ⟨args,bx,.ret v,jk,.inl ⟨rfl,rfl⟩,h,hK⟩⟩
theorem G0 {dr g:Bool} {v:AV} {K:AV→Prop} (h:g=true→kX∧c∧FC f args' [] (.ret v) []) (hs:AV.bL.cM [] args'=true) (hf:v.flat=true) (hK:K v):oU FC dr g kX f args bx (some (c,args')) K:=
 ⟨.inr ⟨v,fun hg=>⟨(h hg).1,args',[],⟨c,rfl,(h hg).2.1⟩,hs,⟨false,rfl,fun h=>by cases h⟩,by simp,(h hg).2.2,.inl hf⟩,hK⟩⟩
theorem qT {dr g:Bool} {v:AV} {K:AV→Prop} (h:g=true→kX∧c∧FC f args' [] (.ret v) []) (hs:AV.bL.cM [] args'=true) (hz:eK [] args=some args') (hf:v.shut=true) (hK:K v):oU FC dr g kX f args bx (some (c,args')) K:=
 ⟨.inr ⟨v,fun hg=>⟨(h hg).1,args',[],⟨c,rfl,(h hg).2.1⟩,hs,⟨false,rfl,fun h=>by cases h⟩,by simp,(h hg).2.2,.inr ⟨hz,hf⟩⟩,hK⟩⟩
theorem Vy {P:Program} {G:Nat→Option (List D)} {dr g:Bool} {v:AV} {K:AV→Prop} {jD:List AV} {aB:List ar} (ks:List Bool) (bX:List Nat) (ho:g=true→kX∧c∧aZ P G f jD aB (.ret v) aB)
 (hn:AV.bL.cM (kill ks bx) args'=true) (hl:dF false (kill ks bx) (kill ks bx)=true) (hv:v.flat=true∨eK [] args=some args'∧v.shut=true)
 (ha:AV.vn (fun b=>dx b bX 0) args'=some jD) (hb:fu (fun b=>dx b bX 0) (kill ks bx) bX=some aB) (hb':AO bX (kill ks bx) aB=some (kill ks bx)) (hr:ff.hY (jC bX (kill ks bx).length) (.ret v)=some (.ret v))
 (hK:K v):oU (aZ P G) dr g kX f args bx (some (c,args')) K:=by
 refine ⟨.inr ⟨v,fun hg=>⟨(ho hg).1,args',kill ks bx,⟨c,rfl,(ho hg).2.1⟩,hn,⟨false,hl,fun h=>by cases h⟩,?_,fE bX ha hb hr hb' (ho hg).2.2,hv⟩,hK⟩⟩
 intro i b hi c8
 obtain ⟨b0,h1,h2⟩:=kH ks bx i b hi
 rcases h2 with rfl|⟨rfl,h3⟩
 ·exact ⟨_,h1,c8,fun _=>rfl⟩
 exact ⟨b0,h1,h3,fun h=>by simp [ar.live] at h⟩
theorem SI {P:Program} {G:Nat→Option (List D)} {dr g:Bool} {v:AV} {K:AV→Prop} {jD:List AV} {aB:List ar} (ks:List Bool) (bX:List Nat) (ho:g=true→kX∧c∧aZ P G f jD aB (.ret v) aB)
 (hn:AV.bL.cM (kill ks bx) args'=true) (hz:eK [] args=some args') (hl:dF true (kill ks bx) (kill ks bx)=true) (hv:v.flat=true∨eK [] args=some args'∧v.shut=true)
 (ha:AV.vn (fun b=>dx b bX 0) args'=some jD) (hb:fu (fun b=>dx b bX 0) (kill ks bx) bX=some aB) (hb':AO bX (kill ks bx) aB=some (kill ks bx)) (hr:ff.hY (jC bX (kill ks bx).length) (.ret v)=some (.ret v))
 (hK:K v):oU (aZ P G) dr g kX f args bx (some (c,args')) K:=by
 refine ⟨.inr ⟨v,fun hg=>⟨(ho hg).1,args',kill ks bx,⟨c,rfl,(ho hg).2.1⟩,hn,⟨true,hl,fun _=>hz⟩,?_,fE bX ha hb hr hb' (ho hg).2.2,hv⟩,hK⟩⟩
 intro i b hi c8
 obtain ⟨b0,h1,h2⟩:=kH ks bx i b hi
 rcases h2 with rfl|⟨rfl,h3⟩
 ·exact ⟨_,h1,c8,fun _=>rfl⟩
 exact ⟨b0,h1,h3,fun h=>by simp [ar.live] at h⟩
theorem Vz {P:Program} {G:Nat→Option (List D)} {g:Bool} {v:AV} {K:AV→Prop} {fz:Option (Prop×List AV)} {jD:List AV} {aB:List ar} (bX:List Nat) (ho:g=true→kX∧aZ P G f jD aB (.ret v) aB)
 (ha:AV.vn (fun b=>dx b bX 0) args=some jD) (hb:fu (fun b=>dx b bX 0) bx bX=some aB) (hb':AO bX bx aB=some bx) (hr:ff.hY (jC bX bx.length) (.ret v)=some (.ret v))
 (hK:K v):oU (aZ P G) false g kX f args bx fz K:=
 ⟨.inl ⟨rfl,v,fun hg=>⟨(ho hg).1,fE bX ha hb hr hb' (ho hg).2⟩,hK⟩⟩
theorem LP {x sz n:Nat} {es:List (List D)} {at_:Option ar} {K:AV→ar→Prop} (ho:kX) (h:FC f args' [] (.ret (.ow 0 sz n)) [.row sz es]) (hc:c) (hs:AV.shut.mW args'=true) (hz:(∀r∈es,∀x∈r,x.flat=true)∨eK [] args=some args') (SJ:at_=some .bt)
 (hK:K (.ow x sz n) (.row sz es)):UC FC kX f args (some (c,args')) at_ x K:=⟨args',sz,n,es,ho,⟨c,rfl,hc⟩,hs,h,hz,SJ,hK⟩
structure PN (r:Option ff) (b:Option (List ar)) (K:AV→List ar→Prop):Prop where
 ok:match r,b with
  |some (.ret v),some bx=>K v bx
  |_,_=>False
theorem bK {v:AV} {bx:List ar} {K:AV→List ar→Prop} (h:K v bx):PN (some (.ret v)) (some bx) K:=⟨h⟩
theorem cD {fz:Option (Prop×List AV)} (bX:List Nat) {jD:List AV} {aB vq:List ar} {v0:AV} (ho:kX)
 (ha:AV.vn (fun b=>dx b bX 0) args=some jD) (hb:fu (fun b=>dx b bX 0) bx bX=some aB) (h:aZ P G f jD aB (.ret v0) vq)
 (hK:PN (ff.hY (jC bX bx.length) (.ret v0)) (AO bX bx vq) K):qM (aZ P G) kX f args fz bx K Kp:=by
 obtain ⟨hK⟩:=hK
 split at hK
 ·rename_i v aF hr hb'
  exact de ho (fE bX ha hb hr hb' h) hK
 exact hK.elim
end
section
variable {n:Nat} {c d:Prop} {v u:AV} {bx aF:List ar} {res:ff} {fz:Option (Prop×AV)}
theorem ak (hc:c) (hd:d) (hw:u.within n=true) (hb:aF=(qj bx v).take n) (VA:cm n aF=true) (hr:res=.ret u):AN n c v bx (some (d,u)) res aF:=
 ⟨hc,.inr (.inl ⟨[],d,u,rfl,hd,hw,hb,VA,hr⟩)⟩
theorem AQ (ks:List Bool) (hc:c) (hd:d) (hw:u.within n=true) (hb:aF=(kill ks (qj bx v)).take n) (VA:cm n aF=true) (hr:res=.ret u):AN n c v bx (some (d,u)) res aF:=
 ⟨hc,.inr (.inl ⟨ks,d,u,rfl,hd,hw,hb,VA,hr⟩)⟩
theorem PO (hc:c) (hb:aF=bx) (hr:res=.ret v):AN n c v bx fz res aF:=⟨hc,.inl ⟨hr,hb⟩⟩
theorem EB {k sz m:Nat} {es:List (List D)} (hc:c) (hk:bx[k]?=some (.row sz es)) (h1:Nat.ble n k=true) (h2:Nat.ble n bx.length=true) (VA:cm n (bx.take n)=true) (hr:res=.ret (.ow n sz m)) (hb:aF=bx.take n++[.row sz es]):AN n c (.ow k sz m) bx fz res aF:=
 ⟨hc,.inr (.inr (.inl ⟨k,sz,m,es,rfl,hk,Nat.le_of_ble_eq_true h1,Nat.le_of_ble_eq_true h2,VA,hr,hb⟩))⟩
theorem JE {sz:Nat} (hc:c) (h2:Nat.ble n bx.length=true) (VA:cm n (bx.take n)=true) (hr:res=.ret (.ow n sz 0)) (hb:aF=bx.take n++[.row sz []]):AN n c (.cl []) bx fz res aF:=
 ⟨hc,.inr (.inr (.inr ⟨sz,rfl,Nat.le_of_ble_eq_true h2,VA,hr,hb⟩))⟩
end
theorem fF {P:Program} {G:Nat→Option (List D)} {f b sz n:Nat} {args:List AV} {bx aF:List ar} {res:ff}
 (h:∀c,n≤c→(n=0→c=0)→aZ P G f (.vw b sz 0 n c true::args) bx res aF):aZ P G f (.ow b sz n::args) bx res aF:=by
 intro β w vs X cx hx
 simp only [aj] at hx
 obtain ⟨u,us,rfl,hx,hxs⟩:=hx
 simp only [ah] at hx
 obtain ⟨hb,⟨rfl,base,rfl⟩|⟨h0,cap,c,e,f',rfl,h1,h2,h3⟩⟩:=hx
 ·refine h 0 (Nat.le_refl _) (fun _=>rfl) β w _ X cx ?_
  simp only [aj,ah]
  exact ⟨_,us,rfl,⟨hb,base,0,#[],0,(0,0),rfl,Nat.le_refl _,Nat.le_refl _,fun _=>rfl,.inl rfl⟩,hxs⟩
 refine h cap h1 (fun h=>absurd h h0) β w _ X cx ?_
 simp only [aj,ah]
 exact ⟨_,us,rfl,⟨hb,_,cap,c,e,f',rfl,h1,Nat.le_refl _,fun _=>rfl,.inr ⟨by simp,h2,by simpa using h3⟩⟩,hxs⟩
theorem wrap64 {x:Int} (h0:-9223372036854775808≤x) (h1:x<9223372036854775808):IntKind.i64.wrap x=x:=by
 simp [IntKind.wrap,IntKind.signed,IntKind.bits];omega
end Dem
end
section
open Go
namespace Dem
def qU:AV:=.d (.int .u64 0)
def qI:AV:=.d (.int .i64 0)
def qS:AV:=.d (.str [])
def qF:AV:=.d (.bool false)
def qY:AV:=.d (.int .u8 0)
def qC:AV:=.cl []
def oE:Option TI:=some ⟨1,8,.other,.k .nilFunc,true,none⟩
def p8:Option TI:=some ⟨1,0,.other,.any,true,none⟩
def UL:Option TI:=some ⟨1,8,.other,.k .oF,true,none⟩
def XO:Option TI:=some ⟨1,16,.iface,.k .nilIface,true,none⟩
def Ze:Option TI:=some ⟨1,1,.int .u8,qY,true,none⟩
def Zf:Option TI:=some ⟨2,24,.struct [(0,9),(1,3)],.agg [qS,qI],true,none⟩
def Z9:Option TI:=some ⟨1,8,.int .i64,qI,true,none⟩
def wT7:Option TI:=some ⟨1,16,.str,qS,true,none⟩
def wT8:Option TI:=some ⟨1,8,.int .u64,qU,true,none⟩
def wT9:Option TI:=some ⟨1,4,.int .i32,.d (.int .i32 0),true,none⟩
def VB:Option TI:=some ⟨0,0,.struct [],.agg [],true,none⟩
def XP:Option TI:=some ⟨4,24,.struct [(0,2),(1,3),(2,4),(3,6)],.agg [qI,qI,qF,qY],true,none⟩
def XQ:Option TI:=some ⟨2,24,.struct [(0,9),(1,12)],.agg [qS,qU],false,none⟩
def XR:Option TI:=some ⟨1,8,.struct [(0,17)],.agg [.k .oF],false,none⟩
def XS:Option TI:=some ⟨2,32,.struct [(0,23),(1,22)],.agg [qU,qC],true,none⟩
def XT:Option TI:=some ⟨3,24,.struct [(0,23),(1,23),(2,3)],.agg [qU,qU,qI],true,none⟩
def XU:Option TI:=some ⟨2,48,.struct [(0,34),(1,35)],.agg [qC,qC],true,none⟩
def XW:Option TI:=some ⟨1,24,.slice 82,qC,true,none⟩
def XX:Option TI:=some ⟨11,200,.struct [(0,23),(1,23),(2,37),(4,38),(5,39),(6,40),(7,26),(9,26)],.agg [qU,qU,qC,qC,qC,qC,qC,qU,qC,qU,qC],true,none⟩
def XY:Option TI:=some ⟨5,5,.struct [(0,5),(1,5),(2,5),(3,5),(4,5)],.agg [qY,qY,qY,qY,qY],true,none⟩
def XZ:Option TI:=some ⟨4,32,.array 4 23,.agg [qU,qU,qU,qU],true,none⟩
def X1:Option TI:=some ⟨9,96,.struct [(0,9),(1,50),(5,3),(6,3),(7,3),(8,51)],.agg [qS,qU,qU,qU,qU,qI,qI,qI,qC],true,none⟩
def X2:Option TI:=some ⟨12,120,.struct [(0,23),(1,53),(10,4),(11,3)],.agg [qU,qS,qU,qU,qU,qU,qI,qI,qI,qC,qF,qI],true,none⟩
def X3:Option TI:=some ⟨6,56,.struct [(0,23),(1,9),(2,50)],.agg [qU,qS,qU,qU,qU,qU],true,none⟩
def X4:Option TI:=some ⟨9,80,.struct [(0,9),(1,50),(5,50)],.agg [qS,qU,qU,qU,qU,qU,qU,qU,qU],true,none⟩
def X5:Option TI:=some ⟨2,32,.struct [(0,9),(1,9)],.agg [qS,qS],true,none⟩
def X6:Option TI:=some ⟨7,80,.struct [(0,9),(1,50),(5,93),(6,4)],.agg [qS,qU,qU,qU,qU,qC,qF],true,none⟩
def X7:Option TI:=some ⟨11,200,.struct [(0,42)],.agg [qU,qU,qC,qC,qC,qC,qC,qU,qC,qU,qC],true,none⟩
def X8:Option TI:=some ⟨2,16,.struct [(0,23),(1,3)],.agg [qU,qI],true,none⟩
def X9:Option TI:=some ⟨6,72,.struct [(0,9),(1,50),(5,93)],.agg [qS,qU,qU,qU,qU,qC],true,none⟩
def Ya:Option TI:=some ⟨1,8,.struct [(0,181)],.agg [.k .nilFunc],true,none⟩
def Yb:Option TI:=some ⟨4,32,.struct [(0,50)],.agg [qU,qU,qU,qU],true,none⟩
def Yc:Option TI:=some ⟨2,8,.struct [(0,21),(1,21)],.agg [.d (.int .i32 0),.d (.int .i32 0)],true,none⟩
def Yd:Option TI:=some ⟨2,32,.struct [(0,268),(1,85)],.agg [.k .oF,qC],true,none⟩
def Ye:Option TI:=some ⟨2,2,.struct [(0,5),(1,5)],.agg [qY,qY],true,none⟩
def Yf:Option TI:=some ⟨4,40,.struct [(0,17),(1,17),(2,17),(3,9)],.agg [.k .oF,.k .oF,.k .oF,qS],false,none⟩
def Yg:Option TI:=some ⟨0,0,.struct [(0,333)],.agg [],false,none⟩
def Yh:Option TI:=some ⟨11,48,.struct [(0,12),(1,12),(2,328),(3,336),(4,5),(5,5),(6,337),(7,338),(8,299),(9,339),(10,340)],.agg [qU,qU,.d (.int .u32 0),qY,qY,qY,qY,.k .nilFunc,.k .oF,.d (.int .i32 0),.d (.int .i32 0)],false,none⟩
def aad (t:Nat):Option TI:=(if t<9 then (if t<5 then if t=0 then p8 else if t=2 then Z9 else if t=3 then Z9 else if t=4 then some ⟨1,1,.bool,qF,true,none⟩ else oE else if t=5 then Ze else if t=6 then Ze else if t=7 then XP else if t=8 then XP else oE) else (if t<13 then if t=9 then wT7 else if t=10 then wT7 else if t=11 then wT7 else if t=12 then wT8 else oE else if t=13 then XQ else if t=14 then XQ else if t=15 then UL else if t=16 then UL else oE))
def aae (t:Nat):Option TI:=(if t<26 then (if t<21 then if t=17 then UL else if t=18 then XR else if t=19 then XR else if t=20 then XO else oE else if t=21 then wT9 else if t=22 then some ⟨1,24,.slice 29,qC,true,none⟩ else if t=23 then wT8 else if t=25 then XS else oE) else (if t<33 then if t=26 then XS else if t=28 then XT else if t=29 then XT else if t=30 then p8 else oE else if t=33 then some ⟨1,24,.slice 45,qC,true,none⟩ else if t=34 then some ⟨1,24,.slice 99,qC,true,none⟩ else if t=35 then some ⟨1,24,.slice 78,qC,true,none⟩ else if t=36 then XU else oE))
def aaf (t:Nat):Option TI:=(if t<49 then (if t<41 then if t=37 then XU else if t=38 then XW else if t=39 then some ⟨1,24,.slice 61,qC,true,none⟩ else if t=40 then some ⟨1,24,.slice 118,qC,true,none⟩ else oE else if t=41 then XX else if t=42 then XX else if t=44 then XY else if t=45 then XY else oE) else (if t<53 then if t=49 then XZ else if t=50 then XZ else if t=51 then some ⟨1,24,.slice 172,qC,true,none⟩ else if t=52 then X1 else oE else if t=53 then X1 else if t=55 then Z9 else if t=56 then p8 else if t=60 then X2 else oE))
def aag (t:Nat):Option TI:=(if t<79 then (if t<72 then if t=61 then X2 else if t=62 then p8 else if t=66 then p8 else if t=70 then some ⟨1,2,.int .u16,.d (.int .u16 0),true,none⟩ else oE else if t=72 then p8 else if t=75 then p8 else if t=77 then X3 else if t=78 then X3 else oE) else (if t<85 then if t=79 then some ⟨1,24,.slice 9,qC,true,none⟩ else if t=81 then X4 else if t=82 then X4 else if t=83 then p8 else oE else if t=85 then some ⟨1,24,.slice 5,qC,true,none⟩ else if t=91 then p8 else if t=93 then some ⟨1,24,.slice 95,qC,true,none⟩ else if t=94 then X5 else oE))
def aah (t:Nat):Option TI:=(if t<115 then (if t<101 then if t=95 then X5 else if t=96 then p8 else if t=98 then X6 else if t=99 then X6 else oE else if t=101 then p8 else if t=103 then some ⟨1,24,.slice 177,qC,true,none⟩ else if t=105 then X7 else if t=106 then X7 else oE) else (if t<148 then if t=115 then p8 else if t=117 then X8 else if t=118 then X8 else if t=136 then p8 else oE else if t=148 then VB else if t=149 then VB else if t=150 then p8 else if t=151 then UL else oE))
def aai (t:Nat):Option TI:=(if t<183 then (if t<172 then if t=152 then Zf else if t=153 then Zf else if t=156 then XW else if t=171 then some ⟨3,48,.struct [(0,9),(1,4),(2,79)],.agg [qS,qF,qC],true,none⟩ else oE else if t=172 then some ⟨3,48,.struct [(0,9),(1,4),(2,79)],.agg [qS,qF,qC],true,some ("demesne/sel.holds",196)⟩ else if t=174 then p8 else if t=176 then X9 else if t=177 then X9 else oE) else (if t<203 then if t=183 then some ⟨1,8,.map 23 3,.k .DY,true,none⟩ else if t=188 then Ya else if t=189 then Ya else if t=201 then wT8 else oE else if t=203 then some ⟨1,24,.slice 3,qC,true,none⟩ else if t=206 then p8 else if t=209 then p8 else if t=213 then p8 else oE))
def aaj (t:Nat):Option TI:=(if t<237 then (if t<226 then if t=214 then p8 else if t=219 then Yb else if t=220 then Yb else if t=225 then some ⟨1,24,.slice 227,qC,true,none⟩ else oE else if t=226 then Yc else if t=227 then Yc else if t=228 then some ⟨6,24,.array 3 227,.agg [.d (.int .i32 0),.d (.int .i32 0),.d (.int .i32 0),.d (.int .i32 0),.d (.int .i32 0),.d (.int .i32 0)],true,none⟩ else if t=229 then some ⟨4,16,.array 2 227,.agg [.d (.int .i32 0),.d (.int .i32 0),.d (.int .i32 0),.d (.int .i32 0)],true,none⟩ else oE) else (if t<255 then if t=237 then p8 else if t=247 then p8 else if t=249 then p8 else if t=252 then p8 else oE else if t=255 then p8 else if t=257 then p8 else if t=260 then p8 else if t=266 then some ⟨1,24,.slice 23,qC,true,none⟩ else oE))
def aak (t:Nat):Option TI:=(if t<280 then (if t<273 then if t=268 then UL else if t=269 then Yd else if t=270 then Yd else if t=272 then XO else oE else if t=273 then XO else if t=274 then p8 else if t=277 then p8 else if t=278 then p8 else oE) else (if t<286 then if t=280 then p8 else if t=282 then p8 else if t=284 then p8 else if t=285 then some ⟨3,24,.array 3 23,.agg [qU,qU,qU],true,none⟩ else oE else if t=286 then p8 else if t=292 then p8 else if t=294 then XO else if t=295 then XO else oE))
def aal (t:Nat):Option TI:=(if t<318 then (if t<306 then if t=299 then UL else if t=303 then UL else if t=304 then Zf else if t=305 then Zf else oE else if t=306 then VB else if t=310 then some ⟨0,0,.struct [],.agg [],true,some ("demesne/sel.holds",267)⟩ else if t=311 then some ⟨1,24,.slice 9,qC,true,some ("demesne/sel.holds",268)⟩ else if t=315 then UL else oE) else (if t<326 then if t=318 then p8 else if t=320 then p8 else if t=324 then some ⟨256,256,.array 256 5,.agg [qY,qY,qY,qY,qY,qY,qY,qY,qY,qY,qY,qY,qY,qY,qY,qY,qY,qY,qY,qY,qY,qY,qY,qY,qY,qY,qY,qY,qY,qY,qY,qY,qY,qY,qY,qY,qY,qY,qY,qY,qY,qY,qY,qY,qY,qY,qY,qY,qY,qY,qY,qY,qY,qY,qY,qY,qY,qY,qY,qY,qY,qY,qY,qY,qY,qY,qY,qY,qY,qY,qY,qY,qY,qY,qY,qY,qY,qY,qY,qY,qY,qY,qY,qY,qY,qY,qY,qY,qY,qY,qY,qY,qY,qY,qY,qY,qY,qY,qY,qY,qY,qY,qY,qY,qY,qY,qY,qY,qY,qY,qY,qY,qY,qY,qY,qY,qY,qY,qY,qY,qY,qY,qY,qY,qY,qY,qY,qY,qY,qY,qY,qY,qY,qY,qY,qY,qY,qY,qY,qY,qY,qY,qY,qY,qY,qY,qY,qY,qY,qY,qY,qY,qY,qY,qY,qY,qY,qY,qY,qY,qY,qY,qY,qY,qY,qY,qY,qY,qY,qY,qY,qY,qY,qY,qY,qY,qY,qY,qY,qY,qY,qY,qY,qY,qY,qY,qY,qY,qY,qY,qY,qY,qY,qY,qY,qY,qY,qY,qY,qY,qY,qY,qY,qY,qY,qY,qY,qY,qY,qY,qY,qY,qY,qY,qY,qY,qY,qY,qY,qY,qY,qY,qY,qY,qY,qY,qY,qY,qY,qY,qY,qY,qY,qY,qY,qY,qY,qY,qY,qY,qY,qY,qY,qY,qY,qY,qY,qY,qY,qY,qY,qY,qY,qY,qY,qY],true,none⟩ else if t=325 then Ye else oE else if t=326 then Ye else if t=327 then some ⟨32,32,.array 16 326,.agg [qY,qY,qY,qY,qY,qY,qY,qY,qY,qY,qY,qY,qY,qY,qY,qY,qY,qY,qY,qY,qY,qY,qY,qY,qY,qY,qY,qY,qY,qY,qY,qY],true,none⟩ else if t=328 then some ⟨1,4,.int .u32,.d (.int .u32 0),true,none⟩ else if t=329 then p8 else oE))
def aam (t:Nat):Option TI:=(if t<336 then (if t<333 then if t=331 then Yf else if t=332 then Yf else oE else if t=333 then some ⟨0,0,.array 0 16,.agg [],true,none⟩ else if t=334 then Yg else if t=335 then Yg else oE) else (if t<340 then if t=336 then Ze else if t=337 then Ze else if t=339 then wT9 else oE else if t=340 then wT9 else if t=341 then Yh else if t=342 then Yh else oE))
def tb (t:Nat):Option TI:=(if t<152 then (if t<37 then (if t<17 then aad t else aae t) else (if t<61 then aaf t else (if t<95 then aag t else aah t))) else (if t<268 then (if t<214 then aai t else aaj t) else (if t<299 then aak t else (if t<331 then aal t else aam t))))
def tT (t:Nat):Option TI:=if t<345 then tb t else none
theorem Yi:(List.range 345).map (pX Go.Proofs.Tryz.prog)=(List.range 345).map tb:=by kernel_rfl
def PR:Bool:=(List.range 345).all fun t=>match tb t with
 |some ti=>match ti.kd with
  |.struct fs=>fs.all fun f=>(tT f.2).isSome
  |_=>true
 |none=>true
theorem G1:PR=true:=by kernel_rfl
theorem JF:iz Go.Proofs.Tryz.prog tT:=by
 refine ⟨?_,?_,?_⟩
 ·intro t ti h
  unfold tT at h
  split at h
  ·rename_i ht'
   have e:=congrArg (fun l=>l[t]?) Yi
   simp only [List.getElem?_map,List.getElem?_range ht',Option.map_some,osI] at e
   rw [e,h]
  cases h
 ·intro t ti fs h hk f hf
  unfold tT at h
  split at h
  ·rename_i ht'
   have hall:=List.all_eq_true.1 G1 t (by simp [ht'])
   simp only [h,hk] at hall
   have:=List.all_eq_true.1 hall f hf
   exact Option.isSome_iff_exists.1 this
  cases h
 exact Nat.le_of_ble_eq_true (by kernel_rfl)
def gl (g:Nat):Option (List D):=
 bif Nat.beq g 0 then some [.int .i32 97,.int .i32 122,.int .i32 945,.int .i32 969,.int .i32 1072,.int .i32 1103] else
 bif Nat.beq g 1 then some [.int .i32 48,.int .i32 57,.int .i32 45,.int .i32 45] else none
def FC:Nat→List AV→List ar→ff→List ar→Prop:=aZ Go.Proofs.Tryz.prog gl
theorem nF:kQ Go.Proofs.Tryz.prog tT gl:=Sr JF (by kernel_rfl)
theorem G2 (tS tR:TypeId) (a:Addr) (ba:Option Addr) (la ca lb cb:Nat):∃(m:String) (ch:Sem Nat),
 Extern.SlicesOverlaps.overlaps #[tS,tS] #[tR] #[.slice (some a) la ca,.slice ba lb cb]=(do
 let .slice elem ←underlying tS|stuck m
 let size ←Go.sizeOf elem
 match ba with
 |some b=>
  if la=0∨lb=0∨size=0 then pure (Value.bool false)
  else if a.block !=b.block&&(←frozen a)&&(←frozen b) then unsupported .addressObserved
  else do
   if a.block !=b.block then do
    noView a;noView b
    if ←mayBeOne a b then return Value.bool ((←ch)==1)
   pure (Value.bool (a.block==b.block&&a.off<b.off+lb*size&&b.off<a.off+la*size))
 |none=>pure (Value.bool false)):=by
 apply Exists.intro
 apply Exists.intro
 cases ba with
 |some b=>rfl
 |none=>rfl
theorem wN {P:Program} (w:World) (tS tR e:TypeId) (ht:P.underlying tS=some (.slice e)) {size:Nat} (hz:∀w,(Go.sizeOf e).run P w=.ok size w)
 (a:Addr) (ba:Option Addr) (la ca lb cb:Nat) {tA:TypeId} {kA:Nat} (Yj:w.shape? a.block=some (tA,kA)) (hkA:kA≠0)
 (hb:lb=0∨∃b c e',ba=some b∧b.spot=none∧a.block≠b.block∧w.heap[b.block]?=some (.cells c e' (0,0))):
 (Extern.SlicesOverlaps.overlaps #[tS,tS] #[tR] #[.slice (some a) la ca,.slice ba lb cb]).run P w=.ok (.bool false) w:=by
 have kP:(underlying tS).run P w=.ok (.slice e) w:=aP ht
 obtain ⟨m,ch,e⟩:=G2 tS tR a ba la ca lb cb
 rw [e]
 clear e
 cases ba with
 |none=>simp [kP,hz]
 |some b=>
 by_cases h0:la=0∨lb=0∨size=0
 ·simp [kP,hz,h0]
 rcases hb with hb|⟨b',c,e',hbe,hsp,hne,hh⟩
 ·exact absurd (.inr (.inl hb)) h0
 simp only [osI] at hbe;subst hbe
 have hnb:(a.block !=b.block)=true:=by simpa using hne
 have aao:(a.block==b.block)=false:=by simpa using hne
 have ME:w.shape? b.block=some (e',c.size):=by simp [World.shape?,hh]
 have hf:∀off sp,w.frozen? {block:=b.block,off:=off,spot:=sp}=false:=by intro off sp;simp [World.frozen?,hh]
 have hfb:w.frozen? b=false:=hf _ _
 cases kA with
 |zero=>exact absurd rfl hkA
 |succ kA=>
 cases h1:w.frozen? a<;>cases h2:w.frozen? {block:=a.block,off:=kA+1}<;>
  simp [kP,hz,h0,hnb,aao,frozen,noView,Go.viewAt,mayBeOne,stringish,shape,Sem.run,Yj,ME,hfb,hf,h1,h2]
theorem ia {P:Program} {G:Nat→Option (List D)} {T:Nat→Option TI} (hT:iz P T) {f:Nat} {fn:Func} {tS tR:TypeId} (hf:P.funcs[f]?=some fn) (hname:(fn.name== "runtime.NumGoroutine")=false)
 (hb:fn.body.isNone=true) (hn:Extern.findNext fn=none) (he:Extern.find fn=some (Extern.SlicesOverlaps.overlaps #[tS,tS] #[tR])) {te:TI} (hel:elemOf T tS=some te)
 {b sz off n c:Nat} {ex:Bool} {es:List (List D)} {x:D} {row:List D} {xs:List (List D)} {bx:List ar} (rP:bx[b]?=some (.row sz es)) (hne:es≠[]):
 aZ P G f [.d (.sl ((x::row)::xs)),.vw b sz off n c ex] bx (.ret (.d (.bool false))) bx:=by
 intro β w vs X cx hx
 simp only [aj,ah,aH] at hx
 obtain ⟨u1,Zg,rfl,⟨base,cap,rfl,_,h1⟩,u2,OR,rfl,⟨_,PS,Sg,cs,e2,f2,rfl,k1,k2,k3,k4⟩,rfl⟩:=hx
 obtain ⟨ti,e,t1,t2,t3⟩:=eD hel
 have kP:=fo hT t1 t2
 obtain ⟨ei,ed,g1,g2,g3,g4,g5,g6⟩:=aG (hT.ti _ _ t3)
 rcases h1 with h1|⟨az,o,sz2,rfl,hok,hrows⟩
 ·simp at h1
 simp only [an,aW] at hrows
 obtain ⟨_,⟨⟨u,hcell,_⟩,_⟩,_⟩:=hrows
 have Yj:∃tA kA,w.shape? az=some (tA,kA)∧kA≠0:=by
  simp only [World.cell?] at hcell
  split at hcell
  ·rename_i ca ea fa hh
   refine ⟨ea,ca.size,by simp [World.shape?,hh],?_⟩
   intro h0
   simp at hcell
   obtain ⟨hlt,_⟩:=Array.getElem?_eq_some_iff.1 hcell
   omega
  simp at hcell
 obtain ⟨tA,kA,Yj,hkA⟩:=Yj
 have cq:(ar.row sz es).live=true:=by cases es<;>simp_all [ar.live]
 have hrun:=wN (P:=P) w tS tR e kP (fun w=>bN g1) ⟨az,o,none⟩ PS (xs.length+1) cap n Sg Yj hkA (by
  rcases k4 with k4|⟨rfl,k5,k6⟩
  ·left;omega
  rcases cx.box _ _ rP with h0|⟨c3,e3,j1,j2⟩
  ·exact absurd h0 hne
  exact .inr ⟨_,c3,e3,rfl,rfl,fun heq=>hok.2.2 b _ rP cq heq.symm,j1⟩)
 refine .inr ⟨.bool false,w,?_,β,Ext.refl _ _ _,cx,by simp only [fq,ah,aH]⟩
 rw [run_callFunc_extern hf hname hb hn he]
 have e1:(({toList:=[.slice (some ⟨az,o,none⟩) ((x::row)::xs).length cap,.slice PS n Sg]}:Array Value))=#[.slice (some ⟨az,o,none⟩) (xs.length+1) cap,.slice PS n Sg]:=rfl
 rw [e1,hrun]
 rfl
end Dem
end
section
open Go
namespace Dem
section
variable {P:Program} {G:Nat→Option (List D)} {bx:List ar}
theorem G3 {f:Nat} {args nY:List AV} {v:AV} (ks:List Bool) (hz:eK bx args=some nY) (hn:AV.bL.cM (kill ks bx) nY=true) (hl:dF false (kill ks bx) (kill ks bx)=true)
 (hv:v.flat=true∨eK [] args=some nY∧v.shut=true) (h:aZ P G f nY (kill ks bx) (.ret v) (kill ks bx)):aZ P G f args bx (.ret v) bx:=by
 intro β w vs X cx hx
 refine jA.mono (xX cx hx ⟨nY,kill ks bx,hz,hn,⟨false,hl,fun h=>by cases h⟩,?_,h,hv⟩) ?_
 ·intro i b hi c8
  obtain ⟨b0,h1,h2⟩:=kH ks bx i b hi
  rcases h2 with rfl|⟨rfl,h3⟩
  ·exact ⟨_,h1,c8,fun _=>rfl⟩
  exact ⟨b0,h1,h3,fun h=>by simp [ar.live] at h⟩
 rintro e w' ⟨u,rfl,h2,h3,h4⟩
 exact ⟨β,h2,h3,h4⟩
theorem UM {t:Th} (ht:t=t0) {kX:Prop} {fz:Option (Prop×List AV)} {f:Nat} {args nY jD:List AV} {bx aB:List ar} {v:AV} {c:Prop} {K Kp:AV→List ar→Prop} (ks:List Bool) (bX:List Nat) (ho:kX)
 (hz:qL t bx args=some (c,nY)) (hc:c) (hn:AV.bL.cM (kill ks bx) nY=true) (hl:dF false (kill ks bx) (kill ks bx)=true) (hv:v.flat=true)
 (ha:AV.vn (fun b=>dx b bX 0) nY=some jD) (hb:fu (fun b=>dx b bX 0) (kill ks bx) bX=some aB) (hb':AO bX (kill ks bx) aB=some (kill ks bx)) (hr:ff.hY (jC bX (kill ks bx).length) (.ret v)=some (.ret v))
 (h:aZ P G f jD aB (.ret v) aB) (hK:K v bx):qM (aZ P G) kX f args fz bx K Kp:=by
 subst ht
 exact de ho (G3 ks (gu hz hc) hn hl (.inl hv) (fE bX ha hb hr hb' h)) hK
end
end Dem
end
section
open Go
namespace Dem
abbrev TT (t:Th):Prop:=∀(α:Type) (f:Unit→α),t α f=f ()
theorem jE {t:Th} (ht:TT t) {α:Type} {e x:α} (h:e=x):(t _ fun _=>e)=x:=by rw [ht];exact h
section
variable {P:Program} {G:Nat→Option (List D)} {FC:Nat→List AV→List ar→ff→List ar→Prop} {kX:Prop} {f:Nat} {args args':List AV} {c:Prop} {bx:List ar} {K Kp:AV→List ar→Prop} {ρ:Type}
theorem ay {E:ρ→AV} {r0:ρ} (ho:kX) (h:FC f args' [] (.ret (E r0)) []) (hc:c) (hs:AV.shut.mW args'=true) (hf:(E r0).flat=true) (hK:∀r,r=r0→K (E r) bx):qM FC kX f args (some (c,args')) bx K Kp:=
 gV ho h hc hs hf (hK _ rfl)
theorem aU {E:ρ→AV} {r0:ρ} (ho:kX) (h:FC f args' [] (.ret (E r0)) []) (hc:c) (hs:AV.shut.mW args'=true) (hz:eK [] args=some args') (hv:(E r0).shut=true) (hK:∀r,r=r0→K (E r) bx):qM FC kX f args (some (c,args')) bx K Kp:=
 GZ ho h hc hs hz hv (hK _ rfl)
theorem aJ {dr g:Bool} {K:AV→Prop} {E:ρ→AV} {r0:ρ} (h:g=true→kX∧c∧FC f args' [] (.ret (E r0)) []) (hs:AV.bL.cM [] args'=true) (hf:(E r0).flat=true) (hK:∀r,r=r0→K (E r)):oU FC dr g kX f args bx (some (c,args')) K:=
 G0 h hs hf (hK _ rfl)
theorem iS {dr g:Bool} {K:AV→Prop} {E:ρ→AV} {r0:ρ} (h:g=true→kX∧c∧FC f args' [] (.ret (E r0)) []) (hs:AV.bL.cM [] args'=true) (hz:eK [] args=some args') (hf:(E r0).shut=true) (hK:∀r,r=r0→K (E r)):oU FC dr g kX f args bx (some (c,args')) K:=
 qT h hs hz hf (hK _ rfl)
end
theorem dS {t:Th} (ht:TT t) {α:Type} {l:List α} {cells cT:α→List D} {es:List (List D)} (aD:es=l.map cells) {z:Int} {n:Nat} {K:List D→Prop} (h0:0≤z) (h1:z<l.length) (hn:∀x,(cells x).length=n) (hT:∀x,cells x=cT x)
 (hK:∀x,l[z.toNat]?=some x→K (cT x)):nQ true (t Prop fun _=>0≤z∧z<es.length∧∀r∈es,r.length=n) (t _ fun _=>es.getD z.toNat []) K:=by
 have hz:z.toNat<l.length:=by omega
 refine iq (cT l[z.toNat]) ?_ ?_ (hK _ (List.getElem?_eq_getElem hz))
 ·simp only [ht];refine ⟨h0,by rw [aD,lgM];exact h1,?_⟩
  rw [aD];intro r hr;obtain ⟨y,_,rfl⟩:=List.mem_map.1 hr;exact hn y
 simp only [ht];rw [aD,←hT];simp [hz]
theorem bu {s:St} {n:Nat} {σ:Type} {J:Nat→σ→Prop} {F:σ→St} (v:σ) (hs:s=F v) (m:Nat) (hm:m<n) (hJ:J m v):qN (some s) (fun s3=>∃m v',(m<n∧J m v')∧s3=F v'):=aC (P:=fun s3=>∃m v',(m<n∧J m v')∧s3=F v') ⟨m,v,⟨hm,hJ⟩,hs⟩
end Dem
end
section
open Go
namespace Dem
def flat:Code→List Code
 |.seq a b=>flat a++flat b
 |c=>[c]
section
variable {P:Program}
def p9 (P:Program):List Code→(Exit→Act→World→Prop)→Act→World→Prop
 |[],Q=>Q .normal
 |c::r,Q=>c.wp P (Exit.then (p9 P r Q) Q)
theorem C8 {K K':Act→World→Prop} {Q Q':Exit→Act→World→Prop} (h:∀a w,K a w→K' a w) (hq:∀e a w,Q e a w→Q' e a w):∀e a w,Exit.then K Q e a w→Exit.then K' Q' e a w:=by
 intro e a w hh;cases e<;>simp only [Exit.then] at hh ⊢<;>first|exact h _ _ hh|exact hq _ _ _ hh
theorem og:∀{l:List Code} {Q Q':Exit→Act→World→Prop} {a:Act} {w:World},(∀e a w,Q e a w→Q' e a w)→p9 P l Q a w→p9 P l Q' a w
 |[],_,_,_,_,hq,h=>hq _ _ _ h
 |_::_,_,_,_,_,hq,h=>wp_mono h (C8 (fun _ _ hh=>og hq hh) hq)
theorem AR:∀{l1 l2:List Code} {Q:Exit→Act→World→Prop} {a:Act} {w:World},p9 P (l1++l2) Q a w→p9 P l1 (Exit.then (p9 P l2 Q) Q) a w
 |[],_,_,_,_,h=>h
 |c::l1,l2,Q,a,w,h=>by
  refine wp_mono (show c.wp P (Exit.then (p9 P (l1++l2) Q) Q) a w from h) ?_
  intro e a w hh
  cases e<;>simp only [Exit.then] at hh ⊢<;>first|exact AR hh|exact hh
theorem vt:∀(c:Code) {Q:Exit→Act→World→Prop} {a:Act} {w:World},p9 P (flat c) Q a w→c.wp P Q a w
 |.seq x y,Q,a,w,h=>by
  have h:=AR (show p9 P (flat x++flat y) Q a w from h)
  refine wp_seq (wp_mono (vt x h) ?_)
  exact C8 (fun a w hh=>vt y hh) (fun _ _ _ hh=>hh)
 |.skip,Q,a,w,h=>wp_mono h (by intro e a w hh;cases e<;>simpa only [p9,Exit.then] using hh)
 |.region ..,Q,a,w,h=>wp_mono h (by intro e a w hh;cases e<;>simpa only [p9,Exit.then] using hh)
 |.cond ..,Q,a,w,h=>wp_mono h (by intro e a w hh;cases e<;>simpa only [p9,Exit.then] using hh)
 |.block ..,Q,a,w,h=>wp_mono h (by intro e a w hh;cases e<;>simpa only [p9,Exit.then] using hh)
 |.loop ..,Q,a,w,h=>wp_mono h (by intro e a w hh;cases e<;>simpa only [p9,Exit.then] using hh)
 |.rangeFunc ..,Q,a,w,h=>wp_mono h (by intro e a w hh;cases e<;>simpa only [p9,Exit.then] using hh)
 |.exit ..,Q,a,w,h=>wp_mono h (by intro e a w hh;cases e<;>simpa only [p9,Exit.then] using hh)
 |.scope ..,Q,a,w,h=>wp_mono h (by intro e a w hh;cases e<;>simpa only [p9,Exit.then] using hh)
 |.label ..,Q,a,w,h=>wp_mono h (by intro e a w hh;cases e<;>simpa only [p9,Exit.then] using hh)
 |.goto ..,Q,a,w,h=>wp_mono h (by intro e a w hh;cases e<;>simpa only [p9,Exit.then] using hh)
 |.ret,Q,a,w,h=>wp_mono h (by intro e a w hh;cases e<;>simpa only [p9,Exit.then] using hh)
 |.refuse ..,Q,a,w,h=>wp_mono h (by intro e a w hh;cases e<;>simpa only [p9,Exit.then] using hh)
end
section
variable (t:Th) (FC:Nat→List AV→List ar→ff→List ar→Prop) (T:Nat→Option TI) (G:Nat→Option (List D)) (N K:Nat)
def AS:List Code→(Ex→St→Prop)→St→Prop
 |[],Q,s=>Q .normal s
 |c::r,Q,s=>qP t FC T G N K c (fun e s1=>mY (fun s1=>AS r Q s1) Q e s1) s
def G4:List Oper→(AV→St→Prop)→St→Prop
 |[],_,_=>False
 |[o],KD,s=>match o.guard,o.dst,o.op with
  |none,none,.defer {callee:=.value x,args,..}=>bif args.toList.isEmpty then (bU G s.sl x).ok∧KD (bU G s.sl x).aM s else False
  |_,_,_=>False
 |o::o2::rest,KD,s=>bif fK N o.dst then match o.guard with
  |none=>stepT t FC T G o s (fun v bx=>G4 (o2::rest) KD ⟨dQ o.dst v s.sl,bx⟩) (fun _ _=>False)
  |some _=>False
  else False
end
section
variable {P:Program} {T:Nat→Option TI} {G:Nat→Option (List D)} {N K:Nat} {ds:List Deferred} {X:Nat→Prop} {β0:Nat→Nat} {aB:List ar} {w0:World}
theorem fI (hT:iz P T) (hD:kQ P T G) (hK:aB.length≤K):∀(l:List Code) (Q:Ex→St→Prop) (β:Nat→Nat) (w:World) (s:St) (a:Act),Ext β0 aB w0 β s.bx w→Fr G N ds β w X s a→
 AS t0 (aZ P G) T G N K l Q s→p9 P l (dY G N ds X β0 aB w0 Q) a w
 |[],Q,β,w,s,a,ex,hF,h=>⟨β,s,ex,hF,h⟩
 |c::l,Q,β,w,s,a,ex,hF,h=>by
  refine wp_mono (eY hT hD hK c _ β w s a ex hF h) ?_
  intro e a' w' hl
  cases e<;>simp only [dY,mY,Exit.then] at hl ⊢
  ·obtain ⟨β',s',h1,h2,h3⟩:=hl
   exact fI hT hD hK l Q β' w' s' a' h1 h2 h3
  all_goals exact hl
theorem qV (hT:iz P T) {ops:Array Oper} {KD:AV→St→Prop} {Qc:Exit→Act→World→Prop}
 (hN:∀(β:Nat→Nat) (w:World) (s:St) (a:Act) (x:AV) (v:Value),Ext β0 aB w0 β s.bx w→Fr G N ds β w X s a→KD x s→ah β s.bx w (aY β s.bx w X) x v→
  (Deferred.ofValue v #[]).run P w=.ok {target:=(match v with|.func fn _ c=>.fn fn c|_=>.nil),args:=(match v with|.func _ first _=>first|_=>#[])} w→
  Qc .normal {a with defers:={target:=(match v with|.func fn _ c=>.fn fn c|_=>.nil),args:=(match v with|.func _ first _=>first|_=>#[])}::a.defers} w)
 (hfn:∀x s,KD x s→∃f dB,x=.fn f dB∧eA dB=true):
 ∀(l:List Oper) (β:Nat→Nat) (w:World) (s:St) (a:Act),Ext β0 aB w0 β s.bx w→Fr G N ds β w X s a→G4 t0 (aZ P G) T G N l KD s→wpList P ops Qc l a w
 |[],β,w,s,a,ex,hF,h=>h.elim
 |[o],β,w,s,a,ex,hF,h=>by
  unfold G4 at h
  split at h
  ·rename_i x args ats hg hd ho
   cases hargs:args.toList.isEmpty with
   |false=>simp [hargs] at h
   |true=>
   simp only [hargs,cond_true] at h
   obtain ⟨hok,hk⟩:=h
   have hv:=ix (hF.eval x) hok
   obtain ⟨f,dB,hx,pO⟩:=hfn _ _ hk
   have RN:=hv
   rw [hx] at RN
   simp only [ah] at RN
   obtain ⟨vs,ev,hvs⟩:=RN
   rw [kE pO hvs] at ev
   have ha:args=#[]:=by
    have:args.toList=[]:=by simpa using hargs
    exact Array.toList_inj.1 this
   subst ha
   refine wpList_step fun KK Uu=>?_
   rw [if_pos (by simp [Region.wanted,hg])]
   have hr:(Deferred.ofValue (a.eval x) #[]).run P w=.ok {target:=.fn (.func f) ⟨vs⟩,args:=#[]} w:=by rw [ev];rfl
   have hrun:(execOp a.eval o).run P w=.ok (.defer {target:=.fn (.func f) ⟨vs⟩,args:=#[]}) w:=by
    simp [execOp,ho,resolve,hr]
   unfold Oper.wp
   rw [hrun,Oper.upon_defer,hd]
   refine Uu _ _ ?_
   have:=hN β w s a _ _ ex hF hk hv (by rw [ev];rfl)
   rw [ev] at this
   exact this
  exact h.elim
 |o::o2::rest,β,w,s,a,ex,hF,h=>by
  unfold G4 at h
  cases hd:fK N o.dst with
  |false=>simp [hd] at h
  |true=>
  simp only [hd,cond_true] at h
  split at h
  ·rename_i hg
   refine wpList_step fun KK Uu=>?_
   rw [if_pos (by simp [Region.wanted,hg])]
   refine kG hT hF (vi (fun v bx hK=>hK) h) ?_ ?_
   ·intro β' aF w' v u oD nD hv hK
    exact Uu _ _ (qV hT hN hfn (o2::rest) β' w' ⟨dQ o.dst v s.sl,aF⟩ _ (ex.trans oD) (hF.put oD nD hd hv) hK)
   intro β' aF w' v u oD nD hv hK;exact hK.elim
  exact h.elim
theorem m8:∀{l1 l2:List Code} {Q:Exit→Act→World→Prop} {a:Act} {w:World},p9 P l1 (Exit.then (p9 P l2 Q) Q) a w→p9 P (l1++l2) Q a w
 |[],_,_,_,_,h=>h
 |c::l1,l2,Q,a,w,h=>by
  refine wp_mono (show c.wp P (Exit.then (p9 P l1 (Exit.then (p9 P l2 Q) Q)) (Exit.then (p9 P l2 Q) Q)) a w from h) ?_
  intro e a w hh
  cases e<;>simp only [Exit.then] at hh ⊢<;>first|exact m8 hh|exact hh
theorem AT {fn:Func} {args:List AV} {aB:List ar} (hN:fn.ntmps=N) (hlen:Nat.ble args.length N=true) {β:Nat→Nat} {w:World} {vs:List Value} (cx:cr G β aB w X) (hx:aj β aB w (aY β aB w X) args vs):
 Fr G N [] β w X ⟨gm 0 args,aB⟩ {tmps:=(⟨vs⟩:Array Value)++Array.replicate (fn.ntmps-(⟨vs⟩:Array Value).size) undef,defers:=[]}:=by
 have hl:=aj.length hx
 have hle:args.length≤N:=Nat.le_of_ble_eq_true hlen
 refine ⟨cx,rfl,?_,?_⟩
 ·simp [hN,hl];omega
 intro t
 rw [Al]
 simp only [Nat.zero_le,if_true,Nat.sub_zero]
 by_cases ht:t<args.length
 ·obtain ⟨v,k1,k2⟩:=aj.get t args[t] hx (by simp [ht])
  have e1:args.getD t .any=args[t]:=by simp [List.getD_eq_getElem?_getD,ht]
  rw [e1]
  have hv:t<vs.length:=by omega
  have e2:vs[t]=v:=by rw [List.getElem?_eq_getElem hv] at k1;simpa using k1
  have e3:(({toList:=vs}:Array Value)++Array.replicate (fn.ntmps-(⟨vs⟩:Array Value).size) undef).getD t undef=v:=by
   simp [Array.getD_eq_getD_getElem?,Array.getElem?_append,hv,e2]
  rw [e3];exact k2
 simp [List.getD_eq_getElem?_getD,List.getElem?_eq_none (Nat.le_of_not_lt ht),ah]
theorem EC (hT:iz P T) {fn:Func} {β:Nat→Nat} {w:World} {aB aF:List ar} {res:ff} {β':Nat→Nat} {s:St} {a':Act} {w':World} (ex:Ext β aB w β' s.bx w') (hF:Fr G N ds β' w' X s a')
 (hq:match uE T s.sl s.bx fn.results.toList with
  |some (c,vs)=>OG aB.length c (nT vs) s.bx res aF
  |none=>False):∃v,(results fn a'.tmps).run P w'=.ok v w'∧∃β',Ext β aB w β' aF w'∧cr G β' aF w' X∧fq β' aF w' (aY β' aF w' X) res (.returned v):=by
 split at hq
 ·rename_i c vs' hres
  obtain ⟨hc,hq⟩:=hq
  obtain ⟨u,k1,k2⟩:=x9 hT hF hres hc
  refine ⟨u,k1,?_⟩
  rcases hq with ⟨rfl,rfl⟩|⟨ks,y,q1,q2,rfl,q3,rfl⟩|⟨k,sz,m,es,q0,q1,q2,q3,q4,rfl,rfl⟩|⟨sz,q0,q1,q2,rfl,rfl⟩
  ·exact ⟨β',ex,hF.cx,k2⟩
  ·obtain ⟨e1,c1,r1⟩:=CU hF.cx q1 k2
   obtain ⟨e2,c2⟩:=LB ks c1
   exact ⟨β',Aj ((ex.trans e1).trans e2),Ai c2 q3,mE (fun az hb=>Ah _ az hb) y u q2 (ah.mono (e2.dN X) _ _ r1)⟩
  ·rw [q0] at k2
   exact zk hF.cx ex q3 q4 (.inr ⟨q2,q1⟩) (.inr k2)
  rw [q0] at k2
  simp only [ah,List.length_nil] at k2
  obtain ⟨base,k2,_⟩:=k2
  exact zk (k:=0) hF.cx ex q1 q2 (.inl ⟨rfl,rfl⟩) (.inl ⟨rfl,rfl,base,k2⟩)
 exact hq.elim
structure vu (FD:Nat→List AV→List ar→ff→List ar→Prop) (f:Nat) (dB:List AV) (bx:List ar) (K:List ar→Prop):Prop where
 ok:∃jk,FD f dB bx (.ret (.dA [])) jk∧K jk
def JG (t:Th) (FD:Nat→List AV→List ar→ff→List ar→Prop) (T:Nat→Option TI) (results:List ResultVar) (n:Nat) (res:ff) (aF:List ar) (f:Nat) (dB:List AV):Ex→St→Prop
 |.exit _,_=>False
 |.panic _,_=>False
 |_,s=>vu FD f dB s.bx (fun jk=>match uE T s.sl jk results with
  |some (c,vs)=>AN n c (nT vs) jk (C2 t jk (nT vs)) res aF
  |none=>False)
def ED (t:Th) (FC FD:Nat→List AV→List ar→ff→List ar→Prop) (T:Nat→Option TI) (G:Nat→Option (List D)) (N:Nat) (pre:List Code) (ops:List Oper) (post:List Code) (results:List ResultVar) (n:Nat) (res:ff) (aF:List ar) (s:St):Prop:=
 AS t FC T G N n pre (fun e s=>match e with
  |.normal=>G4 t FC T G N ops (fun x s2=>match x with
   |.fn g dB=>bif eA dB then AS t FC T G N s2.bx.length post (JG t FD T results n res aF g dB) s2 else False
   |_=>False) s
  |_=>False) s
theorem yX (hT:iz P T) (hD:kQ P T G) {f N:Nat} {fn:Func} {c:Code} {args:List AV} {aB aF:List ar} {res:ff} (hf:P.funcs[f]?=some fn) (hb:fn.body=some c)
 (hname:(fn.name== "runtime.NumGoroutine")=false) (hN:fn.ntmps=N) (hlen:Nat.ble args.length N=true) {pre post:List Code} {id:Nat} {ops:Array Oper} (hc:flat c=pre++.region id ops false::post)
 (h:ED t0 (aZ P G) (An P G) T G N pre ops.toList post fn.results.toList aB.length res aF ⟨gm 0 args,aB⟩):aZ P G f args aB res aF:=by
 intro β w vs X cx hx
 refine .inl ⟨by simp [callFunc,run_program,hf,hb];simpa using hname,calls_of_wp_defers hf hb (vt c ?_)⟩
 rw [hc]
 refine m8 (og ?_ (fI hT hD (Nat.le_refl _) pre _ β w _ _ (Ext.refl _ _ _) (AT hN hlen cx hx) h))
 intro e a1 w1 hl
 cases e<;>simp only [dY,Exit.then] at hl ⊢
 case normal=>
  obtain ⟨β1,s1,uQ,Ce,hop⟩:=hl
  show (Code.region id ops false).wp P (Exit.then (p9 P post _) _) a1 w1
  refine wp_region_list (qV (β0:=β) (aB:=aB) (w0:=w) hT ?_ ?_ ops.toList β1 w1 s1 a1 uQ Ce hop)
  ·intro β2 w2 s2 a2 x v R9 zl hk hv hr
   simp only [Exit.then]
   split at hk
   case h_2=>exact hk.elim
   rename_i g dB
   cases pO:eA dB with
   |false=>simp [pO] at hk
   |true=>
   simp only [pO,cond_true] at hk
   simp only [ah] at hv
   obtain ⟨MU,rfl,uT⟩:=hv
   rw [kE pO uT] at hr ⊢
   simp only
   have VC:Fr G N [{target:=.fn (.func g) ⟨MU⟩,args:=#[]}] β2 w2 X s2 {a2 with defers:={target:=.fn (.func g) ⟨MU⟩,args:=#[]}::a2.defers}:=
    ⟨zl.cx,by rw [zl.defers],zl.size,zl.wF⟩
   refine og ?_ (fI (β0:=β2) (aB:=s2.bx) (w0:=w2) hT hD (Nat.le_refl _) post _ β2 w2 s2 _ (Ext.refl _ _ _) VC hk)
   have fin:∀(β3:Nat→Nat) (w3:World) (s3:St) (a3:Act),Ext β2 s2.bx w2 β3 s3.bx w3→Fr G N [{target:=.fn (.func g) ⟨MU⟩,args:=#[]}] β3 w3 X s3 a3→
    vu (An P G) g dB s3.bx (fun jk=>match uE T s3.sl jk fn.results.toList with
     |some (c,vs)=>AN aB.length c (nT vs) jk (C2 t0 jk (nT vs)) res aF
     |none=>False)→Leaves P fn a3.tmps (fun e w'=>∃β',Ext β aB w β' aF w'∧cr G β' aF w' X∧fq β' aF w' (aY β' aF w' X) res e) a3.defers .returning w3:=by
    intro β3 w3 s3 a3 Yk Ez hdf
    obtain ⟨jk,hfd,hq⟩:=hdf
    rw [Ez.defers]
    have JH:=aj.mono (Yk.dN X) _ _ uT
    obtain ⟨hi,hcd⟩:=hfd β3 w3 MU X Ez.cx JH
    refine leaves_cons (f:=g) (args:=⟨MU⟩) (by simp) (by simpa [invoke] using hi) ((hcd .returning).mono ?_)
    rintro e u' w4 ⟨rfl,β4,Yl,cx4,hres⟩
    cases e with
    |returned v=>
     simp only [Leaves,settle]
     have hF4:Fr G N [{target:=.fn (.func g) ⟨MU⟩,args:=#[]}] β4 w4 X ⟨s3.sl,jk⟩ a3:=⟨cx4,Ez.defers,Ez.size,fun t=>ah.mono (Yl.dN X) _ _ (Ez.wF t)⟩
     have Ym:=oX (T:=T) (results:=fn.results.toList) (n:=aB.length) (res:=res) (aF:=aF) (e:=.ret) (s:=⟨s3.sl,jk⟩) hq
     exact EC hT (((R9.trans Yk)).trans Yl) hF4 Ym
    |panicked ch=>simp [fq] at hres
    |outgrown=>simp [fq] at hres
   intro e a3 w3 G5
   cases e<;>simp only [dY,bodyPostD,JG] at G5 ⊢
   ·obtain ⟨β3,s3,k1,k2,k3⟩:=G5;exact fin β3 w3 s3 a3 k1 k2 k3
   ·obtain ⟨β3,s3,k1,k2,k3⟩:=G5;exact k3
   ·obtain ⟨β3,s3,k1,k2,k3⟩:=G5;exact fin β3 w3 s3 a3 k1 k2 k3
   obtain ⟨_,_,_,_,_,_,_,_,_,k3⟩:=G5;exact k3.elim
  intro x s hk
  split at hk
  ·rename_i g dB
   cases pO:eA dB with
   |false=>simp [pO] at hk
   |true=>exact ⟨_,_,rfl,pO⟩
  exact hk.elim
 case exit=>obtain ⟨_,_,_,_,k⟩:=hl;exact k.elim
 case ret=>obtain ⟨_,_,_,_,k⟩:=hl;exact k.elim
 case panic=>obtain ⟨_,_,_,_,_,_,_,_,_,k⟩:=hl;exact k.elim
theorem yY (hT:iz P T) (hD:kQ P T G) {f N:Nat} {fn:Func} {c:Code} {args:List AV} {aB aF:List ar} {res:ff} (hf:P.funcs[f]?=some fn) (hb:fn.body=some c)
 (hname:(fn.name== "runtime.NumGoroutine")=false) (hN:fn.ntmps=N) (hlen:Nat.ble args.length N=true)
 (h:qP t0 (aZ P G) T G N aB.length c (jB t0 T fn.results.toList aB.length res aF) ⟨gm 0 args,aB⟩):An P G f args aB res aF:=
 El hT hf hb hname hN hlen fun β w X a hF=>wp_mono (eY (X:=X) (β0:=β) (aB:=aB) (w0:=w) hT hD (Nat.le_refl _) c _ β w ⟨gm 0 args,aB⟩ a (Ext.refl _ _ _) hF h)
  fun _ _ _ hl=>dY.imp (fun _ _ hq=>oX hq) hl
end
def wO:List Oper→Bool
 |[]=>false
 |[o]=>match o.op with
  |.defer _=>true
  |_=>false
 |_::r=>wO r
def tW:List Code→Option (List Code×Nat×Array Oper×List Code)
 |[]=>none
 |.region id ops false::r=>bif wO ops.toList then some ([],id,ops,r) else match tW r with
  |some (p,i,o,q)=>some (.region id ops false::p,i,o,q)
  |none=>none
 |c::r=>match tW r with
  |some (p,i,o,q)=>some (c::p,i,o,q)
  |none=>none
theorem rZ:∀{l pre post:List Code} {id:Nat} {ops:Array Oper},tW l=some (pre,id,ops,post)→l=pre++.region id ops false::post
 |[],_,_,_,_,h=>by simp [tW] at h
 |c::r,pre,post,id,ops,h=>by
  unfold tW at h
  split at h
  ·simp at*
  ·rename_i id' ops' r' e
   simp only [List.cons.injEq] at e
   obtain ⟨rfl,rfl⟩:=e
   cases hl:wO ops'.toList with
   |true=>simp [hl] at h;obtain ⟨rfl,rfl,rfl,rfl⟩:=h;rfl
   |false=>
    simp only [hl,cond_false] at h
    split at h
    ·rename_i p i o q hs
     simp only [osI,Prod.mk.injEq] at h
     obtain ⟨rfl,rfl,rfl,rfl⟩:=h
     rw [rZ hs];rfl
    cases h
  rename_i c' r' hne e
  simp only [List.cons.injEq] at e
  obtain ⟨rfl,rfl⟩:=e
  split at h
  ·rename_i p i o q hs
   simp only [osI,Prod.mk.injEq] at h
   obtain ⟨rfl,rfl,rfl,rfl⟩:=h
   rw [rZ hs];rfl
  cases h
theorem JI {FD:Nat→List AV→List ar→ff→List ar→Prop} {f:Nat} {dB:List AV} {bx:List ar} {K:List ar→Prop} {jk:List ar} (h:FD f dB bx (.ret (.dA [])) jk) (hK:K jk):vu FD f dB bx K:=⟨jk,h,hK⟩
end Dem
end
section
namespace Dem
abbrev aA:=List UInt8
structure bz where
 a:Int
 b:Int
 c:Int
 d:Int
deriving DecidableEq
def bz.zero:bz:=⟨0,0,0,0⟩
def G6 (x y:Int):Int×Bool:=if x.toNat+y.toNat<18446744073709551616 then (((x.toNat+y.toNat:Nat):Int),true) else (0,false)
def G7 (x y:Int):Int×Bool:=if x.toNat<y.toNat then (0,false) else (((((x.toNat-y.toNat)%18446744073709551616:Nat)):Int),true)
def both (f:Int→Int→Int×Bool) (a b:bz):bz×Bool:=
 if (f a.a b.a).2&&(f a.b b.b).2&&(f a.c b.c).2&&(f a.d b.d).2 then (⟨(f a.a b.a).1,(f a.b b.b).1,(f a.c b.c).1,(f a.d b.d).1⟩,true) else (bz.zero,false)
def iA (a b:bz):bz×Bool:=both G6 a b
def fY (a b:bz):bz×Bool:=both G7 a b
def mK (a b:bz):Bool:=(fY b a).2
def qW:Nat→Int→aA
 |0,u=>[UInt8.ofNat (u%256).toNat]
 |n+1,u=>if 128≤u then UInt8.ofNat (u.toNat%128+128)::qW n (u / 128) else [UInt8.ofNat (u%256).toNat]
def eg (u:Int):aA:=qW 9 u
theorem C9:∀(n:Nat) (u:Int),(qW n u).length≤n+1
 |0,_=>by simp [qW]
 |n+1,u=>by
  unfold qW;split
  ·simp;exact C9 n _
  simp
theorem cY (u:Int):(eg u).length≤10:=C9 9 u
def bH (s:aA):aA:=eg s.length++s
def Cp (v:bz):aA:=eg v.a++eg v.b++eg v.c++eg v.d
end Dem
namespace Dem
def idxOf {α:Type} (p:α→Bool) (l:List α):Int:=match l.findIdx? p with|some k=>(k:Int)|none=>-1
theorem cO {α:Type} {p:α→Bool}:∀{l:List α} {k:Nat} {x:α},l[k]?=some x→p x=true→(∀i<k,∀y,l[i]?=some y→p y=false)→l.findIdx? p=some k
 |[],_,_,h,_,_=>by simp at h
 |y::r,0,x,h,hp,_=>by simp at h;subst h;simp [List.findIdx?_cons,hp]
 |y::r,k+1,x,h,hp,hb=>by
  have hy:p y=false:=hb 0 (by omega) y (by simp)
  simp only [List.getElem?_cons_succ] at h
  rw [List.findIdx?_cons,hy]
  simp [cO h hp fun i hi z hz=>hb (i+1) (by omega) z (by simpa using hz)]
theorem cR {α:Type} {p:α→Bool} {l:List α} (hb:∀(i:Nat) (y:α),l[i]?=some y→p y=false):l.findIdx? p=none:=by
 rw [List.findIdx?_eq_none_iff]
 intro x hx
 obtain ⟨i,hi⟩:=List.getElem?_of_mem hx
 exact hb i x hi
theorem eP {α:Type} (p:α→Bool) (l:List α):l.any p=decide (0≤idxOf p l):=by
 unfold idxOf
 cases h:l.findIdx? p with
 |none=>
  rw [List.findIdx?_eq_none_iff] at h
  simp
  intro x hx;simp [h x hx]
 |some k=>
  have:=List.findIdx?_eq_some_iff_getElem.1 h
  obtain ⟨hk,hp,_⟩:=this
  simp
  exact ⟨l[k],List.getElem_mem hk,hp⟩
end Dem
end
section
open Go Dem Go.Proofs
namespace Dem
theorem TT.eq {t:Th} (h:TT t):t=t0:=by funext α f;exact h α f
theorem bA {t:Th} (ht:TT t) {f N:Nat} {fn:Func} {c:Code} {args:List AV} {aB aF:List ar} {res:ff} (hf:Tryz.prog.funcs[f]?=some fn) (hb:fn.body=some c)
 (hname:(fn.name== "runtime.NumGoroutine")=false) (hN:fn.ntmps=N) {rs:List ResultVar} (D9:fn.results.toList=rs) {n:Nat} (hn:aB.length=n) (hlen:Nat.ble args.length N=true)
 (h:qP t FC tT gl N n c (jB t tT rs n res aF) ⟨gm 0 args,aB⟩):FC f args aB res aF:=by
 subst D9;subst hn
 have e:=ht.eq
 subst e
 exact yW JF nF hf hb hname hN hlen h
def FD:Nat→List AV→List ar→ff→List ar→Prop:=An Tryz.prog gl
theorem fcD {t:Th} (ht:TT t) {f N:Nat} {fn:Func} {c:Code} {args:List AV} {aB aF:List ar} {res:ff} (hf:Tryz.prog.funcs[f]?=some fn) (hb:fn.body=some c)
 (hname:(fn.name== "runtime.NumGoroutine")=false) (hN:fn.ntmps=N) {rs:List ResultVar} (D9:fn.results.toList=rs) {n:Nat} (hn:aB.length=n) (hlen:Nat.ble args.length N=true)
 {pre post:List Code} {id:Nat} {ops:Array Oper} (hs:tW (flat c)=some (pre,id,ops,post))
 (h:ED t FC FD tT gl N pre ops.toList post rs n res aF ⟨gm 0 args,aB⟩):FC f args aB res aF:=by
 subst D9;subst hn
 have e:=ht.eq
 subst e
 exact yX JF nF hf hb hname hN hlen (rZ hs) h
theorem fdC {t:Th} (ht:TT t) {f N:Nat} {fn:Func} {c:Code} {args:List AV} {aB aF:List ar} {res:ff} (hf:Tryz.prog.funcs[f]?=some fn) (hb:fn.body=some c)
 (hname:(fn.name== "runtime.NumGoroutine")=false) (hN:fn.ntmps=N) {rs:List ResultVar} (D9:fn.results.toList=rs) {n:Nat} (hn:aB.length=n) (hlen:Nat.ble args.length N=true)
 (h:qP t FC tT gl N n c (jB t tT rs n res aF) ⟨gm 0 args,aB⟩):FD f args aB res aF:=by
 subst D9;subst hn
 have e:=ht.eq
 subst e
 exact yY JF nF hf hb hname hN hlen h
theorem Zh {f:Nat} {fn:Func} {e:Array Value→Sem Value} {args:List AV} {v:AV} (hf:Tryz.prog.funcs[f]?=some fn) (hname:(fn.name== "runtime.NumGoroutine")=false)
 (hb:fn.body.isNone=true) (hn:Extern.findNext fn=none) (he:Extern.find fn=some e)
 (h:∀(β:Nat→Nat) (w:World) (vs:List Value) (ok:Nat→Prop),aj β [] w ok args vs→∃u,(e ⟨vs⟩).run Tryz.prog w=.ok u w∧ah β [] w ok v u):FC f args [] (.ret v) []:=by
 intro β w vs X cx hx
 obtain ⟨u,h1,h2⟩:=h β w vs _ hx
 refine .inr ⟨u,w,?_,β,Ext.refl _ _ _,cx,h2⟩
 rw [run_callFunc_extern hf hname hb hn he,h1]
 rfl
abbrev bc (x:Int):AV:=.d (.int .i64 x)
abbrev ax (x:Int):AV:=.d (.int .u64 x)
abbrev BL (b:Bool):AV:=.d (.bool b)
abbrev ST (s:List UInt8):AV:=.d (.str s)
abbrev SL (es:List (List D)):AV:=.d (.sl es)
abbrev V4 (a b c d:Int):AV:=.agg [.d (.int .u64 a),.d (.int .u64 b),.d (.int .u64 c),.d (.int .u64 d)]
theorem aE {k:Nat} (h1:k<9223372036854775807):IntKind.i64.wrap ((k:Int)+1)=((k+1:Nat):Int):=by rw [wrap64 (by omega) (by omega)];omega
theorem aa (n:Nat):@NatCast.natCast Int instNatCastInt n=(n:Int):=rfl
end Dem
end
section
open Go Go.Proofs Go.ChangeShapes Go.WideShapes Go.RowKit
namespace Dem
theorem own:ownKnob Tryz.prog.godebug=none:=by kernel_rfl
theorem laidOut:laidOutB Tryz.prog=true:=by kernel_rfl
theorem PU:Tryz.prog.globalNamed "demesne/word.letters"=some 0:=by kernel_rfl
theorem VD:Tryz.prog.globalNamed "demesne/word.marks"=some 1:=by kernel_rfl
def Da:TypeId:=228
def LQ:TypeId:=229
theorem PV:(Tryz.prog.globals[0]?).map (·.type)=some Da:=by kernel_rfl
theorem VE:(Tryz.prog.globals[1]?).map (·.type)=some LQ:=by kernel_rfl
def aas:DataW Unit→Value
 |.lit (.int k n)=>.int k n
 |_=>.int .u8 0
def aat:DataW Unit→List Value
 |.agg l=>l.map aas
 |_=>[]
noncomputable def G8 (os:Os):World:=
 let w0:=World.doorLaid Tryz.prog 400 os
 {w0 with heap:=w0.heap.modify 3 fun
  |.cells _ t fr=>.cells (aat YtjnbpclolnmimaaGreatDoor.Rows.laid_unicode_utf8_first).toArray t fr
  |o=>o}
abbrev AU:List (String×DataW Unit):=[("unicode/utf8.acceptRanges",YtjnbpclolnmimaaGreatDoor.Rows.laid_unicode_utf8_acceptRanges),("demesne/word.letters",YtjnbpclolnmimaaGreatDoor.Rows.laid_demesne_word_letters),("demesne/word.marks",YtjnbpclolnmimaaGreatDoor.Rows.laid_demesne_word_marks),("unicode/utf8.first",YtjnbpclolnmimaaGreatDoor.Rows.laid_unicode_utf8_first)]
theorem PW (os:Os) (args:Array Value):laidMetH Tryz.prog AU ((G8 os).forCall (fun _ _=>0) ⟨#[],args,[]⟩).memory:=
 laidMetH_of_parts3 (fuel:=8) (laidMet_of_run' 8 (by kernel_rfl) (by kernel_rfl)) (by kernel_rfl) (by kernel_rfl)
theorem tyL:Gm Tryz.prog 8 Da=some [.int .i32,.int .i32,.int .i32,.int .i32,.int .i32,.int .i32]:=by kernel_rfl
theorem tyM:Gm Tryz.prog 8 LQ=some [.int .i32,.int .i32,.int .i32,.int .i32]:=by kernel_rfl
theorem EE {w:World} {ok:Nat→Prop} {az:Nat}:∀{ds:List D} {vs:List Value} (off:Nat),b9 w ok ds vs→(∀i v,vs[i]?=some v→w.cell? ⟨az,off+i,none⟩=some v)→aW w ok az ds off
 |[],_,_,_,_=>by simp [aW]
 |d::ds,vs,off,h,hc=>by
  simp only [b9] at h
  obtain ⟨v,r,rfl,h1,h2⟩:=h
  simp only [aW]
  refine ⟨⟨v,hc 0 v rfl,h1⟩,EE (off+1) h2 fun i u hu=>?_⟩
  rw [show off+1+i=off+(i+1) by omega]
  exact hc (i+1) u (by simpa using hu)
theorem G9 {W:World} (h:laidMetH Tryz.prog AU W):cr gl (fun _=>0) [] W (fun _=>False):=by
 rw [MakeChecks.laidMetH_plain _ _ _ (by kernel_rfl)] at h
 obtain ⟨ps,⟨_,_,_,_,_,_,_,_,_,_,⟨g0,t0,cs0,f0,p0,q0,Xy,ht0,Yn,Zd,⟨g1,t1,cs1,f1,p1,q1,hg1,ht1,Zi,Xp,_,_⟩,_⟩,_⟩,_,_⟩:=h
 obtain rfl:=Option.some.inj (PU.symm.trans Xy)
 obtain rfl:=Option.some.inj (VD.symm.trans hg1)
 obtain rfl:=Option.some.inj (PV.symm.trans ht0)
 obtain rfl:=Option.some.inj (VE.symm.trans ht1)
 have hok:∀az,az<W.heap.size→aY (fun _=>0) [] W (fun _=>False) az:=fun az hb=>⟨hb,fun h=>h,fun i b hb=>by simp at hb⟩
 obtain ⟨r0,_⟩:=qA hok 8 _ _ _ _ _ Zd tyL
 obtain ⟨r1,_⟩:=qA hok 8 _ _ _ _ _ Xp tyM
 have c0:=fun i=>World.var?_cell Xy Yn i
 have c1:=fun i=>World.var?_cell hg1 Zi i
 refine ⟨fun _ h=>h.elim,?_,by simp,by simp,by simp⟩
 intro g ds hg
 unfold gl at hg
 have hlt:∀{i:Nat} {a:Addr} {v:Value},W.cell? a=some v→a.block<W.heap.size:=by
  intro i a v hc
  rcases Nat.lt_or_ge a.block W.heap.size with h|h
  ·exact h
  simp [World.cell?,h] at hc
 cases e0:Nat.beq g 0 with
 |true=>
  rw [e0] at hg
  simp only [cond_true,osI] at hg
  obtain rfl:=Nat.eq_of_beq_eq_true e0
  have hrow:aW W (aY (fun _=>0) [] W (fun _=>False)) 0 ds 0:=by
   rw [←hg];exact EE 0 r0 fun i v hv=>by rw [Nat.zero_add,c0 i];simpa using hv
  refine ⟨hok _ ?_,hrow⟩
  rw [←hg] at hrow
  simp only [aW] at hrow
  obtain ⟨⟨u,hu,_⟩,_⟩:=hrow
  exact hlt (i:=0) hu
 |false=>
  rw [e0] at hg
  simp only [cond_false] at hg
  cases e1:Nat.beq g 1 with
  |true=>
   rw [e1] at hg
   simp only [cond_true,osI] at hg
   obtain rfl:=Nat.eq_of_beq_eq_true e1
   have hrow:aW W (aY (fun _=>0) [] W (fun _=>False)) 1 ds 0:=by
    rw [←hg];exact EE 0 r1 fun i v hv=>by rw [Nat.zero_add,c1 i];simpa using hv
   refine ⟨hok _ ?_,hrow⟩
   rw [←hg] at hrow
   simp only [aW] at hrow
   obtain ⟨⟨u,hu,_⟩,_⟩:=hrow
   exact hlt (i:=0) hu
  |false=>rw [e1] at hg;cases hg
theorem JJ {f:Nat} {args:List AV} {vs:List Value} {W:World} (hL:laidMetH Tryz.prog AU W) (he:∀args w,(callFunc f args).run Tryz.prog w=.ok (.enter f args) w)
 (hx:aj (fun _=>0) [] W (aY (fun _=>0) [] W (fun _=>False)) args vs) (h:FC f args [] (.ret (.d (.bool true))) []):
 Calls Tryz.prog f ⟨vs⟩ W fun e w'=>e=.returned (.bool true)∧RowKit.Below W.heap.size W w':=by
 have hc:=h (fun _=>0) W vs (fun _=>False) (G9 hL) hx
 rcases hc with ⟨_,hc⟩|⟨v,w',hc,_⟩
 ·refine hc.mono ?_
  rintro e w' ⟨β',ex,_,hr⟩
  cases e with
  |returned u=>
   simp only [fq,ah,aH] at hr
   subst hr
   exact ⟨rfl,⟨ex.os,ex.tape,ex.output,ex.size,fun k hk=>ex.block k hk (by simp)⟩⟩
  |_=>exact hr.elim
 rw [he] at hc;cases hc
theorem Cq {H:Type} {enc:TypeId×Value→H} {P:Program} (hl:laidOutB P=true) {W W':World} (hb:RowKit.Below W.heap.size W W'):∀(ts:List TypeId) (vs:List Value) (ds:List (DataW H)) (ps:List MemPlace),(ts.all fun t=>P.readableRec t&&decide (t<P.types.size))=true→
 (∀x∈ps,x.block<W.heap.size)→DataW.TrodAll enc P W 0 (fun _=>true) true ts vs ds ps→DataW.TrodAll enc P W' 0 (fun b=>decide (b<W.heap.size)) true ts vs ds ps:=by
 intro ts
 induction ts with
 |nil=>
  intro vs ds ps _ _ h
  cases vs with
  |nil=>cases ds with
   |nil=>exact h
   |cons d ds=>exact h.elim
  |cons v vs=>cases ds<;>exact h.elim
 |cons t ts ih=>
  intro vs ds ps ht hlt h
  cases vs with
  |nil=>cases ds<;>exact h.elim
  |cons v vs=>cases ds with
   |nil=>exact h.elim
   |cons d ds=>
    obtain ⟨p,q,h1,h2,rfl⟩:=h
    simp only [List.all_cons,Bool.and_eq_true,decide_eq_true_eq] at ht
    exact ⟨p,q,RowKit.Below.trod hl ht.1.1 ht.1.2 h1 hb (fun x hx=>hlt x (List.mem_append_left _ hx)),ih vs ds q ht.2 (fun x hx=>hlt x (List.mem_append_right _ hx)) h2,rfl⟩
theorem He {H:Type} {enc:TypeId×Value→H} {P:Program} {W:World}:∀(ts:List TypeId) (vs:List Value) (ds:List (DataW H)) (ps:List MemPlace),DataW.TrodAll enc P W 0 (fun _=>true) true ts vs ds ps→ds.length=ts.length:=by
 intro ts
 induction ts with
 |nil=>
  intro vs ds ps h
  cases vs with
  |nil=>cases ds with
   |nil=>rfl
   |cons d ds=>exact h.elim
  |cons v vs=>cases ds<;>exact h.elim
 |cons t ts ih=>
  intro vs ds ps h
  cases vs with
  |nil=>cases ds<;>exact h.elim
  |cons v vs=>cases ds with
   |nil=>exact h.elim
   |cons d ds=>obtain ⟨_,_,_,h2,_⟩:=h;simp [ih _ _ _ h2]
theorem Cr {W W':World} (hb:RowKit.Below W.heap.size W W') (may:MemPlace→Prop):W.keptBut W' may:=by
 refine ⟨hb.os,hb.output,fun i hi=>?_⟩
 rw [hb.block i hi]
 generalize W.heap[i]?=o
 cases o with
 |none=>rfl
 |some o=>cases o<;>first|exact ⟨rfl,rfl,rfl,fun _ _=>rfl⟩|exact .inr ⟨rfl,rfl⟩|rfl
theorem Yo:Tryz.prog.underlying 4=some .bool:=by kernel_rfl
end Dem
end
section
open Go
namespace Dem
def dec (s:aA) (pos:Nat):Nat×Nat:=Utf8.decode ⟨s.toArray⟩ pos
theorem LR (s:aA) (pos:Nat) (h:pos<s.length):1≤(dec s pos).2:=Lib.decode_width_pos _ pos (by show pos<s.toArray.size;simpa using h)
def ir (s:aA):Nat→Nat→List (Nat×Nat)
 |0,_=>[]
 |n+1,pos=>if pos<s.length then (pos,(dec s pos).1)::ir s n (pos+(dec s pos).2) else []
def Db (s:aA):List (Nat×Nat):=ir s s.length 0
def EF:List (Int×Int):=[(97,122),(945,969),(1072,1103)]
def marks:List (Int×Int):=[(48,57),(45,45)]
def Hf (r:Int) (l:List (Int×Int)):Bool:=l.any fun x=>decide (x.1≤r)&&decide (r≤x.2)
def qX (s:aA):Nat:=(Db s).length
def VF (x:Nat×Nat):Bool:=Hf x.2 EF||(!decide (x.1=0)&&Hf x.2 marks)
def dU (s:aA):Bool:=(Db s).all VF&&!decide (s=[])&&decide (qX s≤16)
theorem AW (s:aA):∀(n pos:Nat),(ir s n pos).length≤n
 |0,_=>by simp [ir]
 |n+1,pos=>by
  unfold ir;split
  ·simp;exact AW s n _
  simp
structure bR where
 key:aA
 value:aA
deriving DecidableEq
abbrev bR.cells (p:bR):List D:=[.str p.key,.str p.value]
def sle (x y:aA):Bool:=Op.bytesLess x y||decide (x=y)
def iT:Option aA→List bR→Bool
 |_,[]=>true
 |q,p::r=>dU p.key&&dU p.value&&(match q with|none=>true|some q=>!sle p.key q)&&iT (some p.key) r
def oY (l:List bR):Bool:=iT none l&&decide (l.length≤8)
def lE (l:List bR) (k:Nat):Option aA:=match k with
 |0=>none
 |k+1=>(l[k]?).map (·.key)
def bR.sm (p:bR):Prop:=p.key.length<9223372036854775807∧p.value.length<9223372036854775807
end Dem
end
