/- Parts of a proof, joined. -/
import Derived.Test.YtihohjnkkalgiaaGreatDoorP12
import Derived.Test.YtihohjnkkalgiaaGreatDoorProg
import Derived.KernelRfl
import Derived.Defers
import Derived.Test.YtihohjnkkalgiaaGreatDoorRows
import Derived.ProofKit
import Derived.LaidMore
import Derived.OpenShut
import Derived.Carry
import Derived.Stop.Joined
import Derived.Lib.RuneCount
set_option linter.all false
set_option maxRecDepth 100000
set_option maxHeartbeats 4000000
section
open Go
namespace Dem
theorem aC {s:St} {P:St→Prop} (h:P s):LoopIn (some s) P:=⟨h⟩
def Uc (bx:List ay):List (Nat×ay)→List ay
 |[]=>bx
 |(i,b)::r=>Uc (bx.set i b) r
def Ud (sl:List (Nat×AV)):List (Nat×AV)→List (Nat×AV)
 |[]=>sl
 |(i,v)::r=>Ud (put i v sl) r
def JF (s:St) (u:List (Nat×AV)) (b:List (Nat×ay)):St:=⟨Ud s.sl u,Uc s.bx b⟩
theorem bI {K:Nat} {A:(Ex→St→Prop)→St→Prop} {Q:Ex→St→Prop} {s:St} (nf:Nf) {σ:Type} (U:σ→List (Nat×AV)) (V:σ→List (Nat×ay)) (J:Nat→σ→Prop)
 (h:LoopIn (vO K nf s) fun s0=>∃n0 v0,J n0 v0∧s0=JF s0 (U v0) (V v0)∧
  ∀n v,J n v→A (fun e s2=>sw (fun s2=>LoopIn (vO K nf s2) (fun s3=>∃m v',(m<n∧J m v')∧s3=JF s0 (U v') (V v'))) Q e s2) (JF s0 (U v) (V v))):QZ K A Q s:=by
 obtain ⟨h⟩:=h
 split at h
 ·rename_i s0 hn
  obtain ⟨n0,v0,hJ,hs,hr⟩:=h
  refine ⟨nf,fun n s1=>∃v,J n v∧s1=JF s0 (U v) (V v),n0,⟨?_⟩,?_⟩
  ·rw [hn];exact ⟨v0,hJ,hs⟩
  rintro n s1 ⟨v,hv,rfl⟩
  have e:(fun e s2=>sw (fun s2=>LoopIn (vO K nf s2) (fun s3=>∃m v',(m<n∧J m v')∧s3=JF s0 (U v') (V v'))) Q e s2)=
   (fun e s2=>sw (fun s2=>LoopIn (vO K nf s2) (fun s3=>∃m,m<n∧∃v,J m v∧s3=JF s0 (U v) (V v))) Q e s2):=by
   funext e s2
   congr 1
   funext s2
   congr 1
   funext s3
   apply propext
   constructor
   ·rintro ⟨m,v',⟨h1,h2⟩,h3⟩;exact ⟨m,h1,v',h2,h3⟩
   rintro ⟨m,h1,v',h2,h3⟩;exact ⟨m,v',⟨h1,h2⟩,h3⟩
  rw [←e];exact hr n v hv
 exact h.elim
theorem an {p:Bool} {A B:Unit→Prop} (h1:p=true→A ()) (h2:p=false→B ()):ue (.d (.bool p)) A B:=.mk (And.intro h1 h2)
theorem jX {p:Bool} {A B:Unit→Prop} (hp:p=true) (h1:A ()):ue (.d (.bool p)) A B:=.mk (And.intro (fun _=>h1) (fun h=>by rw [hp] at h;cases h))
theorem mU {p:Bool} {A B:Unit→Prop} (hp:p=false) (h1:B ()):ue (.d (.bool p)) A B:=.mk (And.intro (fun h=>by rw [hp] at h;cases h) (fun _=>h1))
theorem cI {g:Bool} {c:Prop} {ds:List D} {K:List D→Prop} (ds':List D) (hc:c) (hd:ds=ds') (hK:K ds'):mI g c ds K:=⟨ds',fun _=>⟨hc,hd⟩,hK⟩
theorem Ph {g:Bool} {c:Prop} {ds:List D} {K:List D→Prop} (ds':List D) (hc:c) (hd:ds=ds') (hK:K ds'):yo g c ds K:=⟨ds',fun _=>⟨hc,hd⟩,hK⟩
theorem Pj {g:Bool} {c:Prop} {ds:List D} {K:List D→Prop} (ds':List D) (h:g=true→c∧ds=ds') (hK:K ds'):mI g c ds K:=⟨ds',h,hK⟩
theorem RN {g:Bool} {c:Prop} {ds:List D} {K:List D→Prop} (ds':List D) (h:g=true→c∧ds=ds') (hK:K ds'):yo g c ds K:=⟨ds',h,hK⟩
theorem bE {c:Prop} {v:AV} {bx:List ay} {K:AV→List ay→Prop} (v':AV) (aP:List ay) (hc:c) (hv:v=v') (hb:bx=aP) (hK:K v' aP):Mj c v bx K:=⟨v',aP,hc,hv,hb,hK⟩
theorem gE {g:Bool} {c:Prop} {v:AV} {K:AV→Prop} (v':AV) (h:g=true→c∧v=v') (hK:K v'):QS g c v K:=⟨v',h,hK⟩
theorem gI {g:Bool} {p K:Prop} (h:g=true→p) (k:K):uD g p∧K:=⟨⟨h⟩,k⟩
theorem pI {p:Bool} {a b K:Prop} (h:(p=true→a)∧(p=false→b)) (k:K):Ir p a b∧K:=⟨⟨h⟩,k⟩
section
variable {P:Program} {G:Nat→Option (List D)} {FC:Nat→List AV→List ay→iy→List ay→Prop} {kO:Prop} {f:Nat} {args args':List AV} {c:Prop} {bx oA oB:List ay} {v:AV} {K Kp:AV→List ay→Prop}
theorem fO (ho:kO) (h:FC f args' [] (.ret v) []) (hc:c) (hs:AV.shut.lY args'=true) (hf:v.flat=true) (hK:K v bx):oc FC kO f args (some (c,args')) bx K Kp:=
 ⟨ho,.inl ⟨c,args',rfl,hc,hs,.inl ⟨v,h,.inl hf,hK⟩⟩⟩
theorem o4 (ho:kO) (h:FC f args' [] (.ret v) []) (hc:c) (hs:AV.shut.lY args'=true) (hz:eL [] args=some args') (hv:v.shut=true) (hK:K v bx):oc FC kO f args (some (c,args')) bx K Kp:=
 ⟨ho,.inl ⟨c,args',rfl,hc,hs,.inl ⟨v,h,.inr ⟨hz,hv⟩,hK⟩⟩⟩
theorem jg {sz n:Nat} {es:List (List D)} (ho:kO) (h:FC f args' [] (.ret (.ow 0 sz n)) [.row sz es]) (hc:c) (hs:AV.shut.lY args'=true) (hz:(∀r∈es,∀x∈r,x.flat=true)∨eL [] args=some args') (hK:K (.ow bx.length sz n) (bx++[.row sz es])):oc FC kO f args (some (c,args')) bx K Kp:=
 ⟨ho,.inl ⟨c,args',rfl,hc,hs,.inr ⟨sz,n,es,h,hz,hK⟩⟩⟩
theorem Mx {fz:Option (Prop×List AV)} (ho:kO) (hfz:fz=some (c,args')) (hc:c) (h:FC f args' (eV bx args) (.ret v) oB) (hK:K v oB):oc FC kO f args fz bx K Kp:=
 ⟨ho,.inr ⟨args',eV bx args,.ret v,oB,.inr ⟨⟨c,hfz,hc⟩,rfl⟩,h,hK⟩⟩
theorem dV {fz:Option (Prop×List AV)} (ho:kO) (h:FC f args bx (.ret v) oB) (hK:K v oB):oc FC kO f args fz bx K Kp:=
 ⟨ho,.inr ⟨args,bx,.ret v,oB,.inl ⟨rfl,rfl⟩,h,hK⟩⟩
theorem Eo {dr g:Bool} {v:AV} {K:AV→Prop} (h:g=true→kO∧c∧FC f args' [] (.ret v) []) (hs:AV.bN.cX [] args'=true) (hf:v.flat=true) (hK:K v):rE FC dr g kO f args bx (some (c,args')) K:=
 ⟨.inr ⟨v,fun hg=>⟨(h hg).1,args',[],⟨c,rfl,(h hg).2.1⟩,hs,⟨false,rfl,fun h=>by cases h⟩,by simp,(h hg).2.2,.inl hf⟩,hK⟩⟩
theorem mB {dr g:Bool} {v:AV} {K:AV→Prop} (h:g=true→kO∧c∧FC f args' [] (.ret v) []) (hs:AV.bN.cX [] args'=true) (hz:eL [] args=some args') (hf:v.shut=true) (hK:K v):rE FC dr g kO f args bx (some (c,args')) K:=
 ⟨.inr ⟨v,fun hg=>⟨(h hg).1,args',[],⟨c,rfl,(h hg).2.1⟩,hs,⟨false,rfl,fun h=>by cases h⟩,by simp,(h hg).2.2,.inr ⟨hz,hf⟩⟩,hK⟩⟩
theorem RO {P:Program} {G:Nat→Option (List D)} {dr g:Bool} {v:AV} {K:AV→Prop} {oe:List AV} {aI:List ay} (ks:List Bool) (bZ:List Nat) (ho:g=true→kO∧c∧bA P G f oe aI (.ret v) aI)
 (hn:AV.bN.cX (kill ks bx) args'=true) (hl:dO false (kill ks bx) (kill ks bx)=true) (hv:v.flat=true∨eL [] args=some args'∧v.shut=true)
 (ha:AV.wE (fun b=>dU b bZ 0) args'=some oe) (hb:fZ (fun b=>dU b bZ 0) (kill ks bx) bZ=some aI) (hb':En bZ (kill ks bx) aI=some (kill ks bx)) (hr:iy.iq (kp bZ (kill ks bx).length) (.ret v)=some (.ret v))
 (hK:K v):rE (bA P G) dr g kO f args bx (some (c,args')) K:=by
 refine ⟨.inr ⟨v,fun hg=>⟨(ho hg).1,args',kill ks bx,⟨c,rfl,(ho hg).2.1⟩,hn,⟨false,hl,fun h=>by cases h⟩,?_,dw bZ ha hb hr hb' (ho hg).2.2,hv⟩,hK⟩⟩
 intro i b hi dG
 obtain ⟨b0,h1,h2⟩:=lC ks bx i b hi
 rcases h2 with rfl|⟨rfl,h3⟩
 ·exact ⟨_,h1,dG,fun _=>rfl⟩
 exact ⟨b0,h1,h3,fun h=>by simp [ay.live] at h⟩
theorem Ep {x sz n:Nat} {es:List (List D)} {at_:Option ay} {K:AV→ay→Prop} (ho:kO) (h:FC f args' [] (.ret (.ow 0 sz n)) [.row sz es]) (hc:c) (hs:AV.shut.lY args'=true) (hz:(∀r∈es,∀x∈r,x.flat=true)∨eL [] args=some args') (hat:at_=some .bt)
 (hK:K (.ow x sz n) (.row sz es)):QT FC kO f args (some (c,args')) at_ x K:=⟨args',sz,n,es,ho,⟨c,rfl,hc⟩,hs,h,hz,hat,hK⟩
structure My (r:Option iy) (b:Option (List ay)) (K:AV→List ay→Prop):Prop where
 ok:match r,b with
  |some (.ret v),some bx=>K v bx
  |_,_=>False
theorem cj {v:AV} {bx:List ay} {K:AV→List ay→Prop} (h:K v bx):My (some (.ret v)) (some bx) K:=⟨h⟩
theorem dx {fz:Option (Prop×List AV)} (bZ:List Nat) {oe:List AV} {aI tB:List ay} {v0:AV} (ho:kO)
 (ha:AV.wE (fun b=>dU b bZ 0) args=some oe) (hb:fZ (fun b=>dU b bZ 0) bx bZ=some aI) (h:bA P G f oe aI (.ret v0) tB)
 (hK:My (iy.iq (kp bZ bx.length) (.ret v0)) (En bZ bx tB) K):oc (bA P G) kO f args fz bx K Kp:=by
 obtain ⟨hK⟩:=hK
 split at hK
 ·rename_i v aP hr hb'
  exact dV ho (dw bZ ha hb hr hb' h) hK
 exact hK.elim
end
section
variable {n:Nat} {c d:Prop} {v u:AV} {bx aP:List ay} {res:iy} {fz:Option (Prop×AV)}
theorem ax (hc:c) (hd:d) (hw:u.within n=true) (hb:aP=(sy bx v).take n) (RP:bX n aP=true) (hr:res=.ret u):Em n c v bx (some (d,u)) res aP:=
 ⟨hc,.inr (.inl ⟨[],d,u,rfl,hd,hw,hb,RP,hr⟩)⟩
theorem wG (ks:List Bool) (hc:c) (hd:d) (hw:u.within n=true) (hb:aP=(kill ks (sy bx v)).take n) (RP:bX n aP=true) (hr:res=.ret u):Em n c v bx (some (d,u)) res aP:=
 ⟨hc,.inr (.inl ⟨ks,d,u,rfl,hd,hw,hb,RP,hr⟩)⟩
theorem Gz (hc:c) (hb:aP=bx) (hr:res=.ret v):Em n c v bx fz res aP:=⟨hc,.inl ⟨hr,hb⟩⟩
theorem Ad {k sz m:Nat} {es:List (List D)} (hc:c) (hk:bx[k]?=some (.row sz es)) (h1:Nat.ble n k=true) (h2:Nat.ble n bx.length=true) (RP:bX n (bx.take n)=true) (hr:res=.ret (.ow n sz m)) (hb:aP=bx.take n++[.row sz es]):Em n c (.ow k sz m) bx fz res aP:=
 ⟨hc,.inr (.inr (.inl ⟨k,sz,m,es,rfl,hk,Nat.le_of_ble_eq_true h1,Nat.le_of_ble_eq_true h2,RP,hr,hb⟩))⟩
theorem Er {sz:Nat} (hc:c) (h2:Nat.ble n bx.length=true) (RP:bX n (bx.take n)=true) (hr:res=.ret (.ow n sz 0)) (hb:aP=bx.take n++[.row sz []]):Em n c (.cl []) bx fz res aP:=
 ⟨hc,.inr (.inr (.inr ⟨sz,rfl,Nat.le_of_ble_eq_true h2,RP,hr,hb⟩))⟩
end
theorem dK {P:Program} {G:Nat→Option (List D)} {f b sz n:Nat} {args:List AV} {bx aP:List ay} {res:iy}
 (h:∀c,n≤c→(n=0→c=0)→bA P G f (.vw b sz 0 n c true::args) bx res aP):bA P G f (.ow b sz n::args) bx res aP:=by
 intro β w vs X cx hx
 simp only [ak] at hx
 obtain ⟨u,us,rfl,hx,hxs⟩:=hx
 simp only [aj] at hx
 obtain ⟨hb,⟨rfl,base,rfl⟩|⟨h0,cap,c,e,f',rfl,h1,h2,h3⟩⟩:=hx
 ·refine h 0 (Nat.le_refl _) (fun _=>rfl) β w _ X cx ?_
  simp only [ak,aj]
  exact ⟨_,us,rfl,⟨hb,base,0,#[],0,(0,0),rfl,Nat.le_refl _,Nat.le_refl _,fun _=>rfl,.inl rfl⟩,hxs⟩
 refine h cap h1 (fun h=>absurd h h0) β w _ X cx ?_
 simp only [ak,aj]
 exact ⟨_,us,rfl,⟨hb,_,cap,c,e,f',rfl,h1,Nat.le_refl _,fun _=>rfl,.inr ⟨by simp,h2,by simpa using h3⟩⟩,hxs⟩
theorem wrap64 {x:Int} (h0:-9223372036854775808≤x) (h1:x<9223372036854775808):IntKind.i64.wrap x=x:=by
 simp [IntKind.wrap,IntKind.signed,IntKind.bits];omega
end Dem
end
section
open Go
namespace Dem
def qU:AV:=.d (.int .u64 0)
def qI:AV:=.d (.int .i64 0)
def qS:AV:=.d (.str [])
def qF:AV:=.d (.bool false)
def qY:AV:=.d (.int .u8 0)
def qC:AV:=.cl []
def oq:Option TI:=some ⟨1,8,.other,.k .nilFunc,true,none⟩
def uG:Option TI:=some ⟨1,0,.other,.any,true,none⟩
def Q2:Option TI:=some ⟨1,8,.other,.k .nk,true,none⟩
def Ue:Option TI:=some ⟨1,16,.iface,.k .nilIface,true,none⟩
def VE:Option TI:=some ⟨1,8,.int .i64,qI,true,none⟩
def VF:Option TI:=some ⟨1,1,.int .u8,qY,true,none⟩
def VG:Option TI:=some ⟨1,8,.int .u64,qU,true,none⟩
def Wt:Option TI:=some ⟨1,16,.str,qS,true,none⟩
def Wu:Option TI:=some ⟨1,4,.int .i32,.d (.int .i32 0),true,none⟩
def Wv:Option TI:=some ⟨5,5,.struct [(0,5),(1,5),(2,5),(3,5),(4,5)],.agg [qY,qY,qY,qY,qY],true,none⟩
def Uf:Option TI:=some ⟨4,24,.struct [(0,2),(1,3),(2,4),(3,6)],.agg [qI,qI,qF,qY],true,none⟩
def Ug:Option TI:=some ⟨2,24,.struct [(0,9),(1,12)],.agg [qS,qU],false,none⟩
def Uh:Option TI:=some ⟨1,8,.struct [(0,17)],.agg [.k .nk],false,none⟩
def Ui:Option TI:=some ⟨2,48,.struct [(0,25),(1,26)],.agg [qC,qC],true,none⟩
def Uj:Option TI:=some ⟨1,24,.slice 139,qC,true,none⟩
def Uk:Option TI:=some ⟨2,32,.struct [(0,24),(1,32)],.agg [qU,qC],true,none⟩
def Ul:Option TI:=some ⟨11,200,.struct [(0,24),(1,24),(2,28),(4,29),(5,30),(6,31),(7,34),(9,34)],.agg [qU,qU,qC,qC,qC,qC,qC,qU,qC,qU,qC],true,none⟩
def Um:Option TI:=some ⟨4,32,.array 4 24,.agg [qU,qU,qU,qU],true,none⟩
def Un:Option TI:=some ⟨9,96,.struct [(0,9),(1,40),(5,3),(6,3),(7,3),(8,41)],.agg [qS,qU,qU,qU,qU,qI,qI,qI,qC],true,none⟩
def Uo:Option TI:=some ⟨12,120,.struct [(0,24),(1,43),(10,4),(11,3)],.agg [qU,qS,qU,qU,qU,qU,qI,qI,qI,qC,qF,qI],true,none⟩
def Up:Option TI:=some ⟨2,16,.struct [(0,24),(1,3)],.agg [qU,qI],true,none⟩
def Uq:Option TI:=some ⟨7,80,.struct [(0,9),(1,40),(5,73),(6,4)],.agg [qS,qU,qU,qU,qU,qC,qF],true,none⟩
def Ur:Option TI:=some ⟨12,208,.struct [(0,36),(11,3)],.agg [qU,qU,qC,qC,qC,qC,qC,qU,qC,qU,qC,qI],true,none⟩
def Us:Option TI:=some ⟨6,56,.struct [(0,24),(1,9),(2,40)],.agg [qU,qS,qU,qU,qU,qU],true,none⟩
def Ut:Option TI:=some ⟨11,200,.struct [(0,36)],.agg [qU,qU,qC,qC,qC,qC,qC,qU,qC,qU,qC],true,none⟩
def Uu:Option TI:=some ⟨9,80,.struct [(0,9),(1,40),(5,40)],.agg [qS,qU,qU,qU,qU,qU,qU,qU,qU],true,none⟩
def Uv:Option TI:=some ⟨2,32,.struct [(0,9),(1,9)],.agg [qS,qS],true,none⟩
def Uw:Option TI:=some ⟨4,32,.struct [(0,40)],.agg [qU,qU,qU,qU],true,none⟩
def Ux:Option TI:=some ⟨3,24,.struct [(0,24),(1,24),(2,3)],.agg [qU,qU,qI],true,none⟩
def Uy:Option TI:=some ⟨1,8,.struct [(0,188)],.agg [.k .nilFunc],true,none⟩
def Uz:Option TI:=some ⟨6,72,.struct [(0,9),(1,40),(5,73)],.agg [qS,qU,qU,qU,qU,qC],true,none⟩
def UA:Option TI:=some ⟨2,8,.struct [(0,21),(1,21)],.agg [.d (.int .i32 0),.d (.int .i32 0)],true,none⟩
def UB:Option TI:=some ⟨2,32,.struct [(0,274),(1,275)],.agg [.k .nk,qC],true,none⟩
def UC:Option TI:=some ⟨2,2,.struct [(0,5),(1,5)],.agg [qY,qY],true,none⟩
def UD:Option TI:=some ⟨4,40,.struct [(0,17),(1,17),(2,17),(3,9)],.agg [.k .nk,.k .nk,.k .nk,qS],false,none⟩
def UE:Option TI:=some ⟨0,0,.struct [(0,327)],.agg [],false,none⟩
def UF:Option TI:=some ⟨11,48,.struct [(0,12),(1,12),(2,297),(3,330),(4,5),(5,5),(6,331),(7,332),(8,299),(9,333),(10,334)],.agg [qU,qU,.d (.int .u32 0),qY,qY,qY,qY,.k .nilFunc,.k .nk,.d (.int .i32 0),.d (.int .i32 0)],false,none⟩
def Ww (t:Nat):Option TI:=(if t<9 then (if t<5 then if t=0 then uG else if t=2 then VE else if t=3 then VE else if t=4 then some ⟨1,1,.bool,qF,true,none⟩ else oq else if t=5 then VF else if t=6 then VF else if t=7 then Uf else if t=8 then Uf else oq) else (if t<13 then if t=9 then Wt else if t=10 then Wt else if t=11 then Wt else if t=12 then VG else oq else if t=13 then Ug else if t=14 then Ug else if t=15 then Q2 else if t=16 then Q2 else oq))
def Wx (t:Nat):Option TI:=(if t<26 then (if t<21 then if t=17 then Q2 else if t=18 then Uh else if t=19 then Uh else if t=20 then Ue else oq else if t=21 then Wu else if t=22 then some ⟨1,24,.slice 85,qC,true,none⟩ else if t=24 then VG else if t=25 then some ⟨1,24,.slice 75,qC,true,none⟩ else oq) else (if t<30 then if t=26 then some ⟨1,24,.slice 118,qC,true,none⟩ else if t=27 then Ui else if t=28 then Ui else if t=29 then Uj else oq else if t=30 then some ⟨1,24,.slice 45,qC,true,none⟩ else if t=31 then some ⟨1,24,.slice 69,qC,true,none⟩ else if t=32 then some ⟨1,24,.slice 170,qC,true,none⟩ else if t=33 then Uk else oq))
def Wy (t:Nat):Option TI:=(if t<44 then (if t<40 then if t=34 then Uk else if t=35 then Ul else if t=36 then Ul else if t=39 then Um else oq else if t=40 then Um else if t=41 then some ⟨1,24,.slice 122,qC,true,none⟩ else if t=42 then Un else if t=43 then Un else oq) else (if t<51 then if t=44 then Uo else if t=45 then Uo else if t=46 then uG else if t=48 then some ⟨1,24,.slice 24,qC,true,none⟩ else oq else if t=51 then some ⟨1,24,.slice 9,qC,true,none⟩ else if t=52 then uG else if t=54 then uG else if t=60 then VE else oq))
def Wz (t:Nat):Option TI:=(if t<76 then (if t<69 then if t=61 then uG else if t=63 then some ⟨1,24,.slice 109,qC,true,none⟩ else if t=66 then uG else if t=68 then Up else oq else if t=69 then Up else if t=73 then some ⟨1,24,.slice 147,qC,true,none⟩ else if t=74 then Uq else if t=75 then Uq else oq) else (if t<105 then if t=76 then uG else if t=84 then Wv else if t=85 then Wv else if t=99 then uG else oq else if t=105 then uG else if t=109 then Wv else if t=112 then Ur else if t=113 then Ur else oq))
def WA (t:Nat):Option TI:=(if t<131 then (if t<122 then if t=116 then uG else if t=117 then Us else if t=118 then Us else if t=121 then some ⟨3,48,.struct [(0,9),(1,4),(2,51)],.agg [qS,qF,qC],true,none⟩ else oq else if t=122 then some ⟨3,48,.struct [(0,9),(1,4),(2,51)],.agg [qS,qF,qC],true,some ("demesne/sel.holds",76)⟩ else if t=125 then uG else if t=127 then uG else if t=130 then Ut else oq) else (if t<144 then if t=131 then Ut else if t=138 then Uu else if t=139 then Uu else if t=141 then uG else oq else if t=144 then uG else if t=146 then Uv else if t=147 then Uv else if t=151 then some ⟨1,24,.slice 209,qC,true,none⟩ else oq))
def WB (t:Nat):Option TI:=(if t<176 then (if t<164 then if t=153 then uG else if t=157 then some ⟨1,24,.slice 3,qC,true,none⟩ else if t=160 then Uj else if t=163 then Uw else oq else if t=164 then Uw else if t=169 then Ux else if t=170 then Ux else if t=174 then uG else oq) else (if t<199 then if t=176 then Ue else if t=177 then Ue else if t=192 then some ⟨1,8,.map 24 3,.k .Bz,true,none⟩ else if t=198 then Uy else oq else if t=199 then Uy else if t=206 then uG else if t=208 then Uz else if t=209 then Uz else oq))
def WC (t:Nat):Option TI:=(if t<236 then (if t<230 then if t=220 then uG else if t=226 then some ⟨0,0,.struct [],.agg [],true,none⟩ else if t=227 then some ⟨0,0,.struct [],.agg [],true,some ("demesne/sel.holds",290)⟩ else if t=228 then some ⟨1,24,.slice 9,qC,true,some ("demesne/sel.holds",291)⟩ else oq else if t=230 then uG else if t=233 then some ⟨1,24,.slice 235,qC,true,none⟩ else if t=234 then UA else if t=235 then UA else oq) else (if t<259 then if t=236 then some ⟨6,24,.array 3 235,.agg [.d (.int .i32 0),.d (.int .i32 0),.d (.int .i32 0),.d (.int .i32 0),.d (.int .i32 0),.d (.int .i32 0)],true,none⟩ else if t=237 then some ⟨4,16,.array 2 235,.agg [.d (.int .i32 0),.d (.int .i32 0),.d (.int .i32 0),.d (.int .i32 0)],true,none⟩ else if t=242 then uG else if t=256 then VG else oq else if t=259 then uG else if t=274 then Q2 else if t=275 then some ⟨1,24,.slice 5,qC,true,none⟩ else if t=276 then UB else oq))
def WD (t:Nat):Option TI:=(if t<299 then (if t<288 then if t=277 then UB else if t=279 then Ue else if t=280 then Ue else if t=281 then uG else oq else if t=288 then VE else if t=289 then uG else if t=294 then uG else if t=297 then some ⟨1,4,.int .u32,.d (.int .u32 0),true,none⟩ else oq) else (if t<312 then if t=299 then Q2 else if t=300 then VG else if t=304 then Q2 else if t=309 then Q2 else oq else if t=312 then Q2 else if t=313 then uG else if t=315 then uG else if t=319 then some ⟨256,256,.array 256 5,.agg [qY,qY,qY,qY,qY,qY,qY,qY,qY,qY,qY,qY,qY,qY,qY,qY,qY,qY,qY,qY,qY,qY,qY,qY,qY,qY,qY,qY,qY,qY,qY,qY,qY,qY,qY,qY,qY,qY,qY,qY,qY,qY,qY,qY,qY,qY,qY,qY,qY,qY,qY,qY,qY,qY,qY,qY,qY,qY,qY,qY,qY,qY,qY,qY,qY,qY,qY,qY,qY,qY,qY,qY,qY,qY,qY,qY,qY,qY,qY,qY,qY,qY,qY,qY,qY,qY,qY,qY,qY,qY,qY,qY,qY,qY,qY,qY,qY,qY,qY,qY,qY,qY,qY,qY,qY,qY,qY,qY,qY,qY,qY,qY,qY,qY,qY,qY,qY,qY,qY,qY,qY,qY,qY,qY,qY,qY,qY,qY,qY,qY,qY,qY,qY,qY,qY,qY,qY,qY,qY,qY,qY,qY,qY,qY,qY,qY,qY,qY,qY,qY,qY,qY,qY,qY,qY,qY,qY,qY,qY,qY,qY,qY,qY,qY,qY,qY,qY,qY,qY,qY,qY,qY,qY,qY,qY,qY,qY,qY,qY,qY,qY,qY,qY,qY,qY,qY,qY,qY,qY,qY,qY,qY,qY,qY,qY,qY,qY,qY,qY,qY,qY,qY,qY,qY,qY,qY,qY,qY,qY,qY,qY,qY,qY,qY,qY,qY,qY,qY,qY,qY,qY,qY,qY,qY,qY,qY,qY,qY,qY,qY,qY,qY,qY,qY,qY,qY,qY,qY,qY,qY,qY,qY,qY,qY,qY,qY,qY,qY,qY,qY,qY,qY,qY,qY,qY,qY],true,none⟩ else oq))
def WE (t:Nat):Option TI:=(if t<328 then (if t<323 then if t=320 then UC else if t=321 then UC else if t=322 then some ⟨32,32,.array 16 321,.agg [qY,qY,qY,qY,qY,qY,qY,qY,qY,qY,qY,qY,qY,qY,qY,qY,qY,qY,qY,qY,qY,qY,qY,qY,qY,qY,qY,qY,qY,qY,qY,qY],true,none⟩ else oq else if t=323 then uG else if t=325 then UD else if t=326 then UD else if t=327 then some ⟨0,0,.array 0 16,.agg [],true,none⟩ else oq) else (if t<333 then if t=328 then UE else if t=329 then UE else if t=330 then VF else if t=331 then VF else oq else if t=333 then Wu else if t=334 then Wu else if t=335 then UF else if t=336 then UF else oq))
def tb (t:Nat):Option TI:=(if t<116 then (if t<34 then (if t<17 then Ww t else Wx t) else (if t<61 then Wy t else Wz t)) else (if t<220 then (if t<153 then WA t else WB t) else (if t<277 then WC t else (if t<320 then WD t else WE t))))
def tT (t:Nat):Option TI:=if t<339 then tb t else none
theorem UG:(List.range 339).map (om Go.Proofs.Tryz.prog)=(List.range 339).map tb:=by kernel_rfl
def Mz:Bool:=(List.range 339).all fun t=>match tb t with
 |some ti=>match ti.kd with
  |.struct fs=>fs.all fun f=>(tT f.2).isSome
  |_=>true
 |none=>true
theorem Es:Mz=true:=by kernel_rfl
theorem Q3:jL Go.Proofs.Tryz.prog tT:=by
 refine ⟨?_,?_,?_⟩
 ·intro t ti h
  unfold tT at h
  split at h
  ·rename_i ht'
   have e:=congrArg (fun l=>l[t]?) UG
   simp only [List.getElem?_map,List.getElem?_range ht',Option.map_some,osI] at e
   rw [e,h]
  cases h
 ·intro t ti fs h hk f hf
  unfold tT at h
  split at h
  ·rename_i ht'
   have hall:=List.all_eq_true.1 Es t (by simp [ht'])
   simp only [h,hk] at hall
   have:=List.all_eq_true.1 hall f hf
   exact Option.isSome_iff_exists.1 this
  cases h
 exact Nat.le_of_ble_eq_true (by kernel_rfl)
def gl (g:Nat):Option (List D):=
 bif Nat.beq g 0 then some [.int .i32 97,.int .i32 122,.int .i32 945,.int .i32 969,.int .i32 1072,.int .i32 1103] else
 bif Nat.beq g 1 then some [.int .i32 48,.int .i32 57,.int .i32 45,.int .i32 45] else none
def FC:Nat→List AV→List ay→iy→List ay→Prop:=bA Go.Proofs.Tryz.prog gl
theorem GA:oN Go.Proofs.Tryz.prog tT gl:=OY Q3 (by kernel_rfl)
theorem Et (tS tR:TypeId) (a:Addr) (ba:Option Addr) (la ca lb cb:Nat):∃(m:String) (ch:Sem Nat),
 Extern.SlicesOverlaps.overlaps #[tS,tS] #[tR] #[.slice (some a) la ca,.slice ba lb cb]=(do
 let .slice elem ←underlying tS|stuck m
 let size ←Go.sizeOf elem
 match ba with
 |some b=>
  if la=0∨lb=0∨size=0 then pure (Value.bool false)
  else if a.block !=b.block&&(←frozen a)&&(←frozen b) then unsupported .addressObserved
  else do
   if a.block !=b.block then do
    noView a;noView b
    if ←mayBeOne a b then return Value.bool ((←ch)==1)
   pure (Value.bool (a.block==b.block&&a.off<b.off+lb*size&&b.off<a.off+la*size))
 |none=>pure (Value.bool false)):=by
 apply Exists.intro
 apply Exists.intro
 cases ba with
 |some b=>rfl
 |none=>rfl
theorem uH {P:Program} (w:World) (tS tR e:TypeId) (ht:P.underlying tS=some (.slice e)) {size:Nat} (hz:∀w,(Go.sizeOf e).run P w=.ok size w)
 (a:Addr) (ba:Option Addr) (la ca lb cb:Nat) {tA:TypeId} {kA:Nat} (UH:w.shape? a.block=some (tA,kA)) (WG:kA≠0)
 (hb:lb=0∨∃b c e',ba=some b∧b.spot=none∧a.block≠b.block∧w.heap[b.block]?=some (.cells c e' (0,0))):
 (Extern.SlicesOverlaps.overlaps #[tS,tS] #[tR] #[.slice (some a) la ca,.slice ba lb cb]).run P w=.ok (.bool false) w:=by
 have kf:(underlying tS).run P w=.ok (.slice e) w:=aR ht
 obtain ⟨m,ch,e⟩:=Et tS tR a ba la ca lb cb
 rw [e]
 clear e
 cases ba with
 |none=>simp [kf,hz]
 |some b=>
 by_cases h0:la=0∨lb=0∨size=0
 ·simp [kf,hz,h0]
 rcases hb with hb|⟨b',c,e',Yo,hsp,hne,hh⟩
 ·exact absurd (.inr (.inl hb)) h0
 simp only [osI] at Yo;subst Yo
 have hnb:(a.block !=b.block)=true:=by simpa using hne
 have WH:(a.block==b.block)=false:=by simpa using hne
 have Jr:w.shape? b.block=some (e',c.size):=by simp [World.shape?,hh]
 have hf:∀off sp,w.frozen? {block:=b.block,off:=off,spot:=sp}=false:=by intro off sp;simp [World.frozen?,hh]
 have Zk:w.frozen? b=false:=hf _ _
 cases kA with
 |zero=>exact absurd rfl WG
 |succ kA=>
 cases h1:w.frozen? a<;>cases h2:w.frozen? {block:=a.block,off:=kA+1}<;>
  simp [kf,hz,h0,hnb,WH,frozen,noView,Go.viewAt,mayBeOne,stringish,shape,Sem.run,UH,Jr,Zk,hf,h1,h2]
theorem gQ {P:Program} {G:Nat→Option (List D)} {T:Nat→Option TI} (hT:jL P T) {f:Nat} {fn:Func} {tS tR:TypeId} (hf:P.funcs[f]?=some fn) (hname:(fn.name== "runtime.NumGoroutine")=false)
 (hb:fn.body.isNone=true) (hn:Extern.findNext fn=none) (he:Extern.find fn=some (Extern.SlicesOverlaps.overlaps #[tS,tS] #[tR])) {te:TI} (hel:elemOf T tS=some te)
 {b sz off n c:Nat} {ex:Bool} {es:List (List D)} {x:D} {row:List D} {xs:List (List D)} {bx:List ay} (p7:bx[b]?=some (.row sz es)) (hne:es≠[]):
 bA P G f [.d (.sl ((x::row)::xs)),.vw b sz off n c ex] bx (.ret (.d (.bool false))) bx:=by
 intro β w vs X cx hx
 simp only [ak,aj,aF] at hx
 obtain ⟨u1,VH,rfl,⟨base,cap,rfl,_,h1⟩,u2,LC,rfl,⟨_,MA,OK,cs,e2,f2,rfl,k1,k2,k3,k4⟩,rfl⟩:=hx
 obtain ⟨ti,e,t1,t2,t3⟩:=eC hel
 have kf:=fo hT t1 t2
 obtain ⟨ei,ed,g1,g2,g3,g4,g5,g6⟩:=aE (hT.ti _ _ t3)
 rcases h1 with h1|⟨blk,o,sz2,rfl,hok,hrows⟩
 ·simp at h1
 simp only [ap,aT] at hrows
 obtain ⟨_,⟨⟨u,hcell,_⟩,_⟩,_⟩:=hrows
 have UH:∃tA kA,w.shape? blk=some (tA,kA)∧kA≠0:=by
  simp only [World.cell?] at hcell
  split at hcell
  ·rename_i ca ea fa hh
   refine ⟨ea,ca.size,by simp [World.shape?,hh],?_⟩
   intro h0
   simp at hcell
   obtain ⟨hlt,_⟩:=Array.getElem?_eq_some_iff.1 hcell
   omega
  simp at hcell
 obtain ⟨tA,kA,UH,WG⟩:=UH
 have bY:(ay.row sz es).live=true:=by cases es<;>simp_all [ay.live]
 have hrun:=uH (P:=P) w tS tR e kf (fun w=>bP g1) ⟨blk,o,none⟩ MA (xs.length+1) cap n OK UH WG (by
  rcases k4 with k4|⟨rfl,k5,k6⟩
  ·left;omega
  rcases cx.box _ _ p7 with h0|⟨c3,e3,j1,j2⟩
  ·exact absurd h0 hne
  exact .inr ⟨_,c3,e3,rfl,rfl,fun heq=>hok.2.2 b _ p7 bY heq.symm,j1⟩)
 refine .inr ⟨.bool false,w,?_,β,Ext.refl _ _ _,cx,by simp only [lm,aj,aF]⟩
 rw [run_callFunc_extern hf hname hb hn he]
 have e1:(({toList:=[.slice (some ⟨blk,o,none⟩) ((x::row)::xs).length cap,.slice MA n OK]}:Array Value))=#[.slice (some ⟨blk,o,none⟩) (xs.length+1) cap,.slice MA n OK]:=rfl
 rw [e1,hrun]
 rfl
end Dem
end
section
open Go
namespace Dem
section
variable {P:Program} {G:Nat→Option (List D)} {bx:List ay}
theorem Eu {f:Nat} {args mP:List AV} {v:AV} (ks:List Bool) (hz:eL bx args=some mP) (hn:AV.bN.cX (kill ks bx) mP=true) (hl:dO false (kill ks bx) (kill ks bx)=true)
 (hv:v.flat=true∨eL [] args=some mP∧v.shut=true) (h:bA P G f mP (kill ks bx) (.ret v) (kill ks bx)):bA P G f args bx (.ret v) bx:=by
 intro β w vs X cx hx
 refine iK.mono (vC cx hx ⟨mP,kill ks bx,hz,hn,⟨false,hl,fun h=>by cases h⟩,?_,h,hv⟩) ?_
 ·intro i b hi dG
  obtain ⟨b0,h1,h2⟩:=lC ks bx i b hi
  rcases h2 with rfl|⟨rfl,h3⟩
  ·exact ⟨_,h1,dG,fun _=>rfl⟩
  exact ⟨b0,h1,h3,fun h=>by simp [ay.live] at h⟩
 rintro e w' ⟨u,rfl,h2,h3,h4⟩
 exact ⟨β,h2,h3,h4⟩
theorem MB {t:Th} (ht:t=t0) {kO:Prop} {fz:Option (Prop×List AV)} {f:Nat} {args mP oe:List AV} {bx aI:List ay} {v:AV} {c:Prop} {K Kp:AV→List ay→Prop} (ks:List Bool) (bZ:List Nat) (ho:kO)
 (hz:oW t bx args=some (c,mP)) (hc:c) (hn:AV.bN.cX (kill ks bx) mP=true) (hl:dO false (kill ks bx) (kill ks bx)=true) (hv:v.flat=true)
 (ha:AV.wE (fun b=>dU b bZ 0) mP=some oe) (hb:fZ (fun b=>dU b bZ 0) (kill ks bx) bZ=some aI) (hb':En bZ (kill ks bx) aI=some (kill ks bx)) (hr:iy.iq (kp bZ (kill ks bx).length) (.ret v)=some (.ret v))
 (h:bA P G f oe aI (.ret v) aI) (hK:K v bx):oc (bA P G) kO f args fz bx K Kp:=by
 subst ht
 exact dV ho (Eu ks (fY hz hc) hn hl (.inl hv) (dw bZ ha hb hr hb' h)) hK
end
end Dem
end
section
open Go
namespace Dem
abbrev TT (t:Th):Prop:=∀(α:Type) (f:Unit→α),t α f=f ()
theorem jY {t:Th} (ht:TT t) {α:Type} {e x:α} (h:e=x):(t _ fun _=>e)=x:=by rw [ht];exact h
section
variable {P:Program} {G:Nat→Option (List D)} {FC:Nat→List AV→List ay→iy→List ay→Prop} {kO:Prop} {f:Nat} {args args':List AV} {c:Prop} {bx:List ay} {K Kp:AV→List ay→Prop} {ρ:Type}
theorem aZ {E:ρ→AV} {r0:ρ} (ho:kO) (h:FC f args' [] (.ret (E r0)) []) (hc:c) (hs:AV.shut.lY args'=true) (hf:(E r0).flat=true) (hK:∀r,r=r0→K (E r) bx):oc FC kO f args (some (c,args')) bx K Kp:=
 fO ho h hc hs hf (hK _ rfl)
theorem aB {E:ρ→AV} {r0:ρ} (ho:kO) (h:FC f args' [] (.ret (E r0)) []) (hc:c) (hs:AV.shut.lY args'=true) (hz:eL [] args=some args') (hv:(E r0).shut=true) (hK:∀r,r=r0→K (E r) bx):oc FC kO f args (some (c,args')) bx K Kp:=
 o4 ho h hc hs hz hv (hK _ rfl)
theorem MC {E:ρ→AV} {r0:ρ} {fz:Option (Prop×List AV)} {oB:List ay} (ho:kO) (hfz:fz=some (c,args')) (hc:c) (h:FC f args' (eV bx args) (.ret (E r0)) oB) (hK:∀r,r=r0→K (E r) oB):oc FC kO f args fz bx K Kp:=
 Mx ho hfz hc h (hK _ rfl)
theorem cY {dr g:Bool} {K:AV→Prop} {E:ρ→AV} {r0:ρ} (h:g=true→kO∧c∧FC f args' [] (.ret (E r0)) []) (hs:AV.bN.cX [] args'=true) (hf:(E r0).flat=true) (hK:∀r,r=r0→K (E r)):rE FC dr g kO f args bx (some (c,args')) K:=
 Eo h hs hf (hK _ rfl)
theorem fc {dr g:Bool} {K:AV→Prop} {E:ρ→AV} {r0:ρ} (h:g=true→kO∧c∧FC f args' [] (.ret (E r0)) []) (hs:AV.bN.cX [] args'=true) (hz:eL [] args=some args') (hf:(E r0).shut=true) (hK:∀r,r=r0→K (E r)):rE FC dr g kO f args bx (some (c,args')) K:=
 mB h hs hz hf (hK _ rfl)
end
theorem jZ {t:Th} (ht:TT t) {α:Type} {l:List α} {cells cT:α→List D} {es:List (List D)} (aA:es=l.map cells) {z:Int} {n:Nat} {K:List D→Prop} (h0:0≤z) (h1:z<l.length) (hn:∀x,(cells x).length=n) (hT:∀x,cells x=cT x)
 (hK:∀x,l[z.toNat]?=some x→K (cT x)):mI true (t Prop fun _=>0≤z∧z<es.length∧∀r∈es,r.length=n) (t _ fun _=>es.getD z.toNat []) K:=by
 have hz:z.toNat<l.length:=by omega
 refine cI (cT l[z.toNat]) ?_ ?_ (hK _ (List.getElem?_eq_getElem hz))
 ·simp only [ht];refine ⟨h0,by rw [aA,lgM];exact h1,?_⟩
  rw [aA];intro r hr;obtain ⟨y,_,rfl⟩:=List.mem_map.1 hr;exact hn y
 simp only [ht];rw [aA,←hT];simp [hz]
theorem cL {s:St} {n:Nat} {σ:Type} {J:Nat→σ→Prop} {F:σ→St} (v:σ) (hs:s=F v) (m:Nat) (hm:m<n) (hJ:J m v):LoopIn (some s) (fun s3=>∃m v',(m<n∧J m v')∧s3=F v'):=aC (P:=fun s3=>∃m v',(m<n∧J m v')∧s3=F v') ⟨m,v,⟨hm,hJ⟩,hs⟩
theorem WI {α:Type} {l:List α} {cells:α→List D} {u:List (List D)} (hu:u=l.map cells) {row:List D} {sz b:Nat} (hn:∀x,(cells x).length=sz) (hr:row.length=sz) (hl:l.length<1000000) (hb:b≤10000):
 u.length=u.length∧(u.length+[row].length)*b≤140737488355328∧∀r∈u++[row],r.length=sz:=by
 refine ⟨rfl,?_,?_⟩
 ·rw [hu,lgM]
  exact Nat.le_trans (Nat.mul_le_mul (show l.length+[row].length≤1000000 by simp;omega) hb) (by decide)
 intro r hr'
 rcases List.mem_append.1 hr' with h|h
 ·rw [hu] at h;obtain ⟨y,_,rfl⟩:=List.mem_map.1 h;exact hn y
 simp at h;subst h;exact hr
end Dem
end
section
open Go
namespace Dem
def flat:Code→List Code
 |.seq a b=>flat a++flat b
 |c=>[c]
section
variable {P:Program}
def rJ (P:Program):List Code→(Exit→Act→World→Prop)→Act→World→Prop
 |[],Q=>Q .normal
 |c::r,Q=>c.wp P (Exit.then (rJ P r Q) Q)
theorem AU {K K':Act→World→Prop} {Q Q':Exit→Act→World→Prop} (h:∀a w,K a w→K' a w) (hq:∀e a w,Q e a w→Q' e a w):∀e a w,Exit.then K Q e a w→Exit.then K' Q' e a w:=by
 intro e a w hh;cases e<;>simp only [Exit.then] at hh ⊢<;>first|exact h _ _ hh|exact hq _ _ _ hh
theorem Ev:∀{l:List Code} {Q Q':Exit→Act→World→Prop} {a:Act} {w:World},(∀e a w,Q e a w→Q' e a w)→rJ P l Q a w→rJ P l Q' a w
 |[],_,_,_,_,hq,h=>hq _ _ _ h
 |_::_,_,_,_,_,hq,h=>wp_mono h (AU (fun _ _ hh=>Ev hq hh) hq)
theorem yA:∀{l1 l2:List Code} {Q:Exit→Act→World→Prop} {a:Act} {w:World},rJ P (l1++l2) Q a w→rJ P l1 (Exit.then (rJ P l2 Q) Q) a w
 |[],_,_,_,_,h=>h
 |c::l1,l2,Q,a,w,h=>by
  refine wp_mono (show c.wp P (Exit.then (rJ P (l1++l2) Q) Q) a w from h) ?_
  intro e a w hh
  cases e<;>simp only [Exit.then] at hh ⊢<;>first|exact yA hh|exact hh
theorem Ca:∀(c:Code) {Q:Exit→Act→World→Prop} {a:Act} {w:World},rJ P (flat c) Q a w→c.wp P Q a w
 |.seq x y,Q,a,w,h=>by
  have h:=yA (show rJ P (flat x++flat y) Q a w from h)
  refine wp_seq (wp_mono (Ca x h) ?_)
  exact AU (fun a w hh=>Ca y hh) (fun _ _ _ hh=>hh)
 |.skip,Q,a,w,h=>wp_mono h (by intro e a w hh;cases e<;>simpa only [rJ,Exit.then] using hh)
 |.region ..,Q,a,w,h=>wp_mono h (by intro e a w hh;cases e<;>simpa only [rJ,Exit.then] using hh)
 |.cond ..,Q,a,w,h=>wp_mono h (by intro e a w hh;cases e<;>simpa only [rJ,Exit.then] using hh)
 |.block ..,Q,a,w,h=>wp_mono h (by intro e a w hh;cases e<;>simpa only [rJ,Exit.then] using hh)
 |.loop ..,Q,a,w,h=>wp_mono h (by intro e a w hh;cases e<;>simpa only [rJ,Exit.then] using hh)
 |.rangeFunc ..,Q,a,w,h=>wp_mono h (by intro e a w hh;cases e<;>simpa only [rJ,Exit.then] using hh)
 |.exit ..,Q,a,w,h=>wp_mono h (by intro e a w hh;cases e<;>simpa only [rJ,Exit.then] using hh)
 |.scope ..,Q,a,w,h=>wp_mono h (by intro e a w hh;cases e<;>simpa only [rJ,Exit.then] using hh)
 |.label ..,Q,a,w,h=>wp_mono h (by intro e a w hh;cases e<;>simpa only [rJ,Exit.then] using hh)
 |.goto ..,Q,a,w,h=>wp_mono h (by intro e a w hh;cases e<;>simpa only [rJ,Exit.then] using hh)
 |.ret,Q,a,w,h=>wp_mono h (by intro e a w hh;cases e<;>simpa only [rJ,Exit.then] using hh)
 |.refuse ..,Q,a,w,h=>wp_mono h (by intro e a w hh;cases e<;>simpa only [rJ,Exit.then] using hh)
end
section
variable (t:Th) (FC:Nat→List AV→List ay→iy→List ay→Prop) (T:Nat→Option TI) (G:Nat→Option (List D)) (N K:Nat)
def MD:List Code→(Ex→St→Prop)→St→Prop
 |[],Q,s=>Q .normal s
 |c::r,Q,s=>yy t FC T G N K c (fun e s1=>sw (fun s1=>MD r Q s1) Q e s1) s
end
section
variable {P:Program} {T:Nat→Option TI} {G:Nat→Option (List D)} {N K:Nat} {ds:List Deferred} {X:Nat→Prop} {β0:Nat→Nat} {aI:List ay} {w0:World}
theorem rK (hT:jL P T) (hD:oN P T G) (hK:aI.length≤K):∀(l:List Code) (Q:Ex→St→Prop) (β:Nat→Nat) (w:World) (s:St) (a:Act),Ext β0 aI w0 β s.bx w→Fr G N ds β w X s a→
 MD t0 (bA P G) T G N K l Q s→rJ P l (fX G N ds X β0 aI w0 Q) a w
 |[],Q,β,w,s,a,ex,hF,h=>⟨β,s,ex,hF,h⟩
 |c::l,Q,β,w,s,a,ex,hF,h=>by
  refine wp_mono (gi hT hD hK c _ β w s a ex hF h) ?_
  intro e a' w' hl
  cases e<;>simp only [fX,sw,Exit.then] at hl ⊢
  ·obtain ⟨β',s',h1,h2,h3⟩:=hl
   exact rK hT hD hK l Q β' w' s' a' h1 h2 h3
  all_goals exact hl
theorem vS:∀{l1 l2:List Code} {Q:Exit→Act→World→Prop} {a:Act} {w:World},rJ P l1 (Exit.then (rJ P l2 Q) Q) a w→rJ P (l1++l2) Q a w
 |[],_,_,_,_,h=>h
 |c::l1,l2,Q,a,w,h=>by
  refine wp_mono (show c.wp P (Exit.then (rJ P l1 (Exit.then (rJ P l2 Q) Q)) (Exit.then (rJ P l2 Q) Q)) a w from h) ?_
  intro e a w hh
  cases e<;>simp only [Exit.then] at hh ⊢<;>first|exact vS hh|exact hh
end
end Dem
end
section
namespace Dem
abbrev aQ:=List UInt8
structure bM where
 a:Int
 b:Int
 c:Int
 d:Int
deriving DecidableEq
def bM.zero:bM:=⟨0,0,0,0⟩
def Ew (x y:Int):Int×Bool:=if x.toNat+y.toNat<18446744073709551616 then (((x.toNat+y.toNat:Nat):Int),true) else (0,false)
def Ey (x y:Int):Int×Bool:=if x.toNat<y.toNat then (0,false) else (((((x.toNat-y.toNat)%18446744073709551616:Nat)):Int),true)
def both (f:Int→Int→Int×Bool) (a b:bM):bM×Bool:=
 if (f a.a b.a).2&&(f a.b b.b).2&&(f a.c b.c).2&&(f a.d b.d).2 then (⟨(f a.a b.a).1,(f a.b b.b).1,(f a.c b.c).1,(f a.d b.d).1⟩,true) else (bM.zero,false)
def mV (a b:bM):bM×Bool:=both Ew a b
def dX (a b:bM):bM×Bool:=both Ey a b
def mW (a b:bM):Bool:=(dX b a).2
end Dem
namespace Dem
def idxOf {α:Type} (p:α→Bool) (l:List α):Int:=match l.findIdx? p with|some k=>(k:Int)|none=>-1
theorem de {α:Type} {p:α→Bool}:∀{l:List α} {k:Nat} {x:α},l[k]?=some x→p x=true→(∀i<k,∀y,l[i]?=some y→p y=false)→l.findIdx? p=some k
 |[],_,_,h,_,_=>by simp at h
 |y::r,0,x,h,hp,_=>by simp at h;subst h;simp [List.findIdx?_cons,hp]
 |y::r,k+1,x,h,hp,hb=>by
  have hy:p y=false:=hb 0 (by omega) y (by simp)
  simp only [List.getElem?_cons_succ] at h
  rw [List.findIdx?_cons,hy]
  simp [de h hp fun i hi z hz=>hb (i+1) (by omega) z (by simpa using hz)]
theorem dA {α:Type} {p:α→Bool} {l:List α} (hb:∀(i:Nat) (y:α),l[i]?=some y→p y=false):l.findIdx? p=none:=by
 rw [List.findIdx?_eq_none_iff]
 intro x hx
 obtain ⟨i,hi⟩:=List.getElem?_of_mem hx
 exact hb i x hi
theorem iu {α:Type} (p:α→Bool) (l:List α):l.any p=decide (0≤idxOf p l):=by
 unfold idxOf
 cases h:l.findIdx? p with
 |none=>
  rw [List.findIdx?_eq_none_iff] at h
  simp
  intro x hx;simp [h x hx]
 |some k=>
  have:=List.findIdx?_eq_some_iff_getElem.1 h
  obtain ⟨hk,hp,_⟩:=this
  simp
  exact ⟨l[k],List.getElem_mem hk,hp⟩
end Dem
end
section
open Go Dem Go.Proofs
namespace Dem
theorem TT.eq {t:Th} (h:TT t):t=t0:=by funext α f;exact h α f
theorem bL {t:Th} (ht:TT t) {f N:Nat} {fn:Func} {c:Code} {args:List AV} {aI aP:List ay} {res:iy} (hf:Tryz.prog.funcs[f]?=some fn) (hb:fn.body=some c)
 (hname:(fn.name== "runtime.NumGoroutine")=false) (hN:fn.ntmps=N) {rs:List ResultVar} (OC:fn.results.toList=rs) {n:Nat} (hn:aI.length=n) (hlen:Nat.ble args.length N=true)
 (h:yy t FC tT gl N n c (vQ t tT rs n res aP) ⟨oD 0 args,aI⟩):FC f args aI res aP:=by
 subst OC;subst hn
 have e:=ht.eq
 subst e
 exact wF Q3 GA hf hb hname hN hlen h
theorem VI {f:Nat} {fn:Func} {e:Array Value→Sem Value} {args:List AV} {v:AV} (hf:Tryz.prog.funcs[f]?=some fn) (hname:(fn.name== "runtime.NumGoroutine")=false)
 (hb:fn.body.isNone=true) (hn:Extern.findNext fn=none) (he:Extern.find fn=some e)
 (h:∀(β:Nat→Nat) (w:World) (vs:List Value) (ok:Nat→Prop),ak β [] w ok args vs→∃u,(e ⟨vs⟩).run Tryz.prog w=.ok u w∧aj β [] w ok v u):FC f args [] (.ret v) []:=by
 intro β w vs X cx hx
 obtain ⟨u,h1,h2⟩:=h β w vs _ hx
 refine .inr ⟨u,w,?_,β,Ext.refl _ _ _,cx,h2⟩
 rw [run_callFunc_extern hf hname hb hn he,h1]
 rfl
abbrev bG (x:Int):AV:=.d (.int .i64 x)
abbrev az (x:Int):AV:=.d (.int .u64 x)
abbrev BL (b:Bool):AV:=.d (.bool b)
abbrev ST (s:List UInt8):AV:=.d (.str s)
abbrev SL (es:List (List D)):AV:=.d (.sl es)
abbrev V4 (a b c d:Int):AV:=.agg [.d (.int .u64 a),.d (.int .u64 b),.d (.int .u64 c),.d (.int .u64 d)]
theorem aD {k:Nat} (h1:k<9223372036854775807):IntKind.i64.wrap ((k:Int)+1)=((k+1:Nat):Int):=by rw [wrap64 (by omega) (by omega)];omega
theorem aa (n:Nat):@NatCast.natCast Int instNatCastInt n=(n:Int):=rfl
end Dem
end
section
open Go Go.Proofs Go.ChangeShapes Go.WideShapes Go.RowKit
namespace Dem
theorem own:ownKnob Tryz.prog.godebug=none:=by kernel_rfl
theorem laidOut:laidOutB Tryz.prog=true:=by kernel_rfl
theorem ME:Tryz.prog.globalNamed "demesne/word.letters"=some 0:=by kernel_rfl
theorem RQ:Tryz.prog.globalNamed "demesne/word.marks"=some 1:=by kernel_rfl
def AW:TypeId:=236
def Iz:TypeId:=237
theorem MF:(Tryz.prog.globals[0]?).map (·.type)=some AW:=by kernel_rfl
theorem RR:(Tryz.prog.globals[1]?).map (·.type)=some Iz:=by kernel_rfl
def WJ:DataW Unit→Value
 |.lit (.int k n)=>.int k n
 |_=>.int .u8 0
def WK:DataW Unit→List Value
 |.agg l=>l.map WJ
 |_=>[]
noncomputable def Q4 (os:Os):World:=
 let w0:=World.doorLaid Tryz.prog 400 os
 {w0 with heap:=w0.heap.modify 3 fun
  |.cells _ t fr=>.cells (WK YtihohjnkkalgiaaGreatDoor.Rows.laid_unicode_utf8_first).toArray t fr
  |o=>o}
abbrev tC:List (String×DataW Unit):=[("unicode/utf8.acceptRanges",YtihohjnkkalgiaaGreatDoor.Rows.laid_unicode_utf8_acceptRanges),("demesne/word.letters",YtihohjnkkalgiaaGreatDoor.Rows.laid_demesne_word_letters),("demesne/word.marks",YtihohjnkkalgiaaGreatDoor.Rows.laid_demesne_word_marks),("unicode/utf8.first",YtihohjnkkalgiaaGreatDoor.Rows.laid_unicode_utf8_first)]
theorem MG (os:Os) (args:Array Value):laidMetH Tryz.prog tC ((Q4 os).forCall (fun _ _=>0) ⟨#[],args,[]⟩).memory:=
 laidMetH_of_parts3 (fuel:=8) (laidMet_of_run' 8 (by kernel_rfl) (by kernel_rfl)) (by kernel_rfl) (by kernel_rfl)
theorem Zl:DM Tryz.prog 8 AW=some [.int .i32,.int .i32,.int .i32,.int .i32,.int .i32,.int .i32]:=by kernel_rfl
theorem Zm:DM Tryz.prog 8 Iz=some [.int .i32,.int .i32,.int .i32,.int .i32]:=by kernel_rfl
theorem Cb {w:World} {ok:Nat→Prop} {blk:Nat}:∀{ds:List D} {vs:List Value} (off:Nat),ct w ok ds vs→(∀i v,vs[i]?=some v→w.cell? ⟨blk,off+i,none⟩=some v)→aT w ok blk ds off
 |[],_,_,_,_=>by simp [aT]
 |d::ds,vs,off,h,hc=>by
  simp only [ct] at h
  obtain ⟨v,r,rfl,h1,h2⟩:=h
  simp only [aT]
  refine ⟨⟨v,hc 0 v rfl,h1⟩,Cb (off+1) h2 fun i u hu=>?_⟩
  rw [show off+1+i=off+(i+1) by omega]
  exact hc (i+1) u (by simpa using hu)
theorem Ez {W:World} (h:laidMetH Tryz.prog tC W):cz gl (fun _=>0) [] W (fun _=>False):=by
 rw [MakeChecks.laidMetH_plain _ _ _ (by kernel_rfl)] at h
 obtain ⟨ps,⟨_,_,_,_,_,_,_,_,_,_,⟨g0,t0,cs0,f0,p0,q0,Rz,Zn,RS,VD,⟨g1,t1,cs1,f1,p1,q1,Yp,Zo,WL,TO,_,_⟩,_⟩,_⟩,_,_⟩:=h
 obtain rfl:=Option.some.inj (ME.symm.trans Rz)
 obtain rfl:=Option.some.inj (RQ.symm.trans Yp)
 obtain rfl:=Option.some.inj (MF.symm.trans Zn)
 obtain rfl:=Option.some.inj (RR.symm.trans Zo)
 have hok:∀blk,blk<W.heap.size→bc (fun _=>0) [] W (fun _=>False) blk:=fun blk hb=>⟨hb,fun h=>h,fun i b hb=>by simp at hb⟩
 obtain ⟨r0,_⟩:=sS hok 8 _ _ _ _ _ VD Zl
 obtain ⟨r1,_⟩:=sS hok 8 _ _ _ _ _ TO Zm
 have c0:=fun i=>World.var?_cell Rz RS i
 have c1:=fun i=>World.var?_cell Yp WL i
 refine ⟨fun _ h=>h.elim,?_,by simp,by simp,by simp⟩
 intro g ds hg
 unfold gl at hg
 have hlt:∀{i:Nat} {a:Addr} {v:Value},W.cell? a=some v→a.block<W.heap.size:=by
  intro i a v hc
  rcases Nat.lt_or_ge a.block W.heap.size with h|h
  ·exact h
  simp [World.cell?,h] at hc
 cases e0:Nat.beq g 0 with
 |true=>
  rw [e0] at hg
  simp only [cond_true,osI] at hg
  obtain rfl:=Nat.eq_of_beq_eq_true e0
  have hrow:aT W (bc (fun _=>0) [] W (fun _=>False)) 0 ds 0:=by
   rw [←hg];exact Cb 0 r0 fun i v hv=>by rw [Nat.zero_add,c0 i];simpa using hv
  refine ⟨hok _ ?_,hrow⟩
  rw [←hg] at hrow
  simp only [aT] at hrow
  obtain ⟨⟨u,hu,_⟩,_⟩:=hrow
  exact hlt (i:=0) hu
 |false=>
  rw [e0] at hg
  simp only [cond_false] at hg
  cases e1:Nat.beq g 1 with
  |true=>
   rw [e1] at hg
   simp only [cond_true,osI] at hg
   obtain rfl:=Nat.eq_of_beq_eq_true e1
   have hrow:aT W (bc (fun _=>0) [] W (fun _=>False)) 1 ds 0:=by
    rw [←hg];exact Cb 0 r1 fun i v hv=>by rw [Nat.zero_add,c1 i];simpa using hv
   refine ⟨hok _ ?_,hrow⟩
   rw [←hg] at hrow
   simp only [aT] at hrow
   obtain ⟨⟨u,hu,_⟩,_⟩:=hrow
   exact hlt (i:=0) hu
  |false=>rw [e1] at hg;cases hg
theorem GB {f:Nat} {args:List AV} {vs:List Value} {W:World} (hL:laidMetH Tryz.prog tC W) (he:∀args w,(callFunc f args).run Tryz.prog w=.ok (.enter f args) w)
 (hx:ak (fun _=>0) [] W (bc (fun _=>0) [] W (fun _=>False)) args vs) (h:FC f args [] (.ret (.d (.bool true))) []):
 Calls Tryz.prog f ⟨vs⟩ W fun e w'=>e=.returned (.bool true)∧RowKit.Below W.heap.size W w':=by
 have hc:=h (fun _=>0) W vs (fun _=>False) (Ez hL) hx
 rcases hc with ⟨_,hc⟩|⟨v,w',hc,_⟩
 ·refine hc.mono ?_
  rintro e w' ⟨β',ex,_,hr⟩
  cases e with
  |returned u=>
   simp only [lm,aj,aF] at hr
   subst hr
   exact ⟨rfl,⟨ex.os,ex.tape,ex.output,ex.size,fun k hk=>ex.block k hk (by simp)⟩⟩
  |_=>exact hr.elim
 rw [he] at hc;cases hc
theorem Ae {H:Type} {enc:TypeId×Value→H} {P:Program} (hl:laidOutB P=true) {W W':World} (hb:RowKit.Below W.heap.size W W'):∀(ts:List TypeId) (vs:List Value) (ds:List (DataW H)) (ps:List MemPlace),(ts.all fun t=>P.readableRec t&&decide (t<P.types.size))=true→
 (∀x∈ps,x.block<W.heap.size)→DataW.TrodAll enc P W 0 (fun _=>true) true ts vs ds ps→DataW.TrodAll enc P W' 0 (fun b=>decide (b<W.heap.size)) true ts vs ds ps:=by
 intro ts
 induction ts with
 |nil=>
  intro vs ds ps _ _ h
  cases vs with
  |nil=>cases ds with
   |nil=>exact h
   |cons d ds=>exact h.elim
  |cons v vs=>cases ds<;>exact h.elim
 |cons t ts ih=>
  intro vs ds ps ht hlt h
  cases vs with
  |nil=>cases ds<;>exact h.elim
  |cons v vs=>cases ds with
   |nil=>exact h.elim
   |cons d ds=>
    obtain ⟨p,q,h1,h2,rfl⟩:=h
    simp only [List.all_cons,Bool.and_eq_true,decide_eq_true_eq] at ht
    exact ⟨p,q,RowKit.Below.trod hl ht.1.1 ht.1.2 h1 hb (fun x hx=>hlt x (List.mem_append_left _ hx)),ih vs ds q ht.2 (fun x hx=>hlt x (List.mem_append_right _ hx)) h2,rfl⟩
theorem EA {H:Type} {enc:TypeId×Value→H} {P:Program} {W:World}:∀(ts:List TypeId) (vs:List Value) (ds:List (DataW H)) (ps:List MemPlace),DataW.TrodAll enc P W 0 (fun _=>true) true ts vs ds ps→ds.length=ts.length:=by
 intro ts
 induction ts with
 |nil=>
  intro vs ds ps h
  cases vs with
  |nil=>cases ds with
   |nil=>rfl
   |cons d ds=>exact h.elim
  |cons v vs=>cases ds<;>exact h.elim
 |cons t ts ih=>
  intro vs ds ps h
  cases vs with
  |nil=>cases ds<;>exact h.elim
  |cons v vs=>cases ds with
   |nil=>exact h.elim
   |cons d ds=>obtain ⟨_,_,_,h2,_⟩:=h;simp [ih _ _ _ h2]
theorem Af {W W':World} (hb:RowKit.Below W.heap.size W W') (may:MemPlace→Prop):W.keptBut W' may:=by
 refine ⟨hb.os,hb.output,fun i hi=>?_⟩
 rw [hb.block i hi]
 generalize W.heap[i]?=o
 cases o with
 |none=>rfl
 |some o=>cases o<;>first|exact ⟨rfl,rfl,rfl,fun _ _=>rfl⟩|exact .inr ⟨rfl,rfl⟩|rfl
theorem UI:Tryz.prog.underlying 4=some .bool:=by kernel_rfl
theorem JG {H:Type} {enc:TypeId×Value→H} {os:Os} (started:os.Started) {F:FuncId} {fn:Func} {s:ChangeSpec} (hfn:Tryz.checked.prog.funcs[F]?=some fn) (hni:Tryz.checked.prog.inits.idxOf? F=none) (hv:s.vars=[]) (Zp:fn.resultTypes=#[4])
 (hts:(fn.params.toList.all fun t=>Tryz.prog.readableRec t&&decide (t<Tryz.prog.types.size))=true)
 (hs:∀ds:List (DataW H),ds.length=fn.params.toList.length→(s.fn H ds).results=[.lit (.bool true)]∧(s.fn H ds).args=ds∧(s.fn H ds).vars=[])
 (witness:∃(w:World) (tape:Tape) (i:Input),w.os=os∧(w.forCall tape i).Shaped Tryz.checked.prog∧i.vars=[]∧Input.okWide Tryz.checked.prog (w.forCall tape i) .any w.heap.size F i∧
  ((s.pre enc Tryz.checked.prog fn [] false (w.forCall tape i).memory i.args∧laidMetH Tryz.prog tC (w.forCall tape i).memory)∧sizedMet enc Tryz.checked.prog fn (OpenSpec.ofChange s) false (w.forCall tape i).memory i.args)∧({}:Assume).holds Tryz.checked.prog (lone (Frame.enter Tryz.checked.prog F i.args .normal) [] (w.forCall tape i)))
 (RT:∀(W:World) (args:Array Value) (ds:List (DataW H)) (p:List MemPlace),laidMetH Tryz.prog tC W→DataW.TrodAll enc Tryz.prog W 0 (fun _=>true) true fn.params.toList args.toList ds p→
  (∀(j:Nat) t v,fn.params[j]?=some t→args[j]?=some v→∃base,Value.okWide Tryz.prog W .any base t v)→
  Calls Tryz.prog F args W fun e w'=>e=.returned (.bool true)∧RowKit.Below W.heap.size W w'):
 ReturnsInHanded {} Tryz.checked os F .any (fun w args=>(s.pre enc Tryz.checked.prog fn [] false w args∧laidMetH Tryz.prog tC w)∧sizedMet enc Tryz.checked.prog fn (OpenSpec.ofChange s) false w args) (s.post enc Tryz.checked.prog fn false true false false):=by
 refine returnsInHanded_of_change_and (C:=Tryz.checked) (X:=fun w _=>laidMetH Tryz.prog tC w) (fun _ _ _ hh h=>h.of_heap hh) own started hni hfn witness ?_
 intro W base args ds gs before hval hW _ _ hL _
 have Yq:=hW
 obtain ⟨p,q,hA,hV,rfl,hfz,hnd⟩:=hW
 rw [hv] at hV
 obtain ⟨rfl,rfl⟩:=trodVars_none hV
 have hlen:ds.length=fn.params.toList.length:=EA _ _ _ _ hA
 obtain ⟨s1,s2,s3⟩:=hs ds hlen
 refine (RT W args ds p hL hA (fun j t v h1 h2=>⟨base,hval j t v h1 h2⟩)).mono fun e w' ⟨he,hb⟩=>?_
 refine ⟨.bool true,he,ds,[],p++[],[],p,[],Yq,?_,?_,?_,Af hb _,fun h=>by cases h⟩
 ·rw [List.append_nil,s1,Zp]
  exact trodAll_mk1 (shut_bool UI _)
 ·rw [List.append_nil,s2]
  exact Ae laidOut hb _ _ _ _ hts (fun x hx=>Yq.lt x (by simpa using hx)) hA
 rw [List.append_nil,s3,hv]
 rfl
end Dem
end
section
open Go
namespace Dem
def dec (s:aQ) (pos:Nat):Nat×Nat:=Utf8.decode ⟨s.toArray⟩ pos
theorem IA (s:aQ) (pos:Nat) (h:pos<s.length):1≤(dec s pos).2:=Lib.decode_width_pos _ pos (by show pos<s.toArray.size;simpa using h)
def ia (s:aQ):Nat→Nat→List (Nat×Nat)
 |0,_=>[]
 |n+1,pos=>if pos<s.length then (pos,(dec s pos).1)::ia s n (pos+(dec s pos).2) else []
def AX (s:aQ):List (Nat×Nat):=ia s s.length 0
def Cc:List (Int×Int):=[(97,122),(945,969),(1072,1103)]
def marks:List (Int×Int):=[(48,57),(45,45)]
def EB (r:Int) (l:List (Int×Int)):Bool:=l.any fun x=>decide (x.1≤r)&&decide (r≤x.2)
def o5 (s:aQ):Nat:=(AX s).length
def RU (x:Nat×Nat):Bool:=EB x.2 Cc||(!decide (x.1=0)&&EB x.2 marks)
def ic (s:aQ):Bool:=(AX s).all RU&&!decide (s=[])&&decide (o5 s≤16)
theorem yB (s:aQ):∀(n pos:Nat),(ia s n pos).length≤n
 |0,_=>by simp [ia]
 |n+1,pos=>by
  unfold ia;split
  ·simp;exact yB s n _
  simp
structure cZ where
 key:aQ
 value:aQ
deriving DecidableEq
abbrev cZ.cells (p:cZ):List D:=[.str p.key,.str p.value]
def sle (x y:aQ):Bool:=Op.bytesLess x y||decide (x=y)
def iN:Option aQ→List cZ→Bool
 |_,[]=>true
 |q,p::r=>ic p.key&&ic p.value&&(match q with|none=>true|some q=>!sle p.key q)&&iN (some p.key) r
def uI (l:List cZ):Bool:=iN none l&&decide (l.length≤8)
def kJ (l:List cZ) (k:Nat):Option aQ:=match k with
 |0=>none
 |k+1=>(l[k]?).map (·.key)
def cZ.sm (p:cZ):Prop:=p.key.length<9223372036854775807∧p.value.length<9223372036854775807
structure Node where
 name:aQ
 cap:bM
 labels:List cZ
 up:Bool
structure Place where
 bS:Int
 node:aQ
 v:bM
abbrev Node.cells (x:Node):List D:=[.str x.name,.int .u64 x.cap.a,.int .u64 x.cap.b,.int .u64 x.cap.c,.int .u64 x.cap.d,.sl (x.labels.map cZ.cells),.bool x.up]
abbrev Place.cells (x:Place):List D:=[.int .u64 x.bS,.str x.node,.int .u64 x.v.a,.int .u64 x.v.b,.int .u64 x.v.c,.int .u64 x.v.d]
theorem mX {α:Type} {p:α→Bool} {l:List α} (h:idxOf p l=-1):∀x∈l,p x=false:=by
 unfold idxOf at h
 split at h
 ·omega
 rename_i hn
 rw [List.findIdx?_eq_none_iff] at hn
 exact fun x hx=>by simpa using hn x hx
theorem mY {α:Type} {p:α→Bool} {l:List α} (h:idxOf p l≠-1):∃(i:Nat) (x:α),idxOf p l=i∧l[i]?=some x∧p x=true∧∀y∈l.take i,p y=false:=by
 unfold idxOf at h ⊢
 split at h
 ·rename_i k hk
  obtain ⟨hlt,hp,hb⟩:=List.findIdx?_eq_some_iff_getElem.1 hk
  refine ⟨k,l[k],rfl,by simp [hlt],hp,?_⟩
  intro y hy
  obtain ⟨j,hj⟩:=List.getElem?_of_mem hy
  rw [List.getElem?_take] at hj
  split at hj
  ·rename_i Rp
   have hjl:j<l.length:=by omega
   rw [List.getElem?_eq_getElem hjl] at hj
   cases hj
   simpa using hb j Rp
  cases hj
 exact absurd rfl h
theorem filter_all {α:Type} {p:α→Bool} {l:List α} (h:∀x∈l,p x=false):l.filter (fun x=>!p x)=l:=by
 rw [List.filter_eq_self]
 intro x hx;rw [h x hx];rfl
theorem ek {α:Type} {l:List α} {i:Nat} {x:α} (h:l[i]?=some x):l.take (i+1)=l.take i++[x]:=by
 rw [List.take_add_one,h];rfl
def Node.zero:Node:=⟨[],bM.zero,[],false⟩
def dW (name:aQ) (l:List Node):Node×Bool:=match l.find? (fun x=>decide (x.name=name)) with
 |some x=>(x,true)
 |none=>(Node.zero,false)
theorem JH {name:aQ} {l:List Node} (h:idxOf (fun x=>decide (x.name=name)) l=-1):dW name l=(Node.zero,false):=by
 have hn:=mX h
 have:l.find? (fun x=>decide (x.name=name))=none:=by rw [List.find?_eq_none];intro x hx;rw [hn x hx];simp
 unfold dW;rw [this]
theorem Cd {α:Type} {p:α→Bool}:∀{l:List α} {i:Nat} {x:α},l[i]?=some x→p x=true→(∀y∈l.take i,p y=false)→l.find? p=some x
 |[],_,_,h,_,_=>by simp at h
 |y::r,0,x,h,hp,_=>by simp at h;subst h;simp [hp]
 |y::r,i+1,x,h,hp,hb=>by
  have hy:p y=false:=hb y (by simp)
  simp only [List.getElem?_cons_succ] at h
  rw [List.find?_cons,hy]
  exact Cd h hp fun z hz=>hb z (by simp [hz])
theorem JI {name:aQ} {l:List Node} (h:idxOf (fun x=>decide (x.name=name)) l≠-1):∃(i:Nat) (x:Node),idxOf (fun x=>decide (x.name=name)) l=i∧l[i]?=some x∧dW name l=(x,true):=by
 obtain ⟨i,x,h1,h2,h3,h4⟩:=mY h
 refine ⟨i,x,h1,h2,?_⟩
 unfold dW;rw [Cd h2 h3 h4]
def dB (name:aQ) (s:bM×Bool) (x:Place):bM×Bool:=if s.2&&decide (x.node=name) then dX s.1 x.v else s
def eD (name:aQ) (l:List Node) (ps:List Place):bM×Bool:=
 let s:=ps.foldl (dB name) ((dW name l).1.cap,(dW name l).2)
 if s.2 then s else (bM.zero,false)
def og (name:aQ) (v:bM) (l:List Node) (ps:List Place):Int:=
 if !(dW name l).2 then 7 else if !(dW name l).1.up then 12 else if !(eD name l ps).2||!mW v (eD name l ps).1 then 11 else 0
structure bf where
 nodes:List Node
 places:List Place
deriving instance DecidableEq for Place
deriving instance DecidableEq for Node
instance:Inhabited bM:=⟨bM.zero⟩
instance:Inhabited Node:=⟨Node.zero⟩
instance:Inhabited Place:=⟨⟨0,[],bM.zero⟩⟩
instance:Inhabited cZ:=⟨⟨[],[]⟩⟩
theorem gu {α:Type} {l:List α} {k:Nat} {x:α} (h:l[k]?=some x):l.drop k=x::l.drop (k+1):=by
 obtain ⟨hk,rfl⟩:=List.getElem?_eq_some_iff.1 h
 exact List.drop_eq_getElem_cons hk
structure bO where
 node:aQ
 free:bM
 labels:List cZ
def fD (l:List Node) (bS:Int) (v:bM):List aQ→List Place→Option Int×List Place
 |[],ps=>(none,ps)
 |n::r,ps=>if og n v l ps≠0 then (some (og n v l ps),ps) else fD l bS v r (ps++[⟨bS,n,v⟩])
def uJ (p:bf) (bS:Int) (names:List aQ) (v:bM):bf×Int:=
 match (fD p.nodes bS v names p.places).1 with
 |some e=>(p,e)
 |none=>(⟨p.nodes,(fD p.nodes bS v names p.places).2⟩,0)
theorem cE {α:Type} {p:α→Bool} {l:List α} {r:Int} (h:r=idxOf p l):(r=-1∧l.findIdx? p=none∧l.find? p=none)∨∃(i:Nat) (x:α),r=i∧i<l.length∧l[i]?=some x∧p x=true∧l.findIdx? p=some i∧l.find? p=some x:=by
 by_cases hn:idxOf p l=-1
 ·have hno:=mX hn
  refine .inl ⟨by rw [h,hn],?_,?_⟩
  ·rw [List.findIdx?_eq_none_iff];intro x hx;simp [hno x hx]
  rw [List.find?_eq_none];intro x hx;simp [hno x hx]
 obtain ⟨i,x,h1,h2,h3,h4⟩:=mY hn
 refine .inr ⟨i,x,by rw [h,h1],(List.getElem?_eq_some_iff.1 h2).1,h2,h3,?_,Cd h2 h3 h4⟩
 unfold idxOf at h1
 split at h1
 ·rename_i k hk;rw [hk];congr 1;omega
 omega
def eT (p:bf) (name:aQ) (up:Bool):bf×Int:=
 match p.nodes.findIdx? (fun x=>decide (x.name=name)),p.nodes.find? (fun x=>decide (x.name=name)) with
 |some i,some x=>if x.up=up then (p,15) else (⟨p.nodes.set i {x with up:=up},p.places⟩,0)
 |_,_=>(p,7)
def mZ (l:List Node) (ps:List Place) (n:Node):Option bO:=if (eD n.name l ps).2&&n.up then some ⟨n.name,(eD n.name l ps).1,n.labels⟩ else none
def RV (q:Option aQ) (x:aQ):Bool:=match q with|none=>true|some q=>!sle x q
def Node.sm (x:Node):Prop:=x.name.length<9223372036854775807∧x.labels.length<1000000000∧∀p∈x.labels,p.sm
def pat (l:List Node) (nm:aQ):Nat:=match l.findIdx? (fun o=>!Op.bytesLess o.name nm) with
 |some k=>k
 |none=>l.length
def o6 (p:bf) (n:Node):bf×Int:=
 if !ic n.name then (p,6) else if !uI n.labels then (p,2) else if decide (0≤idxOf (fun x=>decide (x.name=n.name)) p.nodes) then (p,8) else if 16≤p.nodes.length then (p,9) else
 (⟨p.nodes.take (pat p.nodes n.name)++{n with up:=true}::p.nodes.drop (pat p.nodes n.name),p.places⟩,0)
end Dem
end
section
open Go Dem Go.Proofs
namespace Dem
abbrev bg (s:aQ):List D:=[.str s]
def fQ (r:Int):AV:=bG r
def EC (r:Int):AV:=az r
def cP (r:Bool):AV:=BL r
def Pk (r:aQ):AV:=ST r
def UJ (r:bM×Bool):AV:=.dL [V4 r.1.a r.1.b r.1.c r.1.d,BL r.2]
def Node.bC (t:Th) (x:Node):List D:=[.str x.name,.int .u64 x.cap.a,.int .u64 x.cap.b,.int .u64 x.cap.c,.int .u64 x.cap.d,.sl (t _ fun _=>x.labels.map cZ.cells),.bool x.up]
def Place.bC (_:Th) (x:Place):List D:=[.int .u64 x.bS,.str x.node,.int .u64 x.v.a,.int .u64 x.v.b,.int .u64 x.v.c,.int .u64 x.v.d]
def Q5 (t:Th) (x:Node):AV:=.agg [ST x.name,az x.cap.a,az x.cap.b,az x.cap.c,az x.cap.d,SL (t _ fun _=>x.labels.map cZ.cells),BL x.up]
def MH (t:Th) (r:Node×Bool):AV:=.dL [Q5 t r.1,BL r.2]
def o7 (t:Th) (p:bf):AV:=.agg [SL (t _ fun _=>p.nodes.map Node.cells),SL (t _ fun _=>p.places.map Place.cells)]
def mC (t:Th) (r:bf×Int):AV:=.dL [o7 t r.1,bG r.2]
def ED (t:Th) (l:List aQ):AV:=SL (t _ fun _=>l.map bg)
def dN (_:Th) (s:aQ):List D:=[.str s]
theorem yC {t:Th} (ht:TT t) {α:Type} {l:List α} {cells cT:α→List D} {es:List (List D)} (aA:es=l.map cells) {z:Int} {i n:Nat} {x:α} {K:List D→Prop} (hx:l[i]?=some x) (hz:z=i) (hn:∀x,(cells x).length=n) (hT:∀x,cells x=cT x)
 (hK:K (cT x)):mI true (t Prop fun _=>0≤z∧z<es.length∧∀r∈es,r.length=n) (t _ fun _=>es.getD z.toNat []) K:=by
 have hi:=(List.getElem?_eq_some_iff.1 hx).1
 refine jZ ht aA (by omega) (by omega) hn hT ?_
 intro y hy
 rw [hz,Int.toNat_natCast,hx] at hy
 cases hy;exact hK
theorem Q6 {α:Type} {l:List α} {cells:α→List D} {u:List (List D)} (hu:u=l.map cells) {row:List D} {sz b:Nat} (hn:∀x,(cells x).length=sz) (hr:row.length=sz) (hl:l.length<1000000000) (hb:b≤10000):
 (u.length+[row].length)*b≤140737488355328∧∀r∈u++[row],r.length=sz:=by
 refine ⟨?_,?_⟩
 ·rw [hu,lgM]
  exact Nat.le_trans (Nat.mul_le_mul (show l.length+[row].length≤1000000000 by simp;omega) hb) (by decide)
 intro r hr'
 rcases List.mem_append.1 hr' with h|h
 ·rw [hu] at h;obtain ⟨y,_,rfl⟩:=List.mem_map.1 h;exact hn y
 simp at h;subst h;exact hr
def bO.cells (x:bO):List D:=[.str x.node,.int .u64 x.free.a,.int .u64 x.free.b,.int .u64 x.free.c,.int .u64 x.free.d,.sl (x.labels.map cZ.cells)]
def bO.bC (t:Th) (x:bO):List D:=[.str x.node,.int .u64 x.free.a,.int .u64 x.free.b,.int .u64 x.free.c,.int .u64 x.free.d,.sl (t _ fun _=>x.labels.map cZ.cells)]
def MI (t:Th) (l:List bO):AV:=SL (t _ fun _=>l.map bO.cells)
theorem Ce {k:Nat} (h:0<k) (h2:k<9223372036854775807):IntKind.i64.wrap ((k:Int)-1)=((k-1:Nat):Int):=by rw [wrap64 (by omega) (by omega)];omega
theorem UK {t:Th} (ht:TT t) {α:Type} [Inhabited α] {l:List α} {cells cT:α→List D} {es:List (List D)} (aA:es=l.map cells) {g:Bool} {G:Prop} {z:Int} (i:Nat) {n:Nat} {K:List D→Prop} (hg:g=true→G) (hi:g=true→z=i∧i<l.length) (hn:∀x,(cells x).length=n) (hT:∀x,cells x=cT x)
 (hK:∀x,(g=true→l[i]?=some x)→K (cT x)):mI g (G∧t Prop fun _=>0≤z∧z<es.length∧∀r∈es,r.length=n) (t _ fun _=>es.getD z.toNat []) K:=by
 cases Tn:g with
 |true=>
  subst Tn
  obtain ⟨h1,h2⟩:=hi rfl
  refine Pj (cT l[i]) (fun _=>⟨⟨hg rfl,?_⟩,?_⟩) (hK _ (fun _=>List.getElem?_eq_getElem h2))
  ·simp only [ht];refine ⟨by omega,by rw [aA,lgM];omega,?_⟩
   rw [aA];intro r hr;obtain ⟨y,_,rfl⟩:=List.mem_map.1 hr;exact hn y
  simp only [ht];rw [h1,aA,←hT];simp [h2]
 |false=>
  subst Tn
  exact Pj (cT default) (fun h=>Bool.noConfusion h) (hK default (fun h=>Bool.noConfusion h))
theorem nO {P:Program} {G:Nat→Option (List D)} {f:Nat} {args args':List AV} {bx aP:List ay} {res:iy} (h:∀β w ok vs,ak β bx w ok args vs→ak β bx w ok args' vs) (hc:bA P G f args' bx res aP):bA P G f args bx res aP:=
 fun β w vs X cx hx=>hc β w vs X cx (h _ _ _ _ hx)
theorem IB {β:Nat→Nat} {bx:List ay} {w:World} {ok:Nat→Prop} {es:List (List D)} {u:Value} (h:aj β bx w ok (.cl es) u):aj β bx w ok (.d (.sl es)) u:=by
 simp only [aj,aF] at h ⊢
 obtain ⟨base,h1,h2⟩:=h
 exact ⟨base,_,h1,Nat.le_refl _,h2⟩
abbrev small:Nat:=9223372036854775807
end Dem
end
section
open Go
namespace Dem
end Dem
namespace Dem
theorem nP (x:Int):IntKind.u64.wrap x=x%18446744073709551616:=by simp [IntKind.wrap,IntKind.signed,IntKind.bits]
theorem cJ {x:Int} (h0:-9223372036854775808≤x) (h1:x<9223372036854775808):IntKind.i64.wrap x=x:=by
 simp [IntKind.wrap,IntKind.signed,IntKind.bits];omega
end Dem
namespace Dem
end Dem
namespace Dem
end Dem
namespace Dem
end Dem
end
section
open Go
namespace Dem
structure Term where
 key:aQ
 no:Bool
 lS:List aQ
deriving DecidableEq
instance:Inhabited Term:=⟨⟨[],false,[]⟩⟩
def Term.cells (x:Term):List D:=[.str x.key,.bool x.no,.sl (x.lS.map bg)]
def vT:Option aQ→List aQ→Bool
 |_,[]=>true
 |q,v::r=>ic v&&RV q v&&vT (some v) r
def mright (x:Term):Bool:=if vT none x.lS then ic x.key&&decide (x.lS.length≤4) else false
def yD (l:List Term):Bool:=if l.length≤4 then !(l.any fun x=>!mright x) else false
def EE (l:List cZ) (k:aQ):aQ×Bool:=match l.find? (fun x=>decide (x.key=k)) with
 |some x=>(x.value,true)
 |none=>([],false)
def ki (x:Term) (l:List cZ):Bool:=
 (if (EE l x.key).2 then (if x.lS.length=0 then true else x.lS.contains (EE l x.key).1) else false)!=x.no
def o8 (x:List Term) (l:List cZ):Bool:=!(x.any fun m=>!ki m l)
abbrev bM.u' (v:bM):Prop:=(0≤v.a∧v.a<18446744073709551616)∧(0≤v.b∧v.b<18446744073709551616)∧(0≤v.c∧v.c<18446744073709551616)∧(0≤v.d∧v.d<18446744073709551616)
def JJ (x y:Int):Int×Bool:=if x.toNat*y.toNat<18446744073709551616 then (((x.toNat*y.toNat:Nat):Int),true) else (0,false)
def GC (v:bM) (n:Int):bM×Bool:=both (fun x _=>JJ x n) v bM.zero
def ix (x y:Int):Int:=if x<y then -1 else if y<x then 1 else 0
def o9 (a b:bM):Int:=
 if ix a.a b.a≠0 then ix a.a b.a else if ix a.b b.b≠0 then ix a.b b.b else if ix a.c b.c≠0 then ix a.c b.c else ix a.d b.d
structure cR where
 id:Int
 prio:Int
deriving DecidableEq
instance:Inhabited cR:=⟨⟨0,0⟩⟩
def cR.cells (q:cR):List D:=[.int .u64 q.id,.int .i64 q.prio]
def dQ (a b:cR):Bool:=decide (b.prio<a.prio)||(decide (a.prio=b.prio)&&decide (a.id<b.id))
def tD (l:List cR) (e:cR):Nat:=match l.findIdx? (fun x=>dQ e x) with
 |some k=>k
 |none=>l.length
def rL (l:List cR) (id:Int):Int:=idxOf (fun x=>decide (x.id=id)) l
def pe (e:cR):Bool:=decide (e.prio<0)||decide (9<e.prio)
def jh (l:List cR) (e:cR):List cR×Int:=
 if pe e then (l,1) else if 0≤rL l e.id then (l,8) else if 32≤l.length then (l,9) else
 (l.take (tD l e)++e::l.drop (tD l e),0)
def yE (l:List cR) (id:Int):List cR×Bool:=match l.findIdx? (fun x=>decide (x.id=id)) with
 |some k=>(l.eraseIdx k,true)
 |none=>(l,false)
end Dem
end
