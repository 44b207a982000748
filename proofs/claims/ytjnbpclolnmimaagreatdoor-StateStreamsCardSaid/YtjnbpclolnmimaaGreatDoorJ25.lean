/- Parts of a proof, joined. -/
import Derived.Test.YtjnbpclolnmimaaGreatDoorJ24
set_option linter.unusedSimpArgs false
set_option linter.unusedVariables false
set_option maxRecDepth 100000
set_option maxHeartbeats 4000000
section
open Go Dem Go.Proofs
namespace Dem
variable {t:Th}
def oP (l:List aR) (k:Nat):Option aD:=match k with
 |0=>none
 |k+1=>(l[k]?).map (·.path)
def OG (all:List aR) (q:aD) (e:aR):Bool:=!sle e.path q&&named e.path&&!decide (bM all (parent e.path)<0)
theorem I4 {all l:List aR} {k:Nat} {x:aR} (hx:all[k]?=some x):eO all (oP all k) (x::l)=((decide (k=0)||match all[k-1]? with|none=>true|some y=>OG all y.path x)&&eO all (oP all (k+1)) l):=by
 cases k with
 |zero=>simp [oP,eO,hx]
 |succ k=>
  have hk:k<all.length:=by have:=(List.getElem?_eq_some_iff.1 hx).1;omega
  simp only [oP,hx,List.getElem?_eq_getElem hk,Option.map_some,eO,OG]
  simp [List.getElem?_eq_getElem hk]
theorem OH {l:List aR} (h:l.length<1∨16<l.length∨∃x,l[0]?=some x∧x.path≠[]):gU l=false:=by
 unfold gU
 rcases h with h|h|⟨x,h,h2⟩
 ·rw [if_pos h]
 ·rw [if_neg (by omega),if_pos h]
 by_cases a:l.length<1
 ·rw [if_pos a]
 by_cases b:16<l.length
 ·rw [if_neg a,if_pos b]
 rw [if_neg a,if_neg b,if_pos (by simpa [List.getD_eq_getElem?_getD,h] using h2)]
theorem Lu {l:List aR} {x0:aR} (hx0:0<l.length→l[0]?=some x0) (h0:((l.length:Int)<1∨16<(l.length:Int))∨¬x0.path=[]):gU l=false:=by
 refine OH ?_
 by_cases a:l.length<1
 ·exact .inl a
 rcases h0 with (h|h)|h
 ·omega
 ·exact .inr (.inl (by omega))
 exact .inr (.inr ⟨x0,hx0 (by omega),h⟩)
theorem zG {l:List aR} {x0:aR} (hx0:0<l.length→l[0]?=some x0) (h0:(1≤(l.length:Int)∧(l.length:Int)≤16)∧x0.path=[]):gU l=(eO l none l&&!(l.any fun e=>!k9 l e)):=by
 unfold gU
 rw [if_neg (by omega),if_neg (by omega),if_neg (by have:=hx0 (by omega);simp [List.getD_eq_getElem?_getD,this,h0.2])]
theorem I5 {l:List aR} {x0 x y:aR} {k:Nat} {r5 rest:Bool} {r7:aD} {r9:Int} (hx0:0<l.length→l[0]?=some x0) (h0:(1≤(l.length:Int)∧(l.length:Int)≤16)∧x0.path=[])
 (j4:eO l none l=((decide (k=0)||match l[k-1]? with|none=>true|some y=>OG l y.path x)&&rest)) (my:0<k→l[k-1]?=some y) (e5:r5=named x.path) (e7:r7=parent x.path) (e9:r9=bM l r7)
 (h:0<k∧(((Op.bytesLess x.path y.path=true∨x.path=y.path)∨r5=false)∨r9<0)):gU l=false:=by
 subst e7 e5 e9
 rw [zG hx0 h0,j4,my h.1]
 have k0:¬k=0:=by omega
 rcases h.2 with ((h1|h1)|h1)|h1<;>simp [k0,OG,sle,h1]
theorem OI {l:List aR} {x y:aR} {k:Nat} {r5 rest:Bool} {r7:aD} {r9:Int}
 (my:0<k→l[k-1]?=some y) (e5:r5=named x.path) (e7:r7=parent x.path) (e9:r9=bM l r7)
 (h:0<k→((Op.bytesLess x.path y.path=false∧¬x.path=y.path)∧r5=true)∧0≤r9):((decide (k=0)||match l[k-1]? with|none=>true|some y=>OG l y.path x)&&rest)=rest:=by
 subst e7 e5 e9
 by_cases k0:k=0
 ·simp [k0]
 have h:=h (by omega)
 rw [my (by omega)]
 have:=h.2
 simp [k0,OG,sle,h.1.1.1,h.1.1.2,h.1.2];omega
theorem Ej (ht:TT t) {l:List aR} {es:List (List D)} (aF:es=l.map aR.cells) (hl:l.length<100000) (fR:∀x∈l,x.path.length<1000000000000):
 FC 40 [SL es] [] (.ret (bY (t _ fun _=>gU l))) []:=by
 obtain ⟨x0,hx0⟩:=elemAt l 0
 refine bC ht (aE:=[]) Tryz.func40 (c:=_) rfl rfl (N:=59) rfl (rs:=_) rfl (n:=0) rfl rfl ?_
 cbv
 have ar:es.length=l.length:=by rw [aF,List.length_map]
 iterate 3 refine gI (by simp [ht]) ?_
 refine pI (by simp [ht]) ?_
 refine gI (by simp [ht]) ?_
 (refine IA ht aF (cT:=aR.aH t) 0 x0 (fun g=>by simp [ht,aa] at g;exact ⟨rfl,hx0 (by omega)⟩) (fun _=>rfl) (fun _=>rfl) (fun g=>by exact ⟨g,trivial⟩) ?_)
 cbv
 iterate 3 refine gI (by simp [ht]) ?_
 refine pI (by simp [ht]) ?_
 refine ai (fun h0=>?_) (fun h0=>?_)
 ·simp [ht,aa,ar] at h0
  cbv
  refine an trivial trivial rfl rfl rfl ?_
  (simp only [ht];rw [Lu hx0 h0])
 simp [ht,aa,ar] at h0
 cbv
 obtain ⟨J1,fe⟩:∃J1:Nat→Int→Prop,∀n i,J1 n i↔(∃k:Nat,i=k∧k+n=l.length∧eO l none l=eO l (oP l k) (l.drop k)):=⟨fun n v=>match v with|i=>(∃k:Nat,i=k∧k+n=l.length∧eO l none l=eO l (oP l k) (l.drop k)),fun _ _=>Iff.rfl⟩
 refine aZ ⟨[1,20,21,22],[],[]⟩ (σ:=Int) (fun v=>[(22,.d (.int .i64 (t _ fun _=>v)))]) (fun v=>[]) J1 ?_
 cbv
 refine aA ⟨l.length,_,(fe _ _).2 ?_,by simp only [ht];rfl,?_⟩
 ·exact ⟨0,rfl,by simp,rfl⟩
 rintro n i hj
 replace hj:=(fe _ _).1 hj
 obtain ⟨k,rfl,j1,j4⟩:=hj
 cbv
 refine ai (fun h2=>?_) (fun h2=>?_)
 ·simp [ht,aa,ar] at h2
  cbv
  refine dg ht aF (cT:=aR.aH t) (by (simp only [ht,aa];omega)) (by (simp only [ht,aa];omega)) (fun _=>rfl) (fun _=>rfl) (fun x3 ke=>?_)
  simp [ht,aa] at ke
  rw [bO ke,I4 ke] at j4
  have sx3:=fR _ (List.mem_of_getElem? ke)
  cbv
  refine bJ [true,true,true,false,false,false,false,false,false,false,false,true,true,true,true,true,true,true,true,false,false,false,false,true,true,true,true] (by kernel_rfl) (by kernel_rfl) ?_
  cbv
  iterate 5 refine gI (by simp [ht]) ?_
  (refine HY ht aF (cT:=aR.aH t) (k-1) (fun g=>by simp [ht,aa] at g ⊢;simp [g]) (fun g=>by simp [ht,aa] at g;simp only [ht,aa];exact ⟨vX (by omega) (by omega),by omega⟩) (fun _=>rfl) (fun _=>rfl) (fun y my=>?_);simp [ht,aa] at my)
  cbv
  iterate 6 refine gI (by simp [ht]) ?_
  refine aM (fun g4=>⟨by simp [ht] at g4 ⊢;exact g4,trivial,wq ht _ (by assumption)⟩) rfl rfl (fun r5 jA=>?_)
  simp only [ht] at jA
  cbv
  refine gI (by simp [ht]) ?_
  refine gI (by simp [ht,ak];intros;simp_all) ?_
  iterate 4 refine gI (by simp [ht]) ?_
  refine aM (fun g6=>⟨by simp [ht] at g6 ⊢;exact g6,trivial,sV ht _ (by assumption)⟩) rfl rfl (fun r7 gL=>?_)
  simp only [ht] at gL
  cbv
  refine aM (fun g8=>⟨by simp [ht] at g8 ⊢;exact g8,trivial,kj ht _ (by assumption) (by omega)⟩) rfl rfl (fun r9 dN=>?_)
  simp only [ht] at dN
  cbv
  refine gI (by simp [ht]) ?_
  refine gI (by simp [ht,ak];intros;simp_all) ?_
  refine pI (by simp [ht]) ?_
  refine ai (fun h10=>?_) (fun h10=>?_)
  ·simp [ht,aa] at h10
   cbv
   refine an trivial trivial rfl rfl rfl ?_
   (simp only [ht];rw [I5 hx0 h0 j4 my jA gL dN h10])
  simp [ht,aa] at h10
  cbv
  refine bf _ (by simp only [ht];rfl) (n-1) ?_ ((fe _ _).2 ?_)
  ·omega
  simp only [aa]
  exact ⟨k+1,aC (by omega),by omega,j4.trans (OI my jA gL dN h10)⟩
 simp [ht,aa,ar] at h2
 cbv
 (obtain ⟨r9,dN⟩:∃r,r=l.any (fun e=>!k9 l e):=⟨_,rfl⟩;refine cE [0] trivial rfl rfl (OF ht aF (by omega) fR dN) (bK ?_))
 cbv
 refine an trivial trivial rfl rfl rfl ?_
 (rw [List.drop_eq_nil_of_le (by omega),eO] at j4;simp only [ht,zG hx0 h0,j4,Bool.true_and,←dN];done)
end Dem
end
section
open Go Dem Go.Proofs
namespace Dem
variable {t:Th}
theorem I6 {s:aD} {p m:Int}:((aU s p m).t.length:Int)≤max m 0:=by
 unfold aU
 split
 ·rename_i h
  simp only [List.length_take,List.length_drop];omega
 simp [Fk.no];omega
def ZU (r:bB aR):AV:=.dF [N6 r.x,bq r.next,BL r.ok]
def XE (t:Th) (r:bB (List aR)):AV:=.dF [Ro t r.x,bq r.next,BL r.ok]
theorem UU (ht:TT t) (s:aD) (p:Int) (hs:s.length<9223372036854775000) (hp:p<9223372036854775808):FC 183 [ST s,bq p] [] (.ret (ZU (t _ fun _=>xY s p))) []:=by
 refine bC ht (aE:=[]) Tryz.func183 (c:=_) rfl rfl (N:=40) rfl (rs:=_) rfl (n:=0) rfl rfl ?_
 cbv
 refine ay trivial (gJ ht _ _ _ (by assumption) (by assumption) (by omega)) trivial rfl rfl (fun r0 bE=>?_)
 simp only [ht] at bE
 have RK:=dw (s:=s) (p:=p) (m:=98) hs
 (try rw [←bE] at RK)
 (try obtain ⟨abV,abW,abX⟩:=RK)
 cbv
 refine ai (fun h1=>?_) (fun h1=>?_)
 ·simp [ht] at h1
  cbv
  refine an trivial trivial rfl rfl rfl ?_
  (simp only [ht,xY,bB.TV,aR.zero,bz.zero];grind)
 simp [ht] at h1
 cbv
 refine ay trivial (wI ht _ _ (by assumption) (by (refine Int.lt_of_le_of_lt (by assumption) (by ((try simp only [aa] at*);omega))))) trivial rfl rfl (fun r2 cP=>?_)
 simp only [ht] at cP
 have ae2:(r2).next≤s.length:=by rw [cP];exact sP
 cbv
 refine ai (fun h3=>?_) (fun h3=>?_)
 ·simp [ht] at h3
  cbv
  refine an trivial trivial rfl rfl rfl ?_
  (simp only [ht,xY,bB.TV,aR.zero,bz.zero];grind)
 simp [ht] at h3
 cbv
 refine ay trivial (wI ht _ _ (by assumption) (by (refine Int.lt_of_le_of_lt (by assumption) (by ((try simp only [aa] at*);omega))))) trivial rfl rfl (fun r4 dO=>?_)
 simp only [ht] at dO
 have ae3:(r4).next≤s.length:=by rw [dO];exact sP
 cbv
 refine an trivial trivial rfl rfl rfl ?_
 (simp only [ht,xY,bB.TV,aR.zero,bz.zero];grind)
theorem UW {s:aD} {p:Int}:(xY s p).next≤s.length:=by
 unfold xY;split;· simp [bB.TV]
 split;· simp [bB.TV]
 exact sP
theorem UX {s:aD} {p:Int}:(xY s p).x.path.length<1000000000000:=by
 have:=I6 (s:=s) (p:=p) (m:=98)
 unfold xY;split;· simp [bB.TV,aR.zero]
 split;· simp [bB.TV,aR.zero]
 simp only;omega
theorem Lv {s:aD} {n:Nat} {l:List aR} {p:Int} {r:bB aR} (e:r=xY s p):lB s (n+1) l p=if !r.ok then bB.nW else if decide (r.x=aR.zero)&&decide (0<l.length) then bB.nW else lB s n (l++[r.x]) r.next:=by rw [lB,e]
theorem XF {x y:aR}:x=y↔x.path=y.path∧x.dc=y.dc∧x.used=y.used:=by cases x;cases y;simp
theorem I7 {x:aR}:x=aR.zero↔x.path=[]∧(x.dc.a=0∧x.dc.b=0∧x.dc.c=0∧x.dc.d=0)∧x.used.a=0∧x.used.b=0∧x.used.c=0∧x.used.d=0:=by
 rw [XF,nT,nT];simp [aR.zero,bz.zero]
theorem RZ {s:aD} {p:Int} {r:z8} (e:r=bD s p) (h:r.ok=false∨16<r.u):BJ s p=bB.nW:=by
 unfold BJ
 rw [←e]
 by_cases a:r.ok=true
 ·rcases h with h|h
  ·rw [a] at h;cases h
  simp [a,h]
 simp [a]
theorem R3 {s:aD} {p:Int} {r:z8} (e:r=bD s p) (h:r.ok=true∧r.u≤16) (j:lB s r.u.toNat [] r.next=bB.nW):BJ s p=bB.nW:=by
 unfold BJ
 rw [←e,j]
 simp only [h.1,bB.nW]
 split<;>simp
theorem I8 {s:aD} {p a:Int} {r:z8} {rs:List aR} (e:r=bD s p) (h:r.ok=true∧r.u≤16) (j:lB s r.u.toNat [] r.next=⟨rs,a,true⟩):BJ s p=if gU rs then ⟨rs,a,true⟩ else bB.nW:=by
 unfold BJ
 rw [←e,j]
 have:¬16<r.u:=by omega
 cases hr:gU rs<;>simp [h.1,this]
theorem Lw {r:bB aR} {rs:List aR} {z:bB (List aR)} (h:r.ok=false∨(r.x.path=[]∧(r.x.dc.a=0∧r.x.dc.b=0∧r.x.dc.c=0∧r.x.dc.d=0)∧r.x.used.a=0∧r.x.used.b=0∧r.x.used.c=0∧r.x.used.d=0)∧0<rs.length):
 (if (!r.ok)=true then bB.nW else if (decide (r.x=aR.zero)&&decide (0<rs.length))=true then bB.nW else z)=bB.nW:=by
 rcases h with h|⟨h,h2⟩
 ·simp [h]
 rw [←I7] at h
 split;· rfl
 rw [if_pos (by simp [h,h2])]
theorem R4 {r:bB aR} {rs:List aR} {z:bB (List aR)} (h:r.ok=true∧(r.x.path=[]→r.x.dc.a=0→r.x.dc.b=0→r.x.dc.c=0→r.x.dc.d=0→r.x.used.a=0→r.x.used.b=0→r.x.used.c=0→r.x.used.d=0→rs=[])):
 (if (!r.ok)=true then bB.nW else if (decide (r.x=aR.zero)&&decide (0<rs.length))=true then bB.nW else z)=z:=by
 rw [if_neg (by simp [h.1]),if_neg]
 rw [Bool.and_eq_true]
 rintro ⟨h1,h2⟩
 rw [decide_eq_true_eq,I7] at h1
 obtain ⟨a,⟨b,c,d,e⟩,f,g,i,j⟩:=h1
 rw [h.2 a b c d e f g i j] at h2
 simp at h2
theorem UY (ht:TT t) (s:aD) (p:Int) (hs:s.length<9223372036854775000) (hp:p<9223372036854775808):FC 136 [ST s,bq p] [] (.ret (XE t (t _ fun _=>BJ s p))) []:=by
 refine bC ht (aE:=[]) Tryz.func136 (c:=_) rfl rfl (N:=57) rfl (rs:=_) rfl (n:=0) rfl rfl ?_
 cbv
 refine ay trivial (fu ht _ _ (by assumption) (by assumption)) trivial rfl rfl (fun r0 bE=>?_)
 simp only [ht] at bE
 have gb:=eM (s:=s) (p:=p)
 rw [←bE] at gb
 cbv
 iterate 2 refine gI (by simp [ht]) ?_
 refine pI (by simp [ht]) ?_
 refine ai (fun h1=>?_) (fun h1=>?_)
 ·simp [ht] at h1
  cbv
  refine an trivial trivial rfl rfl rfl ?_
  (simp only [ht,RZ bE h1,bB.nW];rfl)
 simp [ht] at h1
 cbv
 obtain ⟨J2,FM⟩:∃J2:Nat→Int×List (List D)×Int→Prop,∀n a o i,J2 n (a,o,i)↔(∃(k:Nat) (rs:List aR),i=k∧k+n=r0.u.toNat∧o=rs.map aR.cells∧rs.length=k∧a<9223372036854775808∧(∀x∈rs,x.path.length<1000000000000)∧lB s r0.u.toNat [] r0.next=lB s n rs a):=⟨fun n v=>match v with|(a,o,i)=>(∃(k:Nat) (rs:List aR),i=k∧k+n=r0.u.toNat∧o=rs.map aR.cells∧rs.length=k∧a<9223372036854775808∧(∀x∈rs,x.path.length<1000000000000)∧lB s r0.u.toNat [] r0.next=lB s n rs a),fun _ _ _ _=>Iff.rfl⟩
 refine aZ ⟨[0,1,4,24,25],[(4,9)],[]⟩ (σ:=Int×List (List D)×Int) (fun v=>[(1,.d (.int .i64 (t _ fun _=>v.1))),(4,.ow 0 9 (t _ fun _=>(v.2.1).length)),(25,.d (.int .u64 (t _ fun _=>v.2.2)))]) (fun v=>[(0,.row 9 (t _ fun _=>v.2.1))]) J2 ?_
 cbv
 refine aA ⟨r0.u.toNat,(_,[],_),(FM _ _ _ _).2 ?_,by simp only [ht];rfl,?_⟩
 ·(have g:=gb (by simp_all);exact ⟨0,[],rfl,by ((try simp only [aa] at*);omega),rfl,rfl,Int.lt_of_le_of_lt g.2.2.1 (by ((try simp only [aa] at*);omega)),by simp,rfl⟩)
 rintro n ⟨a,o,i⟩ hj
 replace hj:=(FM _ _ _ _).1 hj
 obtain ⟨k,rs,j1,j3,j2,j5,j6,j7,j4⟩:=hj
 have tV:o.length=rs.length:=by rw [j2,List.length_map]
 cbv
 refine ai (fun h3=>?_) (fun h3=>?_)
 ·simp [ht] at h3
  cbv
  refine ay trivial (UU ht _ _ (by assumption) (by (simp only [ht];((try simp only [aa] at*);omega)))) trivial rfl rfl (fun r4 dO=>?_)
  simp only [ht] at dO
  have RL:=UW (s:=s) (p:=a)
  have gb3:=UX (s:=s) (p:=a)
  rw [←dO] at RL gb3
  obtain ⟨m,rfl⟩:∃m,n=m+1:=⟨n-1,by ((try simp only [aa] at*);omega)⟩
  rw [Lv dO] at j4
  cbv
  iterate 7 refine gI (by simp [ht]) ?_
  refine gI (by simp [ht,ak];intros;simp_all) ?_
  refine pI (by simp [ht]) ?_
  refine ai (fun h5=>?_) (fun h5=>?_)
  ·simp [ht,aa,tV] at h5
   cbv
   refine an trivial trivial rfl rfl rfl ?_
   (simp only [ht,R3 bE h1 (j4.trans (Lw h5)),bB.nW];rfl)
  simp [ht,aa,tV] at h5
  cbv
  refine ⟨?_,?_⟩
  ·(simp only [ht,true_and];exact zb j2 (fun _=>rfl) rfl (by omega) (by decide))
  cbv
  refine bf (_,_,_) (by simp only [ht,←List.length_append];rfl) m ?_ ((FM _ _ _ _).2 ?_)
  ·omega
  simp only [aa]
  exact ⟨k+1,rs++[(r4).x],by rw [bG];((try simp only [aa] at*);omega),by ((try simp only [aa] at*);omega),by rw [j2];simp,by simp;((try simp only [aa] at*);omega),Int.lt_of_le_of_lt RL (by ((try simp only [aa] at*);omega)),(by intro y hy;rcases List.mem_append.1 hy with hy|hy;exact j7 y hy;simp at hy;rw [hy];exact gb3),j4.trans (R4 h5)⟩
 simp [ht] at h3
 cbv
 refine ay trivial (Ej ht (by (simp only [ht];((try simp only [aa] at*);omega))) (by omega) (by assumption)) (by simp [ht]) rfl rfl (fun r6 gv=>?_)
 simp only [ht] at gv
 cbv
 refine ai (fun h7=>?_) (fun h7=>?_)
 ·simp [ht] at h7
  cbv
  refine an trivial trivial rfl rfl rfl ?_
  (have n0:n=0:=(by ((try simp only [aa] at*);omega));subst n0;rw [lB] at j4;have te:=I8 bE h1 j4;rw [←gv,h7] at te;simp only [ht,te,bB.nW];rfl)
 simp [ht] at h7
 cbv
 refine an trivial (by simp [ht]) rfl rfl rfl ?_
 (have n0:n=0:=(by ((try simp only [aa] at*);omega));subst n0;rw [lB] at j4;have te:=I8 bE h1 j4;rw [←gv,h7] at te;simp [ht,te,j2];done)
end Dem
end
section
open Go Dem Go.Proofs
namespace Dem
variable {t:Th}
def kB (s:aD):Nat→List Jb→Int→Option (List Jb×Int)
 |0,l,p=>some (l,p)
 |n+1,l,p=>match Ei s p with
  |some (j,q)=>kB s n (l++[j]) q
  |none=>none
theorem zH {s:aD} {n:Nat} {l L:List Jb} {p e:Int} (h:kB s n l p=some (L,e)):n=0∨∃m j q,n=m+1∧Ei s p=some (j,q)∧kB s m (l++[j]) q=some (L,e):=by
 cases n with
 |zero=>exact .inl rfl
 |succ m=>
  rw [kB] at h
  split at h
  ·rename_i j q g;exact .inr ⟨m,j,q,rfl,g,h⟩
  cases h
theorem yo {s:aD}:∀{n:Nat} {l L:List Jb} {p e:Int},kB s n l p=some (L,e)→0≤p→p≤s.length→(0≤e∧e≤s.length)∧L.length=l.length+n∧∀x∈l,x∈L
 |0,l,L,p,e,h,h1,h2=>by rw [kB] at h;simp only [Option.some.injEq,Prod.mk.injEq] at h;obtain ⟨rfl,rfl⟩:=h;exact ⟨⟨h1,h2⟩,rfl,fun x h=>h⟩
 |n+1,l,L,p,e,h,h1,h2=>by
  rcases zH h with h0|⟨m,j,q,e1,g1,g2⟩
  ·cases h0
  cases e1
  have b:=M6 g1
  have:=yo g2 b.1 b.2
  simp only [List.length_append,List.length_singleton,List.mem_append,List.mem_singleton] at this
  exact ⟨this.1,by omega,fun x hx=>this.2.2 x (.inl hx)⟩
theorem R5 {l:List Jb} {a b c d e f g h j:Int} {q:aD} {r:Bool} {sr:List (List D)} (hl:l.length<1000000):((l.map Jb.cells).length+[[D.int .u64 a,D.str q,D.int .u64 b,D.int .u64 c,D.int .u64 d,D.int .u64 e,D.int .i64 f,D.int .i64 g,D.int .i64 h,D.sl sr,D.bool r,D.int .i64 j]].length)*120≤140737488355328∧∀x,x∈l.map Jb.cells++[[D.int .u64 a,D.str q,D.int .u64 b,D.int .u64 c,D.int .u64 d,D.int .u64 e,D.int .i64 f,D.int .i64 g,D.int .i64 h,D.sl sr,D.bool r,D.int .i64 j]]→x.length=12:=by
 refine ⟨by simp;omega,?_⟩
 intro x hx
 rcases List.mem_append.1 hx with hx|hx
 ·obtain ⟨y,_,rfl⟩:=List.mem_map.1 hx;rfl
 rw [List.mem_singleton.1 hx];rfl
theorem OJ (ht:TT t) (s:aD) {p p1 p2 p3 p4 p5 p6 p7 e c:Int} (rd nx ef af:Int) {nl:List Node} {pl:List Place} {tl:List aR} {jl:List Jb} {ql:List bX} {el al:List bU} {ns ps ts js qs es cY:List (List D)} (gX:ns=nl.map Node.cells) (hps:ps=pl.map Place.cells) (hts:ts=tl.map aR.cells) (gi:js=jl.map Jb.cells) (fq:qs=ql.map bX.cells) (aF:es=el.map bU.cells) (has:cY=al.map bU.cells) (hs:s.length<9223372036854775000) (hp:p<9223372036854775808) (hq:ql=[])
 (g1:bD s p=⟨rd,p1,true⟩) (g2:bD s p1=⟨nx,p2,true⟩) (g3:Ib s p2=⟨⟨nl,pl⟩,p3,true⟩) (l3:p3≤s.length) (g4:BJ s p3=⟨tl,p4,true⟩) (l4:p4≤s.length)
 (g5:bD s p4=⟨c,p5,true⟩) (g6:kB s c.toNat [] p5=some (jl,p6)) (hjl:jl.length<1000000) (fR:∀j∈jl,j.x.sm)
 (g7:lm s p6=some (⟨ef,el⟩,p7)) (hel:el.length<1000000) (g8:lm s p7=some (⟨af,al⟩,e)) (hal:al.length<1000000):
 FC 78 [.ptr 0 0] [.var [ST s,bq p]] (.ret (.agg [az rd,az nx,SL ns,SL ps,SL ts,SL js,SL qs,az ef,SL es,az af,SL cY])) [.var [ST s,bq e]]:=by
 have b1:=fw g1
 have b2:=fw g2
 have b5:=fw g5
 have b6:=yo g6 b5.2.2.1 b5.2.2.2
 have b7:=I1 g7
 have b8:=I1 g8
 have b60:=b6.1
 have b61:=b6.2.1
 simp only [List.length_nil,Nat.zero_add] at b61
 subst hq
 refine bC ht (aE:=[.var [ST s,bq p]]) Tryz.func78 (c:=_) rfl rfl (N:=89) rfl (rs:=_) rfl (n:=1) rfl rfl ?_
 cbv
 have fj:ns.length=nl.length:=by rw [gX,List.length_map]
 have fE:ps.length=pl.length:=by rw [hps,List.length_map]
 have fZ:ts.length=tl.length:=by rw [hts,List.length_map]
 have dy:js.length=jl.length:=by rw [gi,List.length_map]
 have ar:es.length=el.length:=by rw [aF,List.length_map]
 have dU:cY.length=al.length:=by rw [has,List.length_map]
 (refine cE [0] trivial rfl rfl (kH ht s hs (by ((try simp only [aa] at*);omega)) g1) (bK ?_))
 cbv
 (refine cE [0] trivial rfl rfl (kH ht s hs (by ((try simp only [aa] at*);omega)) g2) (bK ?_))
 cbv
 refine vM [0,4] [0,4,9,10,11,12] [false,false,false,false,false,false,false,false,false,false,false,false,false,false,true,true,true] (by kernel_rfl) (by kernel_rfl) (by kernel_rfl) (by kernel_rfl) (by kernel_rfl) (by kernel_rfl) ?_
 cbv
 iterate 8 refine gI (by simp) ?_
 refine .inl ?_
 refine iu (fun g0=>⟨trivial,trivial,UE ht _ _ (by assumption) (by ((try simp only [aa] at*);omega))⟩) rfl rfl rfl (fun r1 cX=>?_)
 simp only [ht] at cX
 (rw [g3] at cX;subst cX)
 cbv
 iterate 4 refine gI (by simp) ?_
 (refine cE [0] trivial rfl rfl (wM ht s _ _) (bK ?_))
 cbv
 refine bJ [false,false,false,false,false,false,false,false,true,true,false,false,false,false,false,true] (by kernel_rfl) (by kernel_rfl) ?_
 cbv
 iterate 8 refine gI (by simp) ?_
 refine aS trivial (UY ht _ _ (by assumption) (by ((try simp only [aa] at*);omega))) trivial rfl rfl rfl (fun r2 cP=>?_)
 simp only [ht] at cP
 (rw [g4] at cP;subst cP)
 cbv
 iterate 5 refine gI (by simp) ?_
 (refine cE [0] trivial rfl rfl (wM ht s _ _) (bK ?_))
 cbv
 (refine cE [0] trivial rfl rfl (kH ht s hs (by ((try simp only [aa] at*);omega)) g5) (bK ?_))
 cbv
 obtain ⟨J3,FN⟩:∃J3:Nat→Int×List (List D)×Int→Prop,∀n i o a,J3 n (i,o,a)↔(∃(k:Nat) (l:List Jb),i=k∧k+n=c.toNat∧o=l.map Jb.cells∧l.length=k∧0≤a∧a≤s.length∧kB s n l a=some (jl,p6)):=⟨fun n v=>match v with|(i,o,a)=>(∃(k:Nat) (l:List Jb),i=k∧k+n=c.toNat∧o=l.map Jb.cells∧l.length=k∧0≤a∧a≤s.length∧kB s n l a=some (jl,p6)),fun _ _ _ _=>Iff.rfl⟩
 refine aZ ⟨[0,2,3,54,55],[],[(2,5,12)]⟩ (σ:=Int×List (List D)×Int) (fun v=>[(55,.d (.int .u64 (t _ fun _=>v.1)))]) (fun v=>[(3,.row 12 (t _ fun _=>v.2.1)),(2,.var [AV.d (D.int IntKind.u64 rd),AV.d (D.int IntKind.u64 nx),AV.d (D.sl (t (List (List D)) fun x=>List.map (fun x=>[D.str (Node.name x),D.int IntKind.u64 (bz.a (Node.cap x)),D.int IntKind.u64 (bz.b (Node.cap x)),D.int IntKind.u64 (bz.c (Node.cap x)),D.int IntKind.u64 (bz.d (Node.cap x)),D.sl (List.map (fun p=>[D.str (bT.key p),D.str (bT.value p)]) (Node.labels x)),D.bool (Node.up x)]) (cO.nodes {nodes:=nl,places:=pl}))),AV.d (D.sl (t (List (List D)) fun x=>List.map (fun x=>[D.int IntKind.u64 (Place.bu x),D.str (Place.node x),D.int IntKind.u64 (bz.a (Place.v x)),D.int IntKind.u64 (bz.b (Place.v x)),D.int IntKind.u64 (bz.c (Place.v x)),D.int IntKind.u64 (bz.d (Place.v x))]) (cO.places {nodes:=nl,places:=pl}))),AV.d (D.sl (t (List (List D)) fun x=>List.map (fun e=>[D.str (aR.path e),D.int IntKind.u64 (bz.a (aR.dc e)),D.int IntKind.u64 (bz.b (aR.dc e)),D.int IntKind.u64 (bz.c (aR.dc e)),D.int IntKind.u64 (bz.d (aR.dc e)),D.int IntKind.u64 (bz.a (aR.used e)),D.int IntKind.u64 (bz.b (aR.used e)),D.int IntKind.u64 (bz.c (aR.used e)),D.int IntKind.u64 (bz.d (aR.used e))]) tl)),.ow 3 12 (t _ fun _=>(v.2.1).length),AV.cl [],AV.d (D.int IntKind.u64 0),AV.cl [],AV.d (D.int IntKind.u64 0),AV.cl []]),(0,.var [AV.d (D.str s),.d (.int .i64 (t _ fun _=>v.2.2))])]) J3 ?_
 cbv
 refine aA ⟨c.toNat,(_,[],_),(FN _ _ _ _).2 ?_,by simp only [ht];rfl,?_⟩
 ·exact ⟨0,[],rfl,by ((try simp only [aa] at*);omega),rfl,rfl,b5.2.2.1,b5.2.2.2,g6⟩
 rintro n ⟨i,o,a⟩ hj
 replace hj:=(FN _ _ _ _).1 hj
 obtain ⟨k,l,rfl,j1,rfl,j3,j4,j5,j6⟩:=hj
 have hx:=zH j6
 cbv
 refine ai (fun h4=>?_) (fun h4=>?_)
 ·simp [ht,aa] at h4
  cbv
  (obtain ⟨m,⟨ji,⟨jq,⟨ja,jb,jc,jd⟩,jn,jp,jt,jB⟩,jr,jf⟩,q,rfl,gx,gy⟩:=hx.resolve_left (by ((try simp only [aa] at*);omega));have bx:=M6 gx;have bm:=(yo gy bx.1 bx.2).2.2 _ (List.mem_append_right _ (List.mem_singleton.2 rfl));have bs:=fR _ bm;obtain ⟨_,_,_,_,_,br,_,_⟩:=ym gx;simp only at br;subst br;obtain ⟨tn,m8⟩:∃tn,tn=jB.map Term.cells:=⟨_,rfl⟩;refine cE [0] trivial rfl rfl (UR ht s ji ja jb jc jd jn jp jt jf jq true m8 hs (by simp only [ht];((try simp only [aa] at*);omega)) bs (by simp only [ht];exact gx)) (bK ?_))
  cbv
  refine ⟨?_,?_⟩
  ·(simp only [ht,true_and];exact R5 (l:=l) (by ((try simp only [aa] at*);omega)))
  cbv
  refine ai (fun h5=>?_) (fun h5=>?_)
  ·simp [ht] at h5
  simp [ht] at h5
  cbv
  refine bf (_,_,_) (by simp only [ht,←List.length_append];rfl) m ?_ ((FN _ _ _ _).2 ?_)
  ·omega
  simp only [aa]
  exact ⟨k+1,l++[⟨ji,⟨jq,⟨ja,jb,jc,jd⟩,jn,jp,jt,jB⟩,true,jf⟩],M4 (by ((try simp only [aa] at*);omega)),by ((try simp only [aa] at*);omega),by simp [Jb.cells,m8],by simp;((try simp only [aa] at*);omega),bx.1,bx.2,gy⟩
 simp [ht,aa] at h4
 cbv
 ((have hn:n=0:=(by ((try simp only [aa] at*);omega));subst hn;rw [kB] at j6;simp only [Option.some.injEq,Prod.mk.injEq] at j6;obtain ⟨j7,j8⟩:=j6;refine cE [0] trivial rfl rfl (I2 ht s hs (by simp only [ht];((try simp only [aa] at*);omega)) hel aF (by simp only [ht];rw [j8];exact g7)) (bK ?_)))
 cbv
 ((refine cE [0] trivial rfl rfl (I2 ht s hs (by ((try simp only [aa] at*);omega)) hal has g8) (bK ?_)))
 cbv
 (exact an trivial (by simp [ht]) rfl (by simp only [ht];rfl) rfl (by simp only [ht,gX,hps,hts,gi,fq,j7];rfl))
end Dem
end
section
open Go Dem Go.Proofs
namespace Dem
variable {t:Th}
def Jb.aH (t:Th) (j:Jb):List D:=[.int .u64 j.id,.str j.x.path,.int .u64 j.x.fQ.a,.int .u64 j.x.fQ.b,.int .u64 j.x.fQ.c,.int .u64 j.x.fQ.d,.int .i64 j.x.count,.int .i64 j.x.prio,.int .i64 j.x.dS,.sl (t _ fun _=>j.x.b9.map Term.cells),.bool j.runs,.int .i64 j.left]
def EJb (t:Th) (j:Jb):AV:=.agg [az j.id,ST j.x.path,az j.x.fQ.a,az j.x.fQ.b,az j.x.fQ.c,az j.x.fQ.d,bq j.x.count,bq j.x.prio,bq j.x.dS,SL (t _ fun _=>j.x.b9.map Term.cells),BL j.runs,bq j.left]
def ab7 (t:Th) (r:Jb×Bool):AV:=.dF [EJb t r.1,BL r.2]
theorem R6 (ht:TT t) (id:Int) {l:List (Jb)} {es:List (List D)} (aF:es=l.map Jb.cells) (f:Nat) (p:Jb→Bool) (hl:l.length<9223372036854775807)
 (hf:∀x∈l,FC f [.agg [az x.id,ST x.x.path,az x.x.fQ.a,az x.x.fQ.b,az x.x.fQ.c,az x.x.fQ.d,bq x.x.count,bq x.x.prio,bq x.x.dS,SL (x.x.b9.map Term.cells),BL x.runs,bq x.left],.ptr 0 0] [.var [az id]] (.ret (BL (p x))) [.var [az id]]) {r:Int} (hr:r=idxOf p l):FC 122 [SL es,.fn f [.ptr 0 0]] [.var [az id]] (.ret (bq r)) [.var [az id]]:=by
 have hel:es.length=l.length:=by rw [aF,List.length_map]
 obtain ⟨J,hJ⟩:∃J:Nat→Nat→Prop,∀n v,J n v↔(v+n=l.length∧∀i<v,∀x,l[i]?=some x→p x=false):=⟨fun n v=>v+n=l.length∧∀i<v,∀x,l[i]?=some x→p x=false,fun _ _=>Iff.rfl⟩
 refine bC ht (aE:=[.var [az id]]) Tryz.func122 (c:=_) rfl rfl (N:=19) rfl (rs:=_) rfl (n:=1) rfl rfl ?_
 cbv
 refine aZ ⟨[0,1,7,8],[],[]⟩ (σ:=Nat) (fun k=>[(8,bq (t _ fun _=>(k:Int)))]) (fun _=>[]) J ?_
 cbv
 refine aA ⟨l.length,0,(hJ _ _).2 ⟨by omega,by intro i hi;simp at hi⟩,by simp only [ht];rfl,?_⟩
 rintro n k hj
 obtain ⟨h2,h3⟩:=(hJ _ _).1 hj
 clear hj
 cbv
 refine ai (fun h=>?_) (fun h=>?_)
 ·simp only [ht,aa,decide_eq_true_eq] at h
  have hk:k<l.length:=by omega
  obtain ⟨x,hx⟩:∃x,l[k]?=some x:=⟨l[k],by simp⟩
  have og:x∈l:=List.mem_of_getElem? hx
  have gY:=hf x og
  obtain ⟨px,hpx⟩:∃b,b=p x:=⟨_,rfl⟩
  rw [←hpx] at gY
  obtain ⟨id',⟨p',⟨a',b',c',d'⟩,n',pr',Pr,ru⟩,rn',lf'⟩:=x;obtain ⟨JH,pS⟩:∃lr:List (List D),lr=ru.map Term.cells:=⟨_,rfl⟩;simp only [←pS] at gY
  cbv
  refine gS [.int .u64 id',.str p',.int .u64 a',.int .u64 b',.int .u64 c',.int .u64 d',.int .i64 n',.int .i64 pr',.int .i64 Pr,.sl JH,.bool rn',.int .i64 lf'] ?_ ?_ ?_
  ·simp only [ht,aa];refine ⟨by omega,h,?_⟩;rw [aF];intro r hr;obtain ⟨y,_,rfl⟩:=List.mem_map.1 hr;rfl
  ·simp [ht,aa,aF,hx,pS,Jb.cells]
  cbv
  refine dn trivial gY ?_
  cbv
  refine ai (fun hb=>?_) (fun hb=>?_)
  ·cbv
   refine an trivial trivial rfl rfl rfl ?_
   have e:=cN hx (hpx▸hb) h3
   simp only [ht,aa,hr,idxOf,e]
  cbv
  refine aA ⟨n-1,k+1,⟨by omega,(hJ _ _).2 ⟨by omega,?_⟩⟩,?_⟩
  ·intro i hi y hy
   by_cases hik:i<k
   ·exact h3 i hik y hy
   have:i=k:=by omega
   subst this;rw [hx] at hy;cases hy;rw [←hpx];exact hb
  simp only [ht,aa,aC (show k<9223372036854775807 by omega)];rfl
 simp only [ht,aa,decide_eq_false_iff_not] at h
 have hk:¬k<l.length:=by omega
 clear h
 cbv
 refine an trivial trivial rfl rfl rfl ?_
 rw [hr,idxOf,cS]
 intro i y hy
 have:i<l.length:=by
  rcases Nat.lt_or_ge i l.length with h'|h';· exact h'
  simp [List.getElem?_eq_none h'] at hy
 exact h3 i (by omega) y hy
theorem OK (ht:TT t) (id i n k l a b c d:Int) (p:aD) (sr:List (List D)) (rn:Bool) (lf:Int):FC 123 [.agg [az i,ST p,az a,az b,az c,az d,bq n,bq k,bq l,SL sr,BL rn,bq lf],.ptr 0 0] [.var [az id]] (.ret (BL (decide (i=id)))) [.var [az id]]:=by
 refine bC ht (aE:=[.var [az id]]) Tryz.func123 (c:=_) rfl rfl (N:=8) rfl (rs:=_) rfl (n:=1) rfl rfl ?_
 cbv
 refine an trivial trivial rfl rfl rfl ?_
 simp [ht]
theorem tv (ht:TT t) (id rd nx ef af:Int) (ns ps ts qs el al:List (List D)) {l:List Jb} {es:List (List D)} (aF:es=l.map Jb.cells) (hl:l.length<1000000000):
 FC 61 [.agg [az rd,az nx,SL ns,SL ps,SL ts,SL es,SL qs,az ef,SL el,az af,SL al],az id] [] (.ret (kR (t _ fun _=>KR l id))) []:=by
 obtain ⟨r,hr⟩:∃r,r=KR l id:=⟨_,rfl⟩
 refine bC ht (aE:=[]) Tryz.func61 (c:=_) rfl rfl (N:=9) rfl (rs:=_) rfl (n:=0) rfl rfl ?_
 cbv
 refine cE [1] trivial rfl rfl (R6 ht id aF 123 (fun x=>decide (x.id=id)) (by omega) (fun x _=>OK ht id _ _ _ _ _ _ _ _ _ _ _ _) (r:=r) hr) (bK ?_)
 cbv
 exact an trivial trivial rfl rfl rfl (by simp [ht,hr])
theorem wN (ht:TT t) (id rd nx ef af:Int) (ns ps ts qs el al:List (List D)) {l:List Jb} {es:List (List D)} (aF:es=l.map Jb.cells) (hl:l.length<1000000000):
 FC 19 [.agg [az rd,az nx,SL ns,SL ps,SL ts,SL es,SL qs,az ef,SL el,az af,SL al],az id] [] (.ret (ab7 t (t _ fun _=>eH l id))) []:=by
 refine bC ht (aE:=[]) Tryz.func19 (c:=_) rfl rfl (N:=18) rfl (rs:=_) rfl (n:=0) rfl rfl ?_
 cbv
 have ar:es.length=l.length:=by rw [aF,List.length_map]
 refine ay trivial (tv ht _ _ _ _ _ _ _ _ _ _ _ (by assumption) (by assumption)) trivial rfl rfl (fun r0 bE=>?_)
 simp only [ht] at bE
 have ec:=cU bE
 clear bE
 rcases ec with ⟨e1,e2,e3⟩|⟨i,x,hi,hil,e1,e2,e3,e4⟩
 ·cbv
  refine ai (fun h1=>?_) (fun h1=>?_)
  ·simp [ht] at h1
   cbv
   refine an trivial trivial rfl rfl rfl ?_
   (simp [ht,eH,e3,Jb.zero,Ask.zero,bz.zero];done)
  simp [ht] at h1
  omega
 cbv
 refine ai (fun h2=>?_) (fun h2=>?_)
 ·simp [ht] at h2
  (simp only [aa] at*;omega)
 simp [ht] at h2
 cbv
 refine Bz ht aF (cT:=Jb.aH t) e1 (by assumption) (fun _=>rfl) (fun _=>(by (simp only [ht,Jb.aH];rfl))) ?_
 cbv
 refine an trivial trivial rfl rfl rfl ?_
 (simp [ht,eH,e4];done)
theorem OL (ht:TT t) (ts:List (List D)) {l:List (aD)} {es:List (List D)} (aF:es=l.map aT) (f:Nat) (p:aD→Bool) (hl:l.length<9223372036854775807)
 (hf:∀x∈l,FC f [.d (.str x),.ptr 0 0] [.var [SL ts]] (.ret (BL (p x))) [.var [SL ts]]) {r:Int} (hr:r=idxOf p l):FC 163 [SL es,.fn f [.ptr 0 0]] [.var [SL ts]] (.ret (bq r)) [.var [SL ts]]:=by
 have hel:es.length=l.length:=by rw [aF,List.length_map]
 obtain ⟨J,hJ⟩:∃J:Nat→Nat→Prop,∀n v,J n v↔(v+n=l.length∧∀i<v,∀x,l[i]?=some x→p x=false):=⟨fun n v=>v+n=l.length∧∀i<v,∀x,l[i]?=some x→p x=false,fun _ _=>Iff.rfl⟩
 refine bC ht (aE:=[.var [SL ts]]) Tryz.func163 (c:=_) rfl rfl (N:=19) rfl (rs:=_) rfl (n:=1) rfl rfl ?_
 cbv
 refine aZ ⟨[0,1,7,8],[],[]⟩ (σ:=Nat) (fun k=>[(8,bq (t _ fun _=>(k:Int)))]) (fun _=>[]) J ?_
 cbv
 refine aA ⟨l.length,0,(hJ _ _).2 ⟨by omega,by intro i hi;simp at hi⟩,by simp only [ht];rfl,?_⟩
 rintro n k hj
 obtain ⟨h2,h3⟩:=(hJ _ _).1 hj
 clear hj
 cbv
 refine ai (fun h=>?_) (fun h=>?_)
 ·simp only [ht,aa,decide_eq_true_eq] at h
  have hk:k<l.length:=by omega
  obtain ⟨x,hx⟩:∃x,l[k]?=some x:=⟨l[k],by simp⟩
  have og:x∈l:=List.mem_of_getElem? hx
  have gY:=hf x og
  obtain ⟨px,hpx⟩:∃b,b=p x:=⟨_,rfl⟩
  rw [←hpx] at gY
  skip
  cbv
  refine gS [.str x] ?_ ?_ ?_
  ·simp only [ht,aa];refine ⟨by omega,h,?_⟩;rw [aF];intro r hr;obtain ⟨y,_,rfl⟩:=List.mem_map.1 hr;rfl
  ·simp [ht,aa,aF,hx]
  cbv
  refine dn trivial gY ?_
  cbv
  refine ai (fun hb=>?_) (fun hb=>?_)
  ·cbv
   refine an trivial trivial rfl rfl rfl ?_
   have e:=cN hx (hpx▸hb) h3
   simp only [ht,aa,hr,idxOf,e]
  cbv
  refine aA ⟨n-1,k+1,⟨by omega,(hJ _ _).2 ⟨by omega,?_⟩⟩,?_⟩
  ·intro i hi y hy
   by_cases hik:i<k
   ·exact h3 i hik y hy
   have:i=k:=by omega
   subst this;rw [hx] at hy;cases hy;rw [←hpx];exact hb
  simp only [ht,aa,aC (show k<9223372036854775807 by omega)];rfl
 simp only [ht,aa,decide_eq_false_iff_not] at h
 have hk:¬k<l.length:=by omega
 clear h
 cbv
 refine an trivial trivial rfl rfl rfl ?_
 rw [hr,idxOf,cS]
 intro i y hy
 have:i<l.length:=by
  rcases Nat.lt_or_ge i l.length with h'|h';· exact h'
  simp [List.getElem?_eq_none h'] at hy
 exact h3 i (by omega) y hy
theorem OM (ht:TT t) (ts:List (List D)) {l:List (aD)} {es:List (List D)} (aF:es=l.map aT) (f:Nat) (p:aD→Bool) (hl:l.length<9223372036854775807)
 (hf:∀x∈l,FC f [.d (.str x),.ptr 0 0] [.var [SL ts]] (.ret (BL (p x))) [.var [SL ts]]) {r:Bool} (hr:r=l.any p):FC 110 [SL es,.fn f [.ptr 0 0]] [.var [SL ts]] (.ret (BL r)) [.var [SL ts]]:=by
 obtain ⟨k,hk⟩:∃k,k=idxOf p l:=⟨_,rfl⟩
 refine bC ht (aE:=[.var [SL ts]]) Tryz.func110 (c:=_) rfl rfl (N:=9) rfl (rs:=_) rfl (n:=1) rfl rfl ?_
 cbv
 refine dn trivial (OL ht ts aF f p hl hf hk) ?_
 cbv
 refine an trivial trivial rfl rfl rfl ?_
 simp only [ht,hr,eT,hk]
theorem R7 (ht:TT t) (q:aD) {l:List aR} {es:List (List D)} (aF:es=l.map aR.cells) (hl:l.length<1000000000) {r:Bool} (hr:r=!(lA l q).2):
 FC 112 [ST q,.ptr 0 0] [.var [SL es]] (.ret (BL r)) [.var [SL es]]:=by
 refine bC ht (aE:=[.var [SL es]]) Tryz.func112 (c:=_) rfl rfl (N:=14) rfl (rs:=_) rfl (n:=1) rfl rfl ?_
 cbv
 have ar:es.length=l.length:=by rw [aF,List.length_map]
 refine ay trivial (BQ ht _ (by assumption) (by assumption)) trivial rfl rfl (fun r0 bE=>?_)
 simp only [ht] at bE
 cbv
 refine an trivial trivial rfl rfl rfl ?_
 (simp [*];done)
theorem yp (ht:TT t) (p:aD) {l:List aR} {es:List (List D)} (aF:es=l.map aR.cells) (hl:l.length<1000000000) (hp:p.length<1000000000000):
 FC 48 [SL es,ST p] [] (.ret (bY (t _ fun _=>gV l p))) []:=by
 have h1:=jW p
 have h2:=ic p
 obtain ⟨ws,hws⟩:∃ws,ws=mW p++[[]]:=⟨_,rfl⟩
 obtain ⟨r9,dN⟩:∃r,r=ws.any (fun q=>!(lA l q).2):=⟨_,rfl⟩
 refine bC ht (aE:=[]) Tryz.func48 (c:=_) rfl rfl (N:=12) rfl (rs:=_) rfl (n:=0) rfl rfl ?_
 cbv
 have ar:es.length=l.length:=by rw [aF,List.length_map]
 refine qn trivial (MT ht p (by assumption)) trivial rfl (.inr rfl) ?_
 cbv
 refine ⟨?_,?_⟩
 ·(simp only [ht];grind)
 cbv
 (refine VU (v:=BL r9) trivial rfl (by simp [ht]) (by exact eZ [0] rfl rfl rfl rfl (OM ht es (l:=ws) (by simp only [ht,hws];simp) 112 (fun q=>!(lA l q).2) (by rw [hws];simp;omega) (fun x _=>R7 ht x aF hl rfl) dN)) ?_)
 cbv
 refine an trivial trivial rfl rfl rfl ?_
 (simp only [ht,gV,←hws,←dN];done)
end Dem
end
section
open Go Dem Go.Proofs
namespace Dem
variable {t:Th}
def bX.aH (_:Th) (q:bX):List D:=[.int .u64 q.id,.int .i64 q.prio]
theorem Lx {x y:bX}:x=y↔x.id=y.id∧x.prio=y.prio:=by cases x;cases y;simp
def ZV (t:Th) (r:List bX×Int):AV:=.dF [SL (t _ fun _=>r.1.map bX.cells),bq r.2]
def ZW (t:Th) (r:List bX×Bool):AV:=.dF [SL (t _ fun _=>r.1.map bX.cells),BL r.2]
theorem R8 (ht:TT t) (id:Int) {l:List (bX)} {es:List (List D)} (aF:es=l.map bX.cells) (f:Nat) (p:bX→Bool) (hl:l.length<9223372036854775807)
 (hf:∀x∈l,FC f [.agg [az x.id,bq x.prio],.ptr 0 0] [.var [az id]] (.ret (BL (p x))) [.var [az id]]) {r:Int} (hr:r=idxOf p l):FC 63 [SL es,.fn f [.ptr 0 0]] [.var [az id]] (.ret (bq r)) [.var [az id]]:=by
 have hel:es.length=l.length:=by rw [aF,List.length_map]
 obtain ⟨J,hJ⟩:∃J:Nat→Nat→Prop,∀n v,J n v↔(v+n=l.length∧∀i<v,∀x,l[i]?=some x→p x=false):=⟨fun n v=>v+n=l.length∧∀i<v,∀x,l[i]?=some x→p x=false,fun _ _=>Iff.rfl⟩
 refine bC ht (aE:=[.var [az id]]) Tryz.func63 (c:=_) rfl rfl (N:=19) rfl (rs:=_) rfl (n:=1) rfl rfl ?_
 cbv
 refine aZ ⟨[0,1,7,8],[],[]⟩ (σ:=Nat) (fun k=>[(8,bq (t _ fun _=>(k:Int)))]) (fun _=>[]) J ?_
 cbv
 refine aA ⟨l.length,0,(hJ _ _).2 ⟨by omega,by intro i hi;simp at hi⟩,by simp only [ht];rfl,?_⟩
 rintro n k hj
 obtain ⟨h2,h3⟩:=(hJ _ _).1 hj
 clear hj
 cbv
 refine ai (fun h=>?_) (fun h=>?_)
 ·simp only [ht,aa,decide_eq_true_eq] at h
  have hk:k<l.length:=by omega
  obtain ⟨x,hx⟩:∃x,l[k]?=some x:=⟨l[k],by simp⟩
  have og:x∈l:=List.mem_of_getElem? hx
  have gY:=hf x og
  obtain ⟨px,hpx⟩:∃b,b=p x:=⟨_,rfl⟩
  rw [←hpx] at gY
  obtain ⟨a,b⟩:=x
  cbv
  refine gS [.int .u64 a,.int .i64 b] ?_ ?_ ?_
  ·simp only [ht,aa];refine ⟨by omega,h,?_⟩;rw [aF];intro r hr;obtain ⟨y,_,rfl⟩:=List.mem_map.1 hr;rfl
  ·simp [ht,aa,aF,hx,bX.cells]
  cbv
  refine dn trivial gY ?_
  cbv
  refine ai (fun hb=>?_) (fun hb=>?_)
  ·cbv
   refine an trivial trivial rfl rfl rfl ?_
   have e:=cN hx (hpx▸hb) h3
   simp only [ht,aa,hr,idxOf,e]
  cbv
  refine aA ⟨n-1,k+1,⟨by omega,(hJ _ _).2 ⟨by omega,?_⟩⟩,?_⟩
  ·intro i hi y hy
   by_cases hik:i<k
   ·exact h3 i hik y hy
   have:i=k:=by omega
   subst this;rw [hx] at hy;cases hy;rw [←hpx];exact hb
  simp only [ht,aa,aC (show k<9223372036854775807 by omega)];rfl
 simp only [ht,aa,decide_eq_false_iff_not] at h
 have hk:¬k<l.length:=by omega
 clear h
 cbv
 refine an trivial trivial rfl rfl rfl ?_
 rw [hr,idxOf,cS]
 intro i y hy
 have:i<l.length:=by
  rcases Nat.lt_or_ge i l.length with h'|h';· exact h'
  simp [List.getElem?_eq_none h'] at hy
 exact h3 i (by omega) y hy
theorem ON (ht:TT t) (id:Int) (x:bX):FC 64 [.agg [az x.id,bq x.prio],.ptr 0 0] [.var [az id]] (.ret (BL (decide (x.id=id)))) [.var [az id]]:=by
 obtain ⟨a,b⟩:=x
 refine bC ht (aE:=[.var [az id]]) Tryz.func64 (c:=_) rfl rfl (N:=8) rfl (rs:=_) rfl (n:=1) rfl rfl ?_
 cbv
 refine an trivial trivial rfl rfl rfl ?_
 simp [ht]
theorem oQ (ht:TT t) (id:Int) {l:List bX} {es:List (List D)} (aF:es=l.map bX.cells) (hl:l.length<1000000000):
 FC 21 [SL es,az id] [] (.ret (kR (t _ fun _=>gF l id))) []:=by
 obtain ⟨r,hr⟩:∃r,r=gF l id:=⟨_,rfl⟩
 refine bC ht (aE:=[]) Tryz.func21 (c:=_) rfl rfl (N:=8) rfl (rs:=_) rfl (n:=0) rfl rfl ?_
 cbv
 refine dn trivial (R8 ht id aF 64 (fun x=>decide (x.id=id)) (by omega) (fun x _=>ON ht id x) (r:=r) hr) ?_
 cbv
 exact an trivial trivial rfl rfl rfl (by simp [ht,hr])
theorem Ek (ht:TT t) (a b:Int):FC 107 [.agg [az a,bq b]] [] (.ret (bY (t _ fun _=>gG ⟨a,b⟩))) []:=by
 refine bC ht (aE:=[]) Tryz.func107 (c:=_) rfl rfl (N:=11) rfl (rs:=_) rfl (n:=0) rfl rfl ?_
 cbv
 iterate 3 refine gI (by simp [ht]) ?_
 refine pI (by simp [ht]) ?_
 refine an trivial trivial rfl rfl rfl ?_
 (simp [ht,gG];done)
theorem El (ht:TT t) (a b c d:Int):FC 108 [.agg [az a,bq b],.agg [az c,bq d]] [] (.ret (bY (t _ fun _=>cV ⟨a,b⟩ ⟨c,d⟩))) []:=by
 refine bC ht (aE:=[]) Tryz.func108 (c:=_) rfl rfl (N:=24) rfl (rs:=_) rfl (n:=0) rfl rfl ?_
 cbv
 iterate 11 refine gI (by simp [ht]) ?_
 refine gI (by simp [ht,ak];intros;simp_all) ?_
 refine pI (by simp [ht]) ?_
 refine an trivial trivial rfl rfl rfl ?_
 (simp [ht,cV];done)
theorem XG {l:List bX} {e x:bX} {k:Nat} (hx:l[k]?=some x) (h:cV e x=true) (h3:∀i<k,∀y,l[i]?=some y→cV e y=false):xV l e=k:=by
 simp only [xV];rw [cN hx h h3]
theorem XH {l:List bX} {e:bX} {k:Nat} (hk:l.length≤k) (h3:∀i<k,∀y,l[i]?=some y→cV e y=false):xV l e=l.length:=by
 simp only [xV]
 rw [cS]
 intro i y hy
 have:i<l.length:=(List.getElem?_eq_some_iff.1 hy).1
 exact h3 i (by omega) y hy
theorem R9 {l:List bX} {e x:bX} {k:Nat} (h3:∀i<k,∀y,l[i]?=some y→cV e y=false) (hx:l[k]?=some x) (h:cV e x=false):∀i<k+1,∀y,l[i]?=some y→cV e y=false:=by
 intro i hi y hy
 rcases Nat.lt_or_ge i k with h1|h1
 ·exact h3 i h1 y hy
 have:i=k:=by omega
 subst this;rw [hx] at hy;cases hy;exact h
theorem XI (ht:TT t) (a b:Int) {l:List bX} {es:List (List D)} (aF:es=l.map bX.cells) (hl:l.length<1000000000):
 FC 115 [.agg [.fn 108 []],SL es,.agg [az a,bq b]] [] (.ret (kR (t _ fun _=>(xV l ⟨a,b⟩:Int)))) []:=by
 refine bC ht (aE:=[]) Tryz.func115 (c:=_) rfl rfl (N:=25) rfl (rs:=_) rfl (n:=0) rfl rfl ?_
 cbv
 have ar:es.length=l.length:=by rw [aF,List.length_map]
 obtain ⟨J0,eg⟩:∃J0:Nat→Int→Prop,∀n i,J0 n i↔(∃k:Nat,i=k∧k+n=l.length∧∀i<k,∀y,l[i]?=some y→cV ⟨a,b⟩ y=false):=⟨fun n v=>match v with|i=>(∃k:Nat,i=k∧k+n=l.length∧∀i<k,∀y,l[i]?=some y→cV ⟨a,b⟩ y=false),fun _ _=>Iff.rfl⟩
 refine aZ ⟨[1,3,5,9,10,11],[],[]⟩ (σ:=Int) (fun v=>[(11,.d (.int .i64 (t _ fun _=>v)))]) (fun v=>[]) J0 ?_
 cbv
 refine aA ⟨l.length,_,(eg _ _).2 ?_,by simp only [ht];rfl,?_⟩
 ·exact ⟨0,rfl,by simp,fun i hi=>by omega⟩
 rintro n i hj
 replace hj:=(eg _ _).1 hj
 obtain ⟨k,rfl,j1,j4⟩:=hj
 cbv
 refine ai (fun h1=>?_) (fun h1=>?_)
 ·simp [ht,aa,ar] at h1
  cbv
  refine dg ht aF (cT:=bX.aH t) (by (simp only [ht,aa];omega)) (by (simp only [ht,aa];omega)) (fun _=>rfl) (fun _=>rfl) (fun x2 iw=>?_)
  simp [ht,aa] at iw
  cbv
  refine ay trivial (El ht _ _ _ _) trivial rfl rfl (fun r3 gH=>?_)
  simp only [ht] at gH
  cbv
  refine ai (fun h4=>?_) (fun h4=>?_)
  ·cbv
   refine an trivial trivial rfl rfl rfl ?_
   (simp only [ht];rw [XG iw (by rw [h4] at gH;exact gH.symm) j4])
  cbv
  refine bf _ (by simp only [ht];rfl) (n-1) ?_ ((eg _ _).2 ?_)
  ·omega
  simp only [aa]
  exact ⟨k+1,aC (by ((try simp only [aa] at*);omega)),by ((try simp only [aa] at*);omega),R9 j4 (by assumption) (by simp_all)⟩
 simp [ht,aa,ar] at h1
 cbv
 refine an trivial trivial rfl rfl rfl ?_
 (simp only [ht];rw [XH (by ((try simp only [aa] at*);omega)) j4];simp [aF];done)
end Dem
end
