/- Parts of a proof, joined. -/
import Derived.Test.YtihohjnkkalgiaaGreatDoorS01
import Derived.Laws.Externs
import Derived.Lib.Strings
set_option linter.all false
set_option maxRecDepth 100000
set_option maxHeartbeats 4000000
section
open Go
namespace Dem
section
variable {P:Program} {T:Nat→Option TI} {G:Nat→Option (List D)} {β:Nat→Nat} {bx:List aA} {w:World} {X:Nat→Prop}
theorem oy {w:World} {blk:Nat} {c:Array Value} {e:TypeId} {f:Nat×Nat} (h:w.heap[blk]?=some (.cells c e f)) {vs:List Value} (hc:∀j v,vs[j]?=some v→w.cell? ⟨blk,0+j,none⟩=some v):
 ∃rest,c.toList=vs++rest:=by
 refine ⟨c.toList.drop vs.length,?_⟩
 have:vs=c.toList.take vs.length:=by
  apply List.ext_getElem?
  intro j
  rw [List.getElem?_take]
  split
  ·rename_i hj
   have h1:=hc j vs[j] (by simp [hj])
   simp only [World.cell?,h] at h1
   simp only [hj,List.getElem?_eq_getElem]
   simpa using h1.symm
  rename_i hj;simp;omega
 conv=>lhs;rw [←List.take_append_drop vs.length c.toList]
 rw [←this]
theorem Ok {es:List (List D)} {i:Nat} (h:i<es.length):es.getD i []∈es:=by
 simp [List.getD_eq_getElem?_getD,h]
theorem Fs (hT:kD P T) (cx:cP G β bx w X) {t:Nat} {ti:TI} (ht:T t=some ti) {a x:AV} {ua ux:Value} (ha:ak β bx w (bp β bx w X) a ua) (hx:ak β bx w (bp β bx w X) x ux)
 {c:Prop} {v:AV} {b:Option (List aA)} (hr:sR ti a x bx=some ⟨c,v,b⟩) (hc:c):
 v=.any∧∃aU w',b=some aU∧(Instr.storeAt t ua ux).run P w=.ok () w'∧Ext β bx w β aU w'∧cP G β aU w' X:=by
 have ht':=hT.ti t ti ht
 unfold sR at hr
 split at hr
 ·simp at hr
 rename_i vs hvs
 cases hn:Nat.beq vs.length ti.size with
 |false=>simp [hn] at hr
 |true=>
 have hn':=Nat.eq_of_beq_eq_true hn
 simp only [hn,cond_true] at hr
 obtain ⟨us,hcells,RJ,hsc⟩:=nL hvs hx
 have hul:=an.length RJ
 split at hr
 ·rename_i b' off
  simp only [ak] at ha
  obtain ⟨rfl,hb⟩:=ha
  split at hr
  ·rename_i cs rG
   cases hle:Nat.ble (off+vs.length) cs.length with
   |false=>simp [hle] at hr
   |true=>
   have hle':=Nat.le_of_ble_eq_true hle
   simp only [hle,cond_true,osI,R.mk.injEq] at hr
   obtain ⟨_,rfl,rfl⟩:=hr
   obtain ⟨ca,e,h1,h2⟩:=cx.box _ _ rG
   have RL:=an.length h2
   have hrun:=uo (P:=P) ht' h1 hcells hsc (by omega) (off:=off) (by simp at RL;omega)
   refine ⟨rfl,_,_,rfl,by simpa [Instr.storeAt,Instr.sureAddr] using hrun,?_,?_⟩
   ·exact l6 rG rfl h1 (by simp [dA]) rfl
   have ex:=l6 (B':=.var (eN cs off vs)) (c':=⟨bf ca.toList off us⟩) rG rfl h1 (by simp [dA]) rfl
   refine sV cx rG rfl h1 (by simp [dA]) rfl ⟨_,e,dY h1,?_⟩
   exact an.mono (ex.eX X) _ _ (an.eN off h2 RJ)
  simp at hr
 ·rename_i b' sz i j
  simp only [ak] at ha
  obtain ⟨rfl,hb⟩:=ha
  split at hr
  ·rename_i ds hds
   split at hr
   ·rename_i s es rG
    simp only [osI,R.mk.injEq] at hr
    obtain ⟨rfl,rfl,rfl⟩:=hr
    obtain ⟨rfl,hi,hj⟩:=hc
    obtain ⟨e1,c1,r1⟩:=vY vs bx ds us cx hds RJ
    rcases c1.box _ _ rG with rfl|⟨ca,e,h1,h2⟩
    ·simp at hi
    have xw:=ay.lens _ _ h2
    obtain ⟨Cw,g1,g2,g3⟩:=kf (β:=β) (bx:=eE bx vs) es 0 h2
    obtain ⟨rest,pg⟩:=oy h1 g2
    have Ru:us.length=ds.length:=by simpa using an.length r1
    have hrow:(es.getD i []).length=s:=xw _ (Ok hi)
    have hle:i*s+j+us.length≤Cw.length:=by
     rw [g1,Ru]
     have:(i+1)*s≤es.length*s:=Nat.mul_le_mul_right _ hi
     rw [Nat.add_mul] at this;omega
    have hsize:ca.size=Cw.length+rest.length:=by
     have:=congrArg List.length pg;simpa using this
    have cG:(aA.row s es).live=true:=by cases es<;>simp_all [aA.live]
    have hrun:=uo (P:=P) ht' h1 hcells hsc (by omega) (off:=i*s+j) (by omega)
    have hne:es.set i (be (es.getD i []) j ds)≠[]:=by cases es<;>simp_all
    have ex:=l6 (B':=.row s (es.set i (be (es.getD i []) j ds))) (c':=⟨bf ca.toList (i*s+j) us⟩) rG cG h1 (by simp [dA]) rfl
    refine ⟨rfl,_,_,rfl,by simpa [Instr.storeAt,Instr.sureAddr] using hrun,e1.trans ex,?_⟩
    refine sV c1 rG cG h1 (by simp [dA]) rfl (.inr ⟨_,e,dY h1,?_⟩)
    refine mY (β:=β) (bx:=(eE bx vs).set b' (.row s (es.set i (be (es.getD i []) j ds)))) _ _ (bf Cw (i*s+j) us) ?_ ?_ ?_
    ·intro r hr
     rcases List.mem_or_eq_of_mem_set hr with hr|rfl
     ·exact xw r hr
     rw [l8];exact hrow
    ·intro k u hk
     simp only [World.cell?,dY h1]
     have:(bf ca.toList (i*s+j) us)[k]?=some u:=by
      rw [pg,l7 _ _ _ _ hle,List.getElem?_append_left]
      ·exact hk
      rcases Nat.lt_or_ge k (bf Cw (i*s+j) us).length with h|h
      ·exact h
      simp [List.getElem?_eq_none h] at hk
     simpa using this
    rw [pV es i j ds xw hi hj,pU]
    exact an.mono (ex.eX X) _ _ (an.eN _ g3 r1)
   simp at hr
  simp at hr
 simp at hr
end
end Dem
end
section
open Go
namespace Dem
section
variable {P:Program} {T:Nat→Option TI} {G:Nat→Option (List D)} {β:Nat→Nat} {bx:List aA} {w:World} {X:Nat→Prop}
theorem zG {ok:Nat→Prop} (v:Value):ak β bx w ok (Ix v) v:=by
 unfold Ix
 split<;>simp only [ak,aL,KC.val]
 exact ⟨none,rfl,.inl trv⟩
theorem Cx {ok:Nat→Prop}:∀vs:List Value,an β bx w ok (vs.map Ix) vs
 |[]=>by simp [an]
 |v::vs=>by simp only [List.map_cons,an];exact ⟨v,vs,rfl,zG v,Cx vs⟩
theorem uv {ok:Nat→Prop} (v:Value):ak β bx w ok (RC v) v:=by
 unfold RC
 split
 ·rename_i cs
  simp only [ak]
  exact ⟨cs.toList,rfl,Cx _⟩
 exact zG v
theorem xx (cx:cP G β bx w X) (t:Nat) {x:AV} {u:Value} {cs:List AV} (hx:x.cells?=some cs) (h:ak β bx w (bp β bx w X) x u):
 ∃β' w',(newVar t u).run P w=.ok ⟨β' bx.length,0,none⟩ w'∧Ext β bx w β' (bx++[.var cs]) w'∧cP G β' (bx++[.var cs]) w' X:=by
 obtain ⟨vs,h1,h2,h3⟩:=nL hx h
 refine ⟨lg β bx.length w.heap.size,{w with heap:=w.heap.push (.cells ⟨vs⟩ t)},?_,fZ _ _,kK cx _ _ ?_⟩
 ·simp [newVar,newRow,newObj,Sem.run,h1,bu]
 refine ⟨⟨vs⟩,t,jv _ _,?_⟩
 exact an.mono ((fZ (β:=β) (bx:=bx) (w:=w) (.cells ⟨vs⟩ t) (.var cs)).eX X) _ _ h2
theorem Fu {t:Nat} {ti:TI} (ht:pF P t=some ti) {f o ft:Nat} (ho:zo ti.kd f=some (o,ft)) {tf:TI} (hft:pF P ft=some tf) (hs:tf.size≠0) (blk off:Nat):
 (Instr.fieldAt t (.pointer (some ⟨blk,off,none⟩)) f).run P w=.ok (.pointer (some ⟨blk,off+o,none⟩)) w:=by
 obtain ⟨i,d,h1,h2,h3,h4,h5,h6⟩:=aJ ht
 obtain ⟨fi,fd,g1,g2,g3,g4,g5,g6⟩:=aJ hft
 rw [h5] at ho
 cases d<;>simp [cY,zo] at ho
 rename_i fs
 obtain ⟨fl,hfl,rfl,rfl⟩:=ho
 have hsz:fi.size≠0:=by rw [←g3];exact hs
 simp [Instr.fieldAt,aV h2,hfl,Instr.sureAddr,fieldPlace,bX g1,hsz,fM]
theorem nM {t:Nat} {ti:TI} (ht:pF P t=some ti) {cs:List AV} {v:AV} {vs:List Value} {ok:Nat→Prop} {off:Nat}
 (hs:cR ti.kd.isAgg ti.size (cs.drop off)=some v) (hr:an β bx w ok cs vs):
 ∃u,(part t ⟨vs⟩ off).run P w=.ok u w∧ak β bx w ok v u:=by
 obtain ⟨i,d,h1,h2,h3,h4,h5,h6⟩:=aJ ht
 have hr':=an.drop off hr
 unfold cR at hs
 simp only [part,Sem.run_bind,Ct h2,Result.andThen_ok,h5] at hs ⊢
 cases hk:(cY d).isAgg with
 |true=>
  simp only [hk,cond_true] at hs
  cases hle:Nat.ble ti.size (cs.drop off).length with
  |false=>rw [hle] at hs;simp at hs
  |true=>
   simp only [hle,cond_true,osI] at hs
   subst hs
   simp only [if_true,Sem.run_bind,bX h1,Result.andThen_ok]
   refine ⟨_,rfl,?_⟩
   simp only [ak]
   refine ⟨(vs.drop off).take ti.size,?_,an.take _ hr'⟩
   simp [h3,List.extract_eq_take_drop]
 |false=>
  simp only [hk,cond_false] at hs
  cases hc:cs.drop off with
  |nil=>simp [hc] at hs
  |cons c cs'=>
   simp [hc] at hs;subst hs
   rw [hc] at hr'
   simp only [an] at hr'
   obtain ⟨u,us,hd,g1,_⟩:=hr'
   have:vs[off]?=some u:=by
    have:=congrArg (fun l=>l[0]?) hd
    simpa using this
   simp [this]
   exact g1
theorem Ol (ok:Nat→Prop) {op:BinOp} {k:IntKind} {x y:Int} {c:Prop} {d:D} (h:RD op k x y=some (c,d)) (hc:c) (t:Nat):
 ∃u,(Go.binOp op t (.int k x) (.int k y)).run P w=.ok u w∧aL w ok d u:=by
 cases op<;>simp only [RD,osI,Prod.mk.injEq,reduceCtorEq] at h<;>obtain ⟨rfl,rfl⟩:=h<;>
  simp [Go.binOp,Op.intArith,Op.intDiv,Op.intBits,Op.intCmp,aL,hc]<;>first|rfl|(simp [bne];done)|skip
theorem toList_mk (s:List UInt8):(⟨s.toArray⟩:ByteArray).toList=s:=by rw [ByteArray.toList_eq]
theorem RM (x y:List UInt8):(x==y)=decide (x=y):=by
 cases h:(x==y)
 ·simp at h;simp [h]
 simp at h;simp [h]
theorem Om (ok:Nat→Prop) {op:BinOp} {x y:List UInt8} {c:Prop} {d:D} (h:RE op x y=some (c,d)) (hc:c) (t:Nat):
 ∃u,(Go.binOp op t (.string ⟨x.toArray⟩) (.string ⟨y.toArray⟩)).run P w=.ok u w∧aL w ok d u:=by
 cases op<;>simp only [RE,osI,Prod.mk.injEq,reduceCtorEq] at h<;>obtain ⟨rfl,rfl⟩:=h<;>
  simp only [Go.binOp,Op.stringOp,toList_mk]
 ·have:¬(((⟨x.toArray⟩:ByteArray).size+(⟨y.toArray⟩:ByteArray).size:Nat):Int)>IntKind.i64.max:=by
   have h1:(⟨x.toArray⟩:ByteArray).size=x.length:=by simp [ByteArray.size]
   have h2:(⟨y.toArray⟩:ByteArray).size=y.length:=by simp [ByteArray.size]
   have h3:IntKind.i64.max=9223372036854775807:=by decide
   rw [h1,h2,h3];omega
  rw [if_neg this]
  refine ⟨_,rfl,?_⟩
  simp only [aL]
  congr 1
 all_goals exact ⟨_,rfl,by simp [aL,RM]⟩
theorem On {op:BinOp} {x y:AV} {ux uy:Value} {c:Prop} {d:D} {ok:Nat→Prop} (h:N9 op x y=some (c,d)) (hc:c) (hx:ak β bx w ok x ux) (hy:ak β bx w ok y uy) (t:Nat):
 ∃u,(Go.binOp op t ux uy).run P w=.ok u w∧aL w ok d u∧(∀a b:Operand,(eqGuard op t a b ux uy).run P w=.ok () w):=by
 have zH:∀(k:IntKind) (n:Int) (v:Value) (a b:Operand),(eqGuard op t a b (.int k n) v).run P w=.ok () w:=by
  intro k n v a b;simp only [eqGuard];split<;>simp
 have Oo:∀(s:ByteArray) (v:Value) (a b:Operand),(eqGuard op t a b (.string s) v).run P w=.ok () w:=by
  intro s v a b;simp only [eqGuard];split<;>simp
 unfold N9 at h
 split at h
 ·simp only [ak,aL] at hx hy;subst hx;subst hy
  simp only [osI,Prod.mk.injEq] at h;obtain ⟨rfl,rfl⟩:=h
  have hn:=Int.not_lt.2 hc
  exact ⟨_,by simp only [Go.binOp,Op.shift,if_neg hn];rfl,by simp only [aL],zH _ _ _⟩
 ·simp only [ak,aL] at hx hy;subst hx;subst hy
  simp only [osI,Prod.mk.injEq] at h;obtain ⟨rfl,rfl⟩:=h
  have hn:=Int.not_lt.2 hc
  exact ⟨_,by simp only [Go.binOp,Op.shift,if_neg hn];rfl,by simp only [aL],zH _ _ _⟩
 ·rename_i k x k' y _ _
  simp only [ak,aL] at hx hy;subst hx;subst hy
  cases hk:(k==k') with
  |false=>simp [hk] at h
  |true=>
   simp only [hk,cond_true] at h
   have:k=k':=by simpa using hk
   subst this
   obtain ⟨u,h1,h2⟩:=Ol (P:=P) (w:=w) ok h hc t
   exact ⟨u,h1,h2,zH _ _ _⟩
 ·rename_i x y _ _
  simp only [ak,aL] at hx hy;subst hx;subst hy
  obtain ⟨u,h1,h2⟩:=Om (P:=P) (w:=w) ok h hc t
  exact ⟨u,h1,h2,Oo _ _⟩
 simp at h
theorem RN {op:UnOp} {x:AV} {ux:Value} {d:D} {ok:Nat→Prop} (h:Wg op x=some d) (hx:ak β bx w ok x ux):
 ∃u,(Op.unary op ux).run P w=.ok u w∧aL w ok d u:=by
 unfold Wg at h
 split at h<;>(try (simp at h;done))<;>simp only [ak,aL] at hx<;>subst hx<;>simp only [osI] at h<;>subst h
 ·exact ⟨_,rfl,by simp [aL]⟩
 ·exact ⟨_,rfl,by simp [aL]⟩
 exact ⟨_,rfl,by simp [aL]⟩
end
end Dem
end
section
open Go
namespace Dem
section
variable {P:Program} {T:Nat→Option TI} {G:Nat→Option (List D)} {β:Nat→Nat} {bx:List aA} {w:World} {X:Nat→Prop}
theorem ay.drop {ok:Nat→Prop} {blk sz:Nat}:∀(n:Nat) (es:List (List D)) (off:Nat),ay w ok blk sz es off→ay w ok blk sz (es.drop n) (off+n*sz)
 |0,es,off,h=>by simpa using h
 |n+1,[],off,h=>by simp [ay]
 |n+1,r::rs,off,h=>by
  simp only [ay] at h
  have:=ay.drop n rs (off+sz) h.2.2
  simpa [Nat.add_mul,show off+sz+n*sz=off+(n*sz+sz) by omega] using this
theorem ay.take {ok:Nat→Prop} {blk sz:Nat}:∀(n:Nat) (es:List (List D)) (off:Nat),ay w ok blk sz es off→ay w ok blk sz (es.take n) off
 |0,es,off,h=>by simp [ay]
 |n+1,[],off,h=>by simp [ay]
 |n+1,r::rs,off,h=>by
  simp only [ay] at h
  simp only [List.take_succ_cons,ay]
  exact ⟨h.1,h.2.1,ay.take n rs _ h.2.2⟩
def BV:Option Int→Option Value→Prop
 |none,none=>True
 |some z,some (.int _ z')=>z'=z
 |_,_=>False
theorem oz {ev:Operand→AV} {ρ:Operand→Value} {x:Option Operand} {l:Option Int} {ok:Nat→Prop} (h:BM ev x=some l) (hr:∀y,x=some y→ak β bx w ok (ev y) (ρ y)):BV l (x.map ρ):=by
 cases x with
 |none=>simp [BM] at h;subst h;trivial
 |some y=>
  have hy:=hr y rfl
  simp only [BM] at h
  split at h
  ·rename_i k n he
   simp at h;subst h
   rw [he] at hy
   simp only [ak,aL] at hy
   simp [BV,hy]
  simp at h
theorem yS {α:Type} (l:List α) (lo hi:Option Int):iD l lo hi=(l.drop (aW lo)).take (aS l.length hi-aW lo):=by
 cases lo<;>cases hi<;>simp [iD,aW,aS]
 rw [List.take_of_length_le];simp
theorem mZ {len:Nat} {lo hi:Option Int} (h:bS len lo hi):aW lo≤aS len hi∧aS len hi≤len:=by
 cases lo<;>cases hi<;>simp [bS,aW,aS] at*<;>omega
theorem iN {x:Value} {z:Int} {y:Nat} {code:BoundsCode} (hx:BV (some z) (some x)) (h0:0≤z) (h1:z≤y):(Instr.sliceBound x y code).run P w=.ok z.toNat w:=by
 cases x<;>simp [BV] at hx
 subst hx
 simp [Instr.sliceBound,asIntOf,h0,h1]
theorem oA {TY:Bool} {len cap:Nat} {lo hi:Option Int} {vl vh:Option Value} (hl:BV lo vl) (hh:BV hi vh) (hc:bS len lo hi) (hcap:len≤cap):
 (Instr.sliceBounds TY len cap vl vh none).run P w=.ok (aW lo,aS len hi,cap) w:=by
 have hle:=mZ hc
 have low:∀(x:Value) (z:Int),BV (some z) (some x)→lo=some z→(Instr.sliceBound x (aS len hi) .sliceB).run P w=.ok z.toNat w:=by
  intro x z hx he
  subst he
  exact iN hx (by cases hi<;>simp [bS] at hc<;>omega) (by simp [aW] at hle;omega)
 cases hi with
 |none=>
  cases vh with
  |some _=>simp [BV] at hh
  |none=>
  cases lo with
  |none=>cases vl<;>simp [BV] at hl;simp [Instr.sliceBounds,aW,aS]
  |some z=>
   cases vl with
   |none=>simp [BV] at hl
   |some x=>
    have:=low x z hl rfl
    simp only [aS] at this
    simp [Instr.sliceBounds,this,aW,aS]
 |some h=>
  cases vh with
  |none=>simp [BV] at hh
  |some xh=>
  have hb:=iN (P:=P) (w:=w) (y:=cap) (code:=if TY then .sliceAcap else .sliceAlen) hh (by cases lo<;>simp [bS] at hc<;>omega) (by cases lo<;>simp [bS] at hc<;>omega)
  cases lo with
  |none=>cases vl<;>simp [BV] at hl;simp [Instr.sliceBounds,aW,aS,hb]
  |some z=>
   cases vl with
   |none=>simp [BV] at hl
   |some x=>
    have:=low x z hl rfl
    simp only [aS] at this
    simp [Instr.sliceBounds,this,aW,aS,hb]
theorem Fv {len cap:Nat} {lo:Option Int} {h:Int} {vl:Option Value} {xh xm:Value} (hl:BV lo vl) (hh:BV (some h) (some xh)) (hm:BV (some h) (some xm)) (hc:bS len lo (some h)) (hcap:len≤cap):
 (Instr.sliceBounds true len cap vl (some xh) (some xm)).run P w=.ok (aW lo,h.toNat,h.toNat) w:=by
 have hle:=mZ hc
 have h0:0≤h∧h≤len:=by cases lo<;>simp [bS] at hc<;>omega
 unfold Instr.sliceBounds
 simp only [Sem.run_bind]
 rw [iN hm h0.1 (by omega)]
 simp only [Result.andThen_ok]
 rw [iN hh h0.1 (by omega)]
 simp only [Result.andThen_ok]
 cases lo with
 |none=>cases vl<;>simp [BV] at hl;simp [aW]
 |some z=>
  cases vl with
  |none=>simp [BV] at hl
  |some x=>
   have hz:0≤z∧z≤h:=by simp [bS] at hc;omega
   simp only [Sem.run_bind]
   rw [iN hl hz.1 (by omega)]
   simp [aW]
theorem Fw {ok:Nat→Prop} {base:Option Addr} {es:List (List D)} {lo hi:Option Int} {m size:Nat} (hc:bS es.length lo hi) (hm:aS es.length hi≤m)
 (hs:∀r∈es,r.length=size) (h:es=[]∨∃blk off sz,base=some ⟨blk,off,none⟩∧ok blk∧ay w ok blk sz es off):
 (iD es lo hi).length=aS es.length hi-aW lo∧
 (iD es lo hi=[]∨∃blk off sz,(if m=aW lo then base else base.map (·.add (aW lo*size)))=some ⟨blk,off,none⟩∧ok blk∧ay w ok blk sz (iD es lo hi) off):=by
 have hle:=mZ hc
 have hlen:(iD es lo hi).length=aS es.length hi-aW lo:=by rw [yS];simp;omega
 refine ⟨hlen,?_⟩
 by_cases WH:iD es lo hi=[]
 ·exact .inl WH
 refine .inr ?_
 have hpos:0<(iD es lo hi).length:=List.length_pos_iff.2 WH
 have hne:es≠[]:=by rintro rfl;simp [yS] at hpos
 rcases h with h|⟨blk,off,sz,rfl,h1,h2⟩
 ·exact absurd h hne
 have hsz:sz=size:=by
  cases es with
  |nil=>exact absurd rfl hne
  |cons r rs=>simp only [ay] at h2;rw [←h2.1];exact hs r (by simp)
 subst hsz
 rw [if_neg (by omega)]
 refine ⟨blk,off+aW lo*sz,sz,by simp [fM],h1,?_⟩
 rw [yS]
 exact ay.take _ _ _ (ay.drop _ _ _ h2)
theorem Oq {x:AV} (h:cM [x]=true):x.cC bx=bx:=by cases x<;>simp_all [AV.cC,cM]
theorem sX {ok:Nat→Prop} {blk sz:Nat}:∀(n:Nat) (ds:List D) (off:Nat),n*sz≤ds.length→aY w ok blk ds off→ay w ok blk sz (chunk sz n ds) off∧(chunk sz n ds).length=n
 |0,ds,off,_,_=>by simp [chunk,ay]
 |n+1,ds,off,hl,h=>by
  rw [Nat.add_mul] at hl
  obtain ⟨h1,h2⟩:=sX (sz:=sz) n (ds.drop sz) (off+sz) (by simp;omega) (aY.drop sz ds off h)
  simp only [chunk,ay,List.length_cons,h2,and_true]
  exact ⟨by simp;omega,aY.take _ _ _ h,h1⟩
theorem Fx (hT:kD P T) (cx:cP G β bx w X) {t:Nat} {x:AV} {ux:Value} {lo hi mx:Option Int} {vl vh vm:Option Value} (hx:ak β bx w (bp β bx w X) x ux)
 (hl:BV lo vl) (hh:BV hi vh) (hm:BV mx vm) {c:Prop} {v:AV} {b:Option (List aA)} (hr:pL T t x lo hi mx bx=some ⟨c,v,b⟩) (hc:c):
 ∃u,(Instr.sliceAt t ux vl vh vm).run P w=.ok u w∧Ext β bx w β (dN bx b) w∧cP G β (dN bx b) w X∧
  ak β (dN bx b) w (bp β (dN bx b) w X) v u:=by
 unfold pL at hr
 cases ht:T t with
 |none=>simp [ht] at hr
 |some ti=>
 have ht':=hT.ti t ti ht
 obtain ⟨i,d,h1,h2,h3,h4,h5,h6⟩:=aJ ht'
 simp only [ht] at hr
 have K5:dN bx (bif cM [x] then none else some (x.cC bx))=x.cC bx:=by
  cases ho:cM [x] with
  |true=>simp [Oq ho,dN]
  |false=>rfl
 cases hk:ti.kd with
 |str=>
  rw [hk] at hr
  rw [hk] at h5
  cases d<;>simp [cY] at h5
  cases mx with
  |some _=>cases x<;>simp at hr
  |none=>
  cases x with
  |d y=>
   cases y with
   |str s=>
    simp only [R.when,osI,R.mk.injEq] at hr
    obtain ⟨rfl,rfl,rfl⟩:=hr
    simp only [ak,aL] at hx
    subst hx
    have hmn:vm=none:=by cases vm<;>simp [BV] at hm;rfl
    subst hmn
    have hb:=oA (P:=P) (w:=w) (TY:=false) hl hh hc (Nat.le_refl _)
    refine ⟨.string ((⟨s.toArray⟩:ByteArray).extract (aW lo) (aS s.length hi)),?_,Ext.refl _ _ _,cx,?_⟩
    ·have hsz:(⟨s.toArray⟩:ByteArray).size=s.length:=by simp [ByteArray.size]
     simp only [Instr.sliceAt,Sem.run_bind,aV h2,Result.andThen_ok,Instr.slice,hsz]
     simp [hb]
    simp only [ak,aL,yS]
    rw [Lib.extract_eq]
   |_=>simp at hr
  |_=>simp at hr
 |slice e=>
  rw [hk] at hr
  rw [hk] at h5
  cases d<;>simp [cY] at h5
  subst h5
  cases mx with
  |none=>
   have ph:(match x.rows bx,T e with
    |some es,some te=>some (R.mk (bS es.length lo hi∧∀r∈es,r.length=te.size) (.d (.sl (iD es lo hi))) (bif cM [x] then none else some (x.cC bx)))
    |_,_=>none)=some ⟨c,v,b⟩:=by
    cases x<;>first|exact hr|(rename_i y;cases y<;>exact hr)
   clear hr
   split at ph
   ·rename_i es te aE hte
    simp only [osI,R.mk.injEq] at ph
    obtain ⟨rfl,rfl,rfl⟩:=ph
    obtain ⟨BO,BP⟩:=hc
    obtain ⟨ei,ed,g1,g2,g3,g4,g5,g6⟩:=aJ (hT.ti _ _ hte)
    obtain ⟨k1,k2,base,cap,rfl,k3,k4⟩:=kg cx aE hx
    rw [K5]
    have hmn:vm=none:=by cases vm<;>simp [BV] at hm;rfl
    subst hmn
    have hb:=oA (P:=P) (w:=w) (TY:=true) hl hh BO k3
    have hle:=mZ BO
    obtain ⟨j1,j2⟩:=Fw (w:=w) (m:=cap) BO (by omega) (fun r hr=>by rw [BP r hr]) k4
    refine ⟨.slice (if cap=aW lo then base else base.map (·.add (aW lo*te.size))) (aS es.length hi-aW lo) (cap-aW lo),?_,k1,k2,?_⟩
    ·simp [Instr.sliceAt,aV h2,Instr.slice,hb,bX g1,g3]
    simp only [ak,aL]
    exact ⟨_,_,by rw [j1],by rw [j1];omega,j2⟩
   simp at ph
  |some m=>
   have ph:(match x.rows bx,hi,T e with
    |some es,some h,some te=>some (R.mk ((bS es.length lo (some h)∧m=h)∧∀r∈es,r.length=te.size) (.cl (iD es lo (some h))) (bif cM [x] then none else some (x.cC bx)))
    |_,_,_=>none)=some ⟨c,v,b⟩:=by
    cases x<;>first|exact hr|(rename_i y;cases y<;>exact hr)
   clear hr
   split at ph
   ·rename_i es h te aE hte
    simp only [osI,R.mk.injEq] at ph
    obtain ⟨rfl,rfl,rfl⟩:=ph
    obtain ⟨⟨BO,rfl⟩,BP⟩:=hc
    obtain ⟨ei,ed,g1,g2,g3,g4,g5,g6⟩:=aJ (hT.ti _ _ hte)
    obtain ⟨k1,k2,base,cap,rfl,k3,k4⟩:=kg cx aE hx
    rw [K5]
    cases vm with
    |none=>simp [BV] at hm
    |some xm=>
    cases vh with
    |none=>simp [BV] at hh
    |some xh=>
    have hb:=Fv (P:=P) (w:=w) hl hh hm BO k3
    have hle:=mZ BO
    obtain ⟨j1,j2⟩:=Fw (w:=w) (m:=m.toNat) BO (by simp [aS]) (fun r hr=>by rw [BP r hr]) k4
    refine ⟨.slice (if m.toNat=aW lo then base else base.map (·.add (aW lo*te.size))) (m.toNat-aW lo) (m.toNat-aW lo),?_,k1,k2,?_⟩
    ·simp [Instr.sliceAt,aV h2,Instr.slice,hb,bX g1,g3]
    simp only [ak]
    refine ⟨_,?_,j2⟩
    rw [j1];rfl
   simp at ph
 |array n e=>
  rw [hk] at hr
  rw [hk] at h5
  cases d<;>simp [cY] at h5
  obtain ⟨rfl,rfl⟩:=h5
  cases mx with
  |some _=>cases x<;>simp at hr
  |none=>
  cases x with
  |ep ds=>
   cases lo with
   |some _=>simp at hr
   |none=>
   cases hi with
   |some _=>simp at hr
   |none=>
   cases hte:T e with
   |none=>simp [hte] at hr
   |some te=>
    simp only [hte,R.when,osI,R.mk.injEq] at hr
    obtain ⟨rfl,rfl,rfl⟩:=hr
    obtain ⟨ei,ed,g1,g2,g3,g4,g5,g6⟩:=aJ (hT.ti _ _ hte)
    simp only [ak] at hx
    obtain ⟨blk,off,rfl,k1,k2⟩:=hx
    have e1:vl=none:=by cases vl<;>simp [BV] at hl;rfl
    have e2:vh=none:=by cases vh<;>simp [BV] at hh;rfl
    have e3:vm=none:=by cases vm<;>simp [BV] at hm;rfl
    subst e1;subst e2;subst e3
    obtain ⟨j1,j2⟩:=sX (w:=w) _ ds off hc k2
    refine ⟨.slice (some ⟨blk,off,none⟩) (chunk te.size n ds).length (chunk te.size n ds).length,?_,Ext.refl _ _ _,cx,?_⟩
    ·simp [Instr.sliceAt,aV h2,Instr.sureAddr,Instr.sliceBounds,bX g1,j2,fM]
    simp only [ak,aL]
    exact ⟨_,_,rfl,Nat.le_refl _,.inr ⟨blk,off,_,rfl,k1,j1⟩⟩
  |ptr bb off=>
   cases off with
   |succ _=>simp at hr
   |zero=>
   cases lo with
   |some _=>simp at hr
   |none=>
   cases hi with
   |some _=>simp at hr
   |none=>
   cases hte:T e with
   |none=>simp [hte] at hr
   |some te=>
   cases hb:bx[bb]? with
   |none=>simp [hte,hb] at hr
   |some B=>
   cases B with
   |var cs=>
    simp only [hte,hb] at hr
    cases hd:iV [] cs with
    |none=>simp [hd] at hr
    |some ds=>
    simp only [hd,osI,R.mk.injEq] at hr
    obtain ⟨rfl,rfl,rfl⟩:=hr
    obtain ⟨ei,ed,g1,g2,g3,g4,g5,g6⟩:=aJ (hT.ti _ _ hte)
    simp only [ak] at hx
    obtain ⟨rfl,_⟩:=hx
    have e1:vl=none:=by cases vl<;>simp [BV] at hl;rfl
    have e2:vh=none:=by cases vh<;>simp [BV] at hh;rfl
    have e3:vm=none:=by cases vm<;>simp [BV] at hm;rfl
    subst e1;subst e2;subst e3
    obtain ⟨cc,ce,hp,hcs⟩:=cx.box bb _ hb
    have ex:Ext β bx w β (bx.set bb .dead) w:=iF hb rfl rfl
    have mO:cP G β (bx.set bb .dead) w X:=ke cx hb rfl rfl (by simp [dz])
    have hok:bp β (bx.set bb .dead) w X (β bb):=by
     refine ⟨fh hp,cx.apart bb _ hb rfl,?_⟩
     intro i b' h3 h4 he
     rcases aP h3 with ⟨rfl,rfl,_⟩|⟨h5,h6⟩
     ·simp [aA.live] at h4
     exact h5 (cx.inj i bb b' _ h6 hb h4 rfl he)
    have hrow:aY w (bp β bx w X) (β bb) ds 0:=by
     refine DT ds 0 cc.toList ?_ (rH hd hcs)
     intro j v hj
     simp only [World.cell?,hp]
     simpa using hj
    obtain ⟨j1,j2⟩:=sX (w:=w) _ ds 0 hc (aY.mono (ex.keeps X) _ (fun _=>rfl) _ _ hrow)
    refine ⟨.slice (some ⟨β bb,0,none⟩) (chunk te.size n ds).length (chunk te.size n ds).length,?_,ex,mO,?_⟩
    ·simp [Instr.sliceAt,aV h2,Instr.sureAddr,Instr.sliceBounds,bX g1,j2,fM]
    simp only [ak,aL]
    exact ⟨_,_,rfl,Nat.le_refl _,.inr ⟨_,0,_,rfl,hok,j1⟩⟩
   |_=>simp [hte,hb] at hr
  |_=>simp at hr
 |_=>rw [hk] at hr;cases mx<;>cases x<;>simp at hr
end
end Dem
end
section
open Go
namespace Dem
section
variable {P:Program} {T:Nat→Option TI} {G:Nat→Option (List D)} {β:Nat→Nat} {bx:List aA} {w:World} {X:Nat→Prop}
theorem uw (vs:List Value):∀(k:Nat) (cs:Array Value) (off:Nat),(vs.zipIdx k).foldl (fun cs (p:Value×Nat)=>cs.setIfInBounds (off+p.2) p.1) cs=⟨bf cs.toList (off+k) vs⟩:=by
 induction vs with
 |nil=>intro k cs off;cases h:cs.toList<;>simp [bf]<;>(have:cs=⟨cs.toList⟩:=rfl;rw [this,h])
 |cons v vs ih=>
  intro k cs off
  simp only [List.zipIdx_cons,List.foldl_cons]
  rw [ih,ot]
  simp [show off+(k+1)=off+k+1 by omega]
def c8 (β:Nat→Nat) (bx:List aA) (w:World) (ok:Nat→Prop):List (Nat×AV)→List (Nat×Value)→Prop
 |[],vs=>vs=[]
 |(i,x)::r,vs=>∃u us,vs=(i,u)::us∧ak β bx w ok x u∧c8 β bx w ok r us
theorem zI {ok:Nat→Prop} {sizes:Nat→Option (Nat×Nat)}:∀(parts:List (Nat×AV)) (vs:List (Nat×Value)) (cs:List AV) (cv:List Value) (out:List AV),c8 β bx w ok parts vs→
 an β bx w ok cs cv→Co sizes cs parts=some out→∃ov,Instr.fill sizes ⟨cv⟩ vs=some ⟨ov⟩∧an β bx w ok out ov
 |[],vs,cs,cv,out,hp,hc,ho=>by
  simp only [c8] at hp;subst hp
  simp only [Co,osI] at ho;subst ho
  exact ⟨cv,by simp [Instr.fill],hc⟩
 |(i,x)::r,vs,cs,cv,out,hp,hc,ho=>by
  simp only [c8] at hp
  obtain ⟨u,us,rfl,h1,h2⟩:=hp
  simp only [Co] at ho
  split at ho
  ·rename_i off size xs hs hx
   obtain ⟨ws,g1,g2,g3⟩:=nL hx h1
   have hl:=an.length g2
   have RL:=an.length hc
   cases hb:(Nat.beq xs.length size&&Nat.ble (off+xs.length) cs.length) with
   |false=>simp [hb] at ho
   |true=>
    simp only [hb,cond_true] at ho
    simp only [Bool.and_eq_true] at hb
    have b1:=Nat.eq_of_beq_eq_true hb.1
    have b2:=Nat.le_of_ble_eq_true hb.2
    obtain ⟨ov,k1,k2⟩:=zI r us (eN cs off xs) (bf cv off ws) out h2 (an.eN off hc g2) ho
    refine ⟨ov,?_,k2⟩
    simp only [Instr.fill,hs,g1]
    have e1:¬((ws.toArray.size≠size||decide (off+ws.toArray.size>(⟨cv⟩:Array Value).size))=true):=by
     simp;omega
    have e2:=uw ws 0 ⟨cv⟩ off
    simp only [Nat.add_zero] at e2
    simp only [List.size_toArray] at e1 ⊢
    rw [if_neg (by simpa using e1)]
    have e3:(Array.foldl (fun cs (x:Value×Nat)=>match x with|(c,j)=>cs.setIfInBounds (off+j) c) (⟨cv⟩:Array Value) ws.toArray.zipIdx)=⟨bf cv off ws⟩:=by
     rw [←e2]
     simp
    rw [e3]
    exact k1
  simp at ho
theorem uz {t:Nat} {ti:TI} (ht:pF P t=some ti) {z:List AV} (hz:ti.zero.cells?=some z) {ok:Nat→Prop}:
 ∃v vs,(zeroValue t).run P w=.ok v w∧v.cells=⟨vs⟩∧an β bx w ok z vs∧(∀u∈vs,IA u):=by
 obtain ⟨i,d,h1,h2,h3,h4,h5,h6⟩:=aJ ht
 cases yT:i.zero with
 |none=>rw [h6,yT] at hz;simp [AV.cells?] at hz
 |some v=>
  rw [h6,yT] at hz
  obtain ⟨vs,g1,g2,g3⟩:=nL (ok:=ok) (β:=β) (bx:=bx) (w:=w) hz (uv v)
  exact ⟨v,vs,gJ h1 yT,g1,g2,g3⟩
theorem zJ (hT:kD P T):∀(fs:List Field),(∀f∈fs,∃tf,T f.type=some tf)→
 (fs.mapM fun f=>(do pure (f.offset,←Go.sizeOf f.type):Sem (Nat×Nat))).run P w=.ok (fs.map fun f=>(f.offset,((T f.type).map (·.size)).getD 0)) w
 |[],_=>by simp
 |f::fs,h=>by
  obtain ⟨tf,RO⟩:=h f (by simp)
  obtain ⟨i,d,h1,h2,h3,h4,h5,h6⟩:=aJ (hT.ti _ _ RO)
  have ih:=zJ hT fs (fun g hg=>h g (by simp [hg]))
  simp only [List.mapM_cons,Sem.run_bind,bX h1,Result.andThen_ok,Sem.run_pure,List.map_cons]
  rw [ih]
  simp [RO,h3]
theorem Fy (hT:kD P T) {t:Nat} {parts:List (Nat×AV)} {vs:Array (Nat×Value)} (hp:c8 β bx w (bp β bx w X) parts vs.toList)
 {c:Prop} {v:AV} {b:Option (List aA)} (hr:DM T t parts=some ⟨c,v,b⟩):
 b=none∧∃u,(Instr.build t vs).run P w=.ok u w∧ak β bx w (bp β bx w X) v u:=by
 unfold DM at hr
 cases ht:T t with
 |none=>simp [ht] at hr
 |some ti=>
 have ht':=hT.ti t ti ht
 obtain ⟨i,d,h1,h2,h3,h4,h5,h6⟩:=aJ ht'
 simp only [ht] at hr
 cases hz:ti.zero.cells? with
 |none=>simp [hz] at hr
 |some z=>
 obtain ⟨zv,zs,z1,z2,z3,_⟩:=uz (β:=β) (bx:=bx) (w:=w) (ok:=bp β bx w X) ht' hz
 simp only [hz] at hr
 cases hk:ti.kd with
 |struct fs=>
  rw [hk] at hr h5
  cases d<;>simp [cY] at h5
  rename_i fields
  subst h5
  simp only at hr
  split at hr
  ·rename_i out ho
   simp only [R.pure,osI,R.mk.injEq] at hr
   obtain ⟨_,rfl,rfl⟩:=hr
   have hall:∀f∈fields.toList,∃tf,T f.type=some tf:=by
    intro f hf
    exact hT.fields t ti _ ht hk (f.offset,f.type) (List.mem_map.2 ⟨f,hf,rfl⟩)
   have hm:=zJ (w:=w) hT fields.toList hall
   have hm':(fields.mapM fun f=>(do pure (f.offset,←Go.sizeOf f.type):Sem (Nat×Nat))).run P w=.ok ⟨fields.toList.map fun f=>(f.offset,((T f.type).map (·.size)).getD 0)⟩ w:=by
    rw [Array.mapM_eq_mapM_toList,Sem.run_map,hm];rfl
   obtain ⟨ov,k1,k2⟩:=zI parts vs.toList z zs out hp z3 ho
   refine ⟨rfl,.agg ⟨ov⟩,?_,by simp only [ak];exact ⟨ov,rfl,k2⟩⟩
   have hfun:(fun (i:Nat)=>((⟨fields.toList.map fun f=>(f.offset,((T f.type).map (·.size)).getD 0)⟩:Array (Nat×Nat)))[i]?)=
    (fun (i:Nat)=>match ((fields.toList.map fun f=>(f.offset,f.type):List (Nat×Nat)))[i]? with|some (o,ft)=>(T ft).map fun (x:TI)=>(o,x.size)|none=>none):=by
    funext i
    simp only [List.getElem?_toArray,List.getElem?_map]
    cases hf:fields.toList[i]? with
    |none=>simp
    |some f=>
     obtain ⟨tf,RO⟩:=hall f (List.mem_of_getElem? hf)
     simp [RO]
   have K6:Instr.fill (fun (i:Nat)=>((⟨fields.toList.map fun f=>(f.offset,((T f.type).map (·.size)).getD 0)⟩:Array (Nat×Nat)))[i]?) ⟨zs⟩ vs.toList=some ⟨ov⟩:=by
    rw [hfun];exact k1
   simp only [Instr.build,Sem.run_bind,z1,Result.andThen_ok,aV h2,hm',z2]
   rw [K6]
   simp
  simp at hr
 |array n e=>
  rw [hk] at hr h5
  cases d<;>simp [cY] at h5
  obtain ⟨rfl,rfl⟩:=h5
  cases hte:T e with
  |none=>simp [hte] at hr
  |some te=>
   obtain ⟨ei,ed,g1,g2,g3,g4,g5,g6⟩:=aJ (hT.ti _ _ hte)
   simp only [hte] at hr
   split at hr
   ·rename_i out ho
    simp only [R.pure,osI,R.mk.injEq] at hr
    obtain ⟨_,rfl,rfl⟩:=hr
    obtain ⟨ov,k1,k2⟩:=zI parts vs.toList z zs out hp z3 ho
    refine ⟨rfl,.agg ⟨ov⟩,?_,by simp only [ak];exact ⟨ov,rfl,k2⟩⟩
    simp [Instr.build,z1,z2,aV h2,bX g1,←g3,k1]
   simp at hr
 |_=>rw [hk] at hr;simp at hr
theorem zK {size:Nat}:∀(parts:List (Nat×AV)) (bx:List aA) (vs:List (Nat×Value)) (rs:List (List D)),cP G β bx w X→c8 β bx w (bp β bx w X) parts vs→rowsOf bx size parts=some rs→
 Ext β bx w β (dR bx parts) w∧cP G β (dR bx parts) w X∧rs.length=parts.length∧(∀r∈rs,r.length=size)∧
 ∃us:List Value,an β (dR bx parts) w (bp β (dR bx parts) w X) (rs.flatten.map .d) us∧(∀u∈us,IA u)∧
  (vs.flatMap fun p=>p.2.cells.toList)=us∧(∀p∈vs,p.2.cells.size=size)
 |[],bx,vs,rs,cx,hp,hr=>by
  simp only [c8] at hp;subst hp
  simp only [rowsOf,osI] at hr;subst hr
  exact ⟨Ext.refl _ _ _,cx,rfl,by simp,[],by simp [an],by simp,by simp,by simp⟩
 |(i,x)::r,bx,vs,rs,cx,hp,hr=>by
  simp only [c8] at hp
  obtain ⟨u,us,rfl,h1,h2⟩:=hp
  simp only [rowsOf] at hr
  split at hr
  ·rename_i xs hx
   split at hr
   ·rename_i ds WI hds RP
    cases hb:Nat.beq ds.length size with
    |false=>simp [hb] at hr
    |true=>
     have hb':=Nat.eq_of_beq_eq_true hb
     simp only [hb,cond_true,osI] at hr
     subst hr
     obtain ⟨ws,g1,g2,g3⟩:=nL hx h1
     obtain ⟨e1,c1,r1⟩:=vY xs bx ds ws cx hds g2
     have Mk:c8 β (eE bx xs) w (bp β (eE bx xs) w X) r us:=by
      clear RP
      induction r generalizing us with
      |nil=>simpa [c8] using h2
      |cons p r ih=>
       obtain ⟨j,y⟩:=p
       simp only [c8] at h2 ⊢
       obtain ⟨v,vs',rfl,k1,k2⟩:=h2
       exact ⟨v,vs',rfl,ak.mono (e1.eX X) _ _ k1,ih vs' k2⟩
     have Zc:rowsOf (eE bx xs) size r=some WI:=by
      clear Mk h2
      have after:∀(zs:List AV) (bx:List aA) (r:List (Nat×AV)) (rs:List (List D)),rowsOf bx size r=some rs→rowsOf (eE bx zs) size r=some rs:=by
       intro zs
       induction zs with
       |nil=>intro bx r rs h;exact h
       |cons z zs ih=>
        intro bx r rs h
        refine ih _ _ _ ?_
        clear ih
        induction r generalizing rs with
        |nil=>exact h
        |cons p r ih=>
         obtain ⟨j,y⟩:=p
         simp only [rowsOf] at h ⊢
         split at h
         ·rename_i ys hy
          split at h
          ·rename_i ds2 rs2 hd2 ph
           rw [sW hd2,ih rs2 ph];exact h
          simp at h
         simp at h
      exact after xs bx r WI RP
     obtain ⟨e2,c2,l2,n2,Ot,q1,q2,q3,q4⟩:=zK r (eE bx xs) us WI c1 Mk Zc
     have pT:dR bx ((i,x)::r)=dR (eE bx xs) r:=by simp [dR,hx]
     rw [pT]
     refine ⟨e1.trans e2,c2,by simp [l2],?_,ws++Ot,?_,?_,?_,?_⟩
     ·intro y hy
      rcases List.mem_cons.1 hy with rfl|hy
      ·exact hb'
      exact n2 y hy
     ·simp only [List.flatten_cons,List.map_append]
      exact an.append (an.mono (e2.eX X) _ _ r1) q1
     ·intro y hy
      rcases List.mem_append.1 hy with hy|hy
      ·exact g3 y hy
      exact q2 y hy
     ·simp [g1,q3]
     intro p hp
     rcases List.mem_cons.1 hp with rfl|hp
     ·have:=an.length r1
      simp [g1] at this ⊢;omega
     exact q4 p hp
   simp at hr
  simp at hr
theorem Ou:∀(parts:List (Nat×AV)) (bx:List aA),Fh parts=true→dR bx parts=bx
 |[],bx,_=>rfl
 |(i,x)::r,bx,h=>by
  simp only [Fh] at h
  split at h
  ·rename_i xs hx
   simp only [Bool.and_eq_true] at h
   have hs:∀(ys:List AV) (bx:List aA),cM ys=true→eE bx ys=bx:=by
    intro ys
    induction ys with
    |nil=>intro bx _;rfl
    |cons y ys ih=>
     intro bx hy
     have h1:cM [y]=true∧cM ys=true:=by cases y<;>simp_all [cM]
     simp only [eE,Oq h1.1]
     exact ih bx h1.2
   simp only [dR,hx,hs xs bx h.1]
   exact Ou r bx h.2
  simp at h
theorem mc:∀(cs:List Value) (k:Nat) (us:List Value),k+us.length≤cs.length→bf cs k us=cs.take k++us++cs.drop (k+us.length)
 |cs,k,[],_=>by cases cs<;>simp [bf]
 |[],k,u::us,h=>by simp at h
 |c::cs,0,u::us,h=>by
  simp only [List.length_cons] at h
  simp only [bf,mc cs 0 us (by omega)]
  simp
 |c::cs,k+1,u::us,h=>by
  simp only [List.length_cons] at h
  simp only [bf,mc cs k (u::us) (by simp;omega)]
  simp [show k+1+(us.length+1)=k+(us.length+1)+1 by omega]
theorem zL {size:Nat}:∀(vs:List (Nat×Value)) (i:Nat) (cs:List Value),(∀k p,vs[k]?=some p→p.1=i+k)→(∀p∈vs,p.2.cells.size=size)→(i+vs.length)*size≤cs.length→
 Instr.fill (fun i=>some (i*size,size)) ⟨cs⟩ vs=some ⟨cs.take (i*size)++(vs.flatMap fun p=>p.2.cells.toList)++cs.drop ((i+vs.length)*size)⟩
 |[],i,cs,_,_,_=>by simp [Instr.fill]
 |(j,v)::r,i,cs,ho,hs,hl=>by
  have hj:j=i:=by simpa using ho 0 (j,v) rfl
  subst hj
  have hv:v.cells.size=size:=hs (j,v) (by simp)
  simp only [List.length_cons] at hl
  have hle:(j+1)*size≤cs.length:=Nat.le_trans (Nat.mul_le_mul_right _ (by omega)) hl
  rw [Nat.add_mul,Nat.one_mul] at hle
  simp only [Instr.fill,hv]
  have e1:¬((size≠size||decide (j*size+size>(⟨cs⟩:Array Value).size))=true):=by simp;omega
  rw [if_neg (by simpa using e1)]
  have e2:=uw v.cells.toList 0 ⟨cs⟩ (j*size)
  simp only [Nat.add_zero] at e2
  have e3:(Array.foldl (fun cs (x:Value×Nat)=>match x with|(c,k)=>cs.setIfInBounds (j*size+k) c) (⟨cs⟩:Array Value) v.cells.zipIdx)=⟨bf cs (j*size) v.cells.toList⟩:=by
   rw [←e2]
   rw [←Array.foldl_toList,Array.toList_zipIdx]
  rw [e3]
  have hsp:bf cs (j*size) v.cells.toList=cs.take (j*size)++v.cells.toList++cs.drop ((j+1)*size):=by
   rw [mc _ _ _ (by simp [hv];omega)]
   simp [hv,Nat.add_mul]
  rw [hsp,zL r (j+1) _ (fun k p hk=>by have:=ho (k+1) p (by simpa using hk);omega) (fun p hp=>hs p (by simp [hp])) (by simp [hv,Nat.add_mul] at*;omega)]
  congr 2
  have hlen:(cs.take (j*size)++v.cells.toList).length=(j+1)*size:=by simp [hv,Nat.add_mul];omega
  rw [List.take_left' hlen]
  rw [show (j+1+r.length)*size=(cs.take (j*size)++v.cells.toList).length+r.length*size by rw [hlen,Nat.add_mul]]
  rw [List.drop_append]
  simp only [List.drop_eq_nil_of_le (Nat.le_add_right _ _),List.nil_append,Nat.add_sub_cancel_left,List.drop_drop,List.flatMap_cons,List.append_assoc,List.length_cons]
  rw [show (j+1)*size+r.length*size=(j+(r.length+1))*size by simp only [Nat.add_mul];omega]
theorem vZ (hT:kD P T) (cx:cP G β bx w X) {t n:Nat} {parts:List (Nat×AV)} {vs:Array (Nat×Value)} (hp:c8 β bx w (bp β bx w X) parts vs.toList)
 {c:Prop} {v:AV} {b:Option (List aA)} (hr:fY T t n parts bx=some ⟨c,v,b⟩):
 ∃u w',(Instr.buildSlice t n vs).run P w=.ok u w'∧Ext β bx w β (dN bx b) w'∧cP G β (dN bx b) w' X∧ak β (dN bx b) w' (bp β (dN bx b) w' X) v u:=by
 unfold fY at hr
 cases ht:T t with
 |none=>simp [ht] at hr
 |some ti=>
 obtain ⟨i,d,h1,h2,h3,h4,h5,h6⟩:=aJ (hT.ti t ti ht)
 simp only [ht] at hr
 cases hk:ti.kd with
 |slice e=>
  rw [hk] at hr h5
  cases d<;>simp [cY] at h5
  subst h5
  cases hte:T e with
  |none=>simp [hte] at hr
  |some te=>
  obtain ⟨ei,ed,g1,g2,g3,g4,g5,g6⟩:=aJ (hT.ti _ _ hte)
  simp only [hte] at hr
  cases hb:(Nat.beq parts.length n&&mS 0 parts&&Nat.ble (n*te.size) 16777216&&te.zero.cells?.isSome) with
  |false=>simp [hb] at hr
  |true=>
  simp only [hb,cond_true] at hr
  simp only [Bool.and_eq_true] at hb
  obtain ⟨⟨⟨b1,b2⟩,b3⟩,b4⟩:=hb
  have b1:=Nat.eq_of_beq_eq_true b1
  have b3:=Nat.le_of_ble_eq_true b3
  split at hr
  ·rename_i rs RP
   simp only [osI,R.mk.injEq] at hr
   obtain ⟨_,rfl,rfl⟩:=hr
   obtain ⟨e1,c1,l1,n1,us,q1,q2,q3,q4⟩:=zK parts bx vs.toList rs cx hp RP
   have K5:dN bx (bif Fh parts then none else some (dR bx parts))=dR bx parts:=by
    cases ho:Fh parts with
    |true=>simp [Ou _ _ ho,dN]
    |false=>rfl
   rw [K5]
   have hvl:vs.toList.length=parts.length:=by
    clear RP b2 q3 q4
    have:∀(ps:List (Nat×AV)) (us:List (Nat×Value)),c8 β bx w (bp β bx w X) ps us→us.length=ps.length:=by
     intro ps
     induction ps with
     |nil=>intro us h;simp only [c8] at h;simp [h]
     |cons p ps ih=>intro us h;obtain ⟨j,y⟩:=p;simp only [c8] at h;obtain ⟨_,Oh,rfl,_,k⟩:=h;simp [ih Oh k]
    exact this _ _ hp
   have Zd:∀k p,vs.toList[k]?=some p→p.1=0+k:=by
    have:∀(ps:List (Nat×AV)) (us:List (Nat×Value)) (i:Nat),c8 β bx w (bp β bx w X) ps us→mS i ps=true→∀k p,us[k]?=some p→p.1=i+k:=by
     intro ps
     induction ps with
     |nil=>intro us i h _ k p hk;simp only [c8] at h;subst h;simp at hk
     |cons q ps ih=>
      intro us i h ho k p hk
      obtain ⟨j,y⟩:=q
      simp only [c8] at h
      obtain ⟨_,Oh,rfl,_,g⟩:=h
      simp only [mS,Bool.and_eq_true] at ho
      cases k with
      |zero=>simp at hk;subst hk;simpa using (Nat.eq_of_beq_eq_true ho.1).symm
      |succ k=>have:=ih Oh (i+1) g ho.2 k p (by simpa using hk);omega
    exact this _ _ 0 hp b2
   have hsz:us.length=n*te.size:=by
    rw [←q3]
    have:∀(ps:List (Nat×Value)),(∀p∈ps,p.2.cells.size=te.size)→(ps.flatMap fun p=>p.2.cells.toList).length=ps.length*te.size:=by
     intro ps
     induction ps with
     |nil=>intro _;simp
     |cons p ps ih=>
      intro h;simp only [List.flatMap_cons,List.length_append,ih (fun q hq=>h q (by simp [hq])),List.length_cons,Nat.add_mul]
      have:=h p (by simp);simp;omega
    rw [this _ q4,hvl,b1]
   have WJ:∀(z:Array Value),((Array.range (n*te.size)).map (z[·%z.size]!)).toList.length=n*te.size:=by intro z;simp
   have K6:∀(z:Array Value),Instr.fill (fun i=>some (i*te.size,te.size)) ((Array.range (n*te.size)).map (z[·%z.size]!)) vs.toList=some ⟨us⟩:=by
    intro z
    have:=zL (size:=te.size) vs.toList 0 ((Array.range (n*te.size)).map (z[·%z.size]!)).toList Zd q4 (by rw [WJ,hvl,b1];simp)
    rw [q3] at this
    have e:(⟨((Array.range (n*te.size)).map (z[·%z.size]!)).toList⟩:Array Value)=(Array.range (n*te.size)).map (z[·%z.size]!):=rfl
    rw [e] at this
    rw [this]
    congr 2
    rw [Nat.zero_mul,List.take_zero,List.nil_append,List.drop_eq_nil_of_le,List.append_nil]
    rw [WJ,hvl,b1];simp
   obtain ⟨zc,UF⟩:=Option.isSome_iff_exists.1 b4
   obtain ⟨zv,_,z1,_⟩:=uz (β:=β) (bx:=bx) (w:=w) (ok:=bp β bx w X) (hT.ti _ _ hte) UF
   have hlt:¬n*te.size>2^24:=by omega
   refine ⟨.slice (some ⟨w.heap.size,0,none⟩) n n,{w with heap:=w.heap.push (.cells ⟨us⟩ e)},?_,e1.trans (um _),Fo c1 _,?_⟩
   ·by_cases h0:n*te.size=0
    ·have:=K6 #[]
     simp only [Instr.buildSlice,Sem.run_bind,aV h2,Result.andThen_ok,bX g1,←g3,if_neg hlt,Sem.run_pure,if_pos h0,this]
     simp [newRow,newObj,Sem.run]
    have:=K6 zv.cells
    simp only [Instr.buildSlice,Sem.run_bind,aV h2,Result.andThen_ok,bX g1,←g3,if_neg hlt,Sem.run_pure,if_neg h0,z1,this]
    simp [newRow,newObj,Sem.run]
   simp only [ak]
   refine ⟨_,by rw [l1,b1],?_⟩
   by_cases Ze:rs=[]
   ·exact .inl Ze
   refine .inr ⟨w.heap.size,0,te.size,rfl,⟨by simp,fun hX=>by have:=cx.xs _ hX;omega,?_⟩,?_⟩
   ·intro i b h1 h2 h3
    have:=(c1.box i b h1).fJ h2
    omega
   refine mY (β:=β) (bx:=dR bx parts) rs 0 us n1 ?_ (an.mono ((um (.cells ⟨us⟩ e)).eX X) _ _ q1)
   intro k u hk
   simp only [World.cell?]
   simpa using hk
  simp at hr
 |_=>rw [hk] at hr;simp at hr
end
end Dem
end
section
open Go
namespace Dem
section
variable {P:Program} {T:Nat→Option TI} {G:Nat→Option (List D)} {β:Nat→Nat} {bx:List aA} {w:World} {X:Nat→Prop}
theorem Cy (f:Value→ByteArray→Sem (ForInStep ByteArray)) (hf:∀n s,f (.int .u8 n) s=pure (.yield (s.push (UInt8.ofNat n.toNat)))):
 ∀(vs:List Value) (es:List (List D)) (acc:ByteArray) (w:World) (ok:Nat→Prop),(∀r∈es,ry r)→an β bx w ok (es.flatten.map .d) vs→
 (forIn vs acc f).run P w=.ok ⟨(acc.data.toList++es.map ru).toArray⟩ w
 |vs,[],acc,w,ok,_,h=>by
  simp only [List.flatten_nil,List.map_nil,an] at h;subst h
  simp
 |vs,r::rs,acc,w,ok,hb,h=>by
  obtain ⟨n,hr⟩:=hb r (by simp)
  subst hr
  simp only [List.flatten_cons,List.map_cons,List.singleton_append,an,ak,aL] at h
  obtain ⟨u,us,rfl,rfl,h2⟩:=h
  have ih:=Cy f hf us rs (acc.push (UInt8.ofNat n.toNat)) w ok (fun r hr=>hb r (by simp [hr])) h2
  simp only [List.forIn_cons,Sem.run_bind,hf,Sem.run_pure,Result.andThen_ok]
  rw [ih]
  simp [ru,ByteArray.push]
theorem uA {ok:Nat→Prop} {base:Option Addr} {cap:Nat} {es:List (List D)} (hb:∀r∈es,ry r)
 (h:es=[]∨∃blk off sz,base=some ⟨blk,off,none⟩∧ok blk∧ay w ok blk sz es off):
 (Conv.bytesToString (.slice base es.length cap)).run P w=.ok (.string ⟨(es.map ru).toArray⟩) w:=by
 cases base with
 |none=>
  rcases h with rfl|⟨_,_,_,h,_⟩
  ·simp [Conv.bytesToString];rfl
  simp at h
 |some a=>
  rcases h with rfl|⟨blk,off,sz,ha,_,hr⟩
  ·simp [Conv.bytesToString,loadCells,loadCellsFrom];rfl
  cases es with
  |nil=>simp [Conv.bytesToString,loadCells,loadCellsFrom];rfl
  |cons r rs=>
   have hsz:sz=1:=by
    obtain ⟨n,hn⟩:=hb r (by simp)
    simp only [ay] at hr
    rw [←hr.1,hn];rfl
   subst hsz
   obtain ⟨vs,g1,g2,g3⟩:=kf (β:=fun _=>0) (bx:=[]) _ _ hr
   simp at ha;subst ha
   have:=run_loadCells (P:=P) vs g2
   rw [g1,Nat.mul_one] at this
   simp only [Conv.bytesToString,Sem.run_bind,this,Result.andThen_ok]
   simp only [List.forIn_toArray]
   rw [Cy _ (fun _ _=>rfl) vs (r::rs) ByteArray.empty w ok hb g3]
   simp
theorem ID (hT:kD P T) (cx:cP G β bx w X) {src dst:Nat} {x:AV} {ux:Value} (hx:ak β bx w (bp β bx w X) x ux)
 {c:Prop} {v:AV} {b:Option (List aA)} (hr:xj T src dst x bx=some ⟨c,v,b⟩) (hc:c):
 b=none∧∃u w',(Go.convert src dst ux).run P w=.ok u w'∧Ext β bx w β bx w'∧cP G β bx w' X∧ak β bx w' (bp β bx w' X) v u:=by
 unfold xj at hr
 cases hs:T src with
 |none=>simp [hs] at hr
 |some ts=>
 cases hd:T dst with
 |none=>simp [hs,hd] at hr
 |some td=>
 obtain ⟨si,sd,s1,s2,s3,s4,s5,s6⟩:=aJ (hT.ti _ _ hs)
 obtain ⟨di,dd,d1,d2,d3,d4,d5,d6⟩:=aJ (hT.ti _ _ hd)
 simp only [hs,hd] at hr
 rw [s5,d5] at hr
 split at hr
 ·rename_i k n hk
  simp only [R.pure,osI,R.mk.injEq] at hr
  obtain ⟨_,rfl,rfl⟩:=hr
  simp only [ak,aL] at hx;subst hx
  cases dd<;>simp [cY] at hk
  subst hk
  exact ⟨rfl,_,w,by simp [Go.convert,aV s2,aV d2,Conv.intToInt];rfl,Ext.refl _ _ _,cx,by simp [ak,aL]⟩
 ·rename_i e vT hk2
  cases sd<;>simp [cY] at vT
  subst vT
  cases dd<;>simp [cY] at hk2
  split at hr
  ·rename_i te es hte aE
   obtain ⟨ei,ed,e1,e2,e3,e4,e5,e6⟩:=aJ (hT.ti _ _ hte)
   rw [e5] at hr
   split at hr
   ·rename_i YH
    simp only [R.when,osI,R.mk.injEq] at hr
    obtain ⟨rfl,rfl,rfl⟩:=hr
    cases ed<;>simp [cY] at YH
    subst YH
    have main:∃base cap,ux=.slice base es.length cap∧∃ok,(es=[]∨∃blk off sz,base=some ⟨blk,off,none⟩∧ok blk∧ay w ok blk sz es off):=by
     obtain ⟨_,_,base,cap,h1,_,h3⟩:=kg cx aE hx
     exact ⟨base,cap,h1,_,h3⟩
    obtain ⟨base,cap,rfl,ok,h3⟩:=main
    have hrun:=uA (P:=P) (cap:=cap) hc h3
    refine ⟨rfl,.string ⟨(es.map ru).toArray⟩,w,?_,Ext.refl _ _ _,cx,by simp only [ak,aL]⟩
    simp [Go.convert,aV s2,aV d2,aV e2,hrun]
   simp at hr
  simp at hr
 ·rename_i s vT hk2
  simp only [R.pure,osI,R.mk.injEq] at hr
  obtain ⟨_,rfl,rfl⟩:=hr
  simp only [ak,aL] at hx;subst hx
  cases sd<;>simp [cY] at vT
  cases dd<;>simp [cY] at hk2
  exact ⟨rfl,_,w,by simp [Go.convert,aV s2,aV d2];rfl,Ext.refl _ _ _,cx,by simp [ak,aL]⟩
 simp at hr
theorem dB {es:Nat} {base:Option Addr} {cap:Nat}:(Builtin.lenOf (.slice base es cap)).run P w=.ok es w:=by simp [Builtin.lenOf]
def gr (P:Program) (w:World) (size n:Nat) (x:Value) (us:List Value):Prop:=
 (Builtin.lenOf x).run P w=.ok n w∧us.length=n*size∧∀w':World,(∀k:Nat,w.heap[k]?≠none→w'.heap[k]?=w.heap[k]?)→(Builtin.lenOf x).run P w'=.ok n w'∧(Builtin.firstCells size n x).run P w'=.ok ⟨us⟩ w'
theorem dX {ok:Nat→Prop} {base:Option Addr} {cap size:Nat} {es:List (List D)} (hs:∀r∈es,r.length=size)
 (h:es=[]∨∃blk off sz,base=some ⟨blk,off,none⟩∧ay w ok blk sz es off):
 ∃us,gr P w size es.length (.slice base es.length cap) us∧an β bx w ok (es.flatten.map .d) us:=by
 by_cases hne:es=[]
 ·subst hne
  refine ⟨[],⟨dB,by simp,fun w' _=>⟨dB,?_⟩⟩,by simp [an]⟩
  cases base<;>simp [Builtin.firstCells,loadCells,loadCellsFrom]
 rcases h with h|⟨blk,off,sz,rfl,hr⟩
 ·exact absurd h hne
 have hsz:sz=size:=by
  cases es with
  |nil=>exact absurd rfl hne
  |cons r rs=>simp only [ay] at hr;rw [←hr.1];exact hs r (by simp)
 subst hsz
 obtain ⟨vs,g1,g2,g3⟩:=kf (β:=β) (bx:=bx) _ _ hr
 refine ⟨vs,⟨dB,g1,fun w' hw=>⟨dB,?_⟩⟩,g3⟩
 have:=run_loadCells (P:=P) (w:=w') (blk:=blk) (off:=off) vs (fun j v hj=>by
  have h1:=g2 j v hj
  have h2:w.heap[blk]?≠none:=by intro h0;simp [World.cell?,h0] at h1
  rw [nw (hw blk h2)];exact h1)
 rw [g1] at this
 simpa [Builtin.firstCells] using this
theorem sx (s:List UInt8):∃us,gr P w 1 s.length (.string ⟨s.toArray⟩) us∧an β bx w (bp β bx w X) ((s.map rq).flatten.map .d) us:=by
 have hl:∀w',(Builtin.lenOf (.string ⟨s.toArray⟩)).run P w'=.ok s.length w':=by intro w';simp [Builtin.lenOf,ByteArray.size]
 refine ⟨s.map fun b=>.int .u8 b.toNat,⟨hl w,by simp,fun w' _=>⟨hl w',?_⟩⟩,?_⟩
 ·have e:(⟨s.toArray⟩:ByteArray).extract 0 s.length=⟨s.toArray⟩:=by
   rw [Lib.extract_eq];simp
  simp [Builtin.firstCells,e]
 clear hl
 induction s with
 |nil=>simp [an]
 |cons b s ih=>simp only [List.map_cons,List.flatten_cons,rq,List.singleton_append,an,ak,aL];exact ⟨_,_,rfl,rfl,by simpa [rq] using ih⟩
theorem lB (cx:cP G β bx w X) {size:Nat} {x:AV} {ux:Value} {xs:List (List D)} (hx:ak β bx w (bp β bx w X) x ux) (hr:kJ size x bx=some xs) (hs:∀r∈xs,r.length=size):
 ∃us,gr P w size xs.length ux us∧an β bx w (bp β bx w X) (xs.flatten.map .d) us:=by
 have WK:∀y,x=y→(∀b,y≠.d (.str b))→y.rows bx=some xs→∃us,gr P w size xs.length ux us∧an β bx w (bp β bx w X) (xs.flatten.map .d) us:=by
  intro y hy _ hrows
  subst hy
  by_cases how:∃b sz n,x=.ow b sz n
  ·obtain ⟨b,sz,n,rfl⟩:=how
   obtain ⟨hn,base,cap,rfl,h1,h2⟩:=uq cx hrows hx
   refine dX hs ?_
   rcases h2 with ⟨h2,_⟩|⟨_,rfl,h2,_⟩
   ·exact .inl h2
   exact .inr ⟨β b,0,sz,rfl,h2⟩
  cases hv:x.ug with
  |true=>
   cases x with
   |vw b sz off n c ex=>
    simp only [AV.rows] at hrows
    split at hrows
    ·rename_i s es' hb
     obtain ⟨rfl,hle,rfl⟩:=Cu hrows
     obtain ⟨base,cap,rfl,h1,h2⟩:=ou (IC:=bp β bx w X) hle ((cx.box b _ hb).imp id fun ⟨_,_,_,g⟩=>g) hx
     exact dX hs (h2.imp id fun ⟨a,c⟩=>⟨β b,off*s,s,a,c⟩)
    ·rename_i s es' hb
     obtain ⟨rfl,hle,rfl⟩:=Cu hrows
     obtain ⟨base,cap,rfl,h1,h2⟩:=ou (IC:=bp β bx w X) hle ((cx.box b _ hb).imp id fun ⟨_,g⟩=>g) hx
     exact dX hs (h2.imp id fun ⟨a,c⟩=>⟨β b,off*s,s,a,c⟩)
    simp at hrows
   |_=>simp [AV.ug] at hv
  |false=>
  obtain ⟨base,cap,rfl,h1,h2⟩:=zE (fun b sz n e=>how ⟨b,sz,n,e⟩) hv hrows hx
  exact dX hs (h2.imp id fun ⟨blk,off,sz,a,_,c⟩=>⟨blk,off,sz,a,c⟩)
 cases x with
 |d y=>
  cases y with
  |str s=>
   simp only [kJ] at hr
   cases hb:Nat.beq size 1 with
   |false=>simp [hb] at hr
   |true=>
    have:=Nat.eq_of_beq_eq_true hb
    subst this
    simp only [hb,cond_true,osI] at hr
    subst hr
    simp only [ak,aL] at hx;subst hx
    rw [lgM]
    exact sx s
  |_=>exact WK _ rfl (by simp) hr
 |_=>exact WK _ rfl (by simp) hr
theorem uB {need old bytes:Nat} (h:old<need) (hb:need*bytes≤140737488355328):¬Builtin.nextslicecap need old*bytes>2^48:=by
 have:=Go.growslice_fits h hb
 omega
theorem jC {t u e sLen sCap n:Nat} {base:Option Addr} {x:Value} {us olds zc:List Value} {ei:TypeInfo} {ud:TypeDesc} {zv:Value}
 (ht:P.underlying t=some (.slice e)) (hu:P.underlying u=some ud) (RQ:∀k,ud≠.int k) (hi:P.info? e=some ei) (hz:ei.zero=some zv) (UF:zv.cells=⟨zc⟩) (hzl:zc.length=ei.size)
 (hx:gr P w ei.size n x us) (hs:gr P w ei.size sLen (.slice base sLen sCap) olds)
 (hcap:sCap<sLen+n) (hb0:0<ei.bytes) (hb:(sLen+n)*ei.bytes≤140737488355328) (ty:Nat):
 ∃cap rest,sLen+n≤cap∧(cap*ei.size=us.length+olds.length+rest)∧∃zs:List Value,zs.length=rest∧
  (Builtin.append_ #[t,u] ty #[.slice base sLen sCap,x]).run P w=.ok (.slice (some ⟨w.heap.size,0,none⟩) (sLen+n) cap)
   {w with drawn:=w.drawn+1,heap:=w.heap.push (.cells ⟨olds++us++zs⟩ e)}:=by
 obtain ⟨cap,uC⟩:∃cap,cap=(Question.appendCap (sLen+n) sCap e).cut (w.tape w.drawn (Question.appendCap (sLen+n) sCap e)):=⟨_,rfl⟩
 have Ov:sLen+n≤cap:=by rw [uC];simp only [Question.cut];omega
 refine ⟨cap,(cap-(sLen+n))*ei.size,Ov,?_,(Builtin.zeroCells ⟨zc⟩ (cap-(sLen+n))).toList,by simp [Builtin.zeroCells,hzl],?_⟩
 ·rw [hx.2.1,hs.2.1]
  have:cap=sLen+n+(cap-(sLen+n)):=by omega
  conv=>lhs;rw [this]
  simp only [Nat.add_mul];omega
 have hnc:=uB hcap hb
 have UG:¬(281474976710656<Builtin.nextslicecap (sLen+n) sCap*ei.bytes):=by omega
 have UH:ei.bytes≠0:=by omega
 have hn:¬(sLen+n≤sCap):=by omega
 have h1:=(hs.2.2 w.drew (fun _ _=>rfl)).2
 have h2:=(hx.2.2 w.drew (fun _ _=>rfl)).2
 simp [Builtin.append_,aV ht,aV hu,bX hi,l5 hi,gJ hi hz,hx.1,hn,UG,UH,Question.forced,h1,h2,UF,newRow,←uC]
 have e1:(⟨olds⟩++(⟨us⟩++Builtin.zeroCells ⟨zc⟩ (cap-(sLen+n))):Array Value)=⟨olds++(us++(Builtin.zeroCells ⟨zc⟩ (cap-(sLen+n))).toList)⟩:=by
  apply Array.ext'
  simp
 rw [e1]
 rfl
theorem Fz {t u e e' sLen sCap n blk:Nat} {x:Value} {us:List Value} {ei:TypeInfo} {ud:TypeDesc} {c:Array Value}
 (ht:P.underlying t=some (.slice e)) (hu:P.underlying u=some ud) (RQ:∀k,ud≠.int k) (hi:P.info? e=some ei)
 (hx:gr P w ei.size n x us) (hsc:∀v∈us,IA v) (hb:w.heap[blk]?=some (.cells c e' (0,0))) (hfit:sLen*ei.size+us.length≤c.size) (hcap:sLen+n≤sCap) (ty:Nat):
 (Builtin.append_ #[t,u] ty #[.slice (some ⟨blk,0,none⟩) sLen sCap,x]).run P w=.ok (.slice (some ⟨blk,0,none⟩) (sLen+n) sCap) (eC w blk (.cells ⟨bf c.toList (sLen*ei.size) us⟩ e' (0,0))):=by
 have h2:=(hx.2.2 w (fun _ _=>rfl)).2
 have hs:=jw (P:=P) (off:=sLen*ei.size) us 0 w c hb hsc (by simpa using hfit)
 simp only [Nat.add_zero] at hs
 simp [Builtin.append_,aV ht,aV hu,bX hi,hx.1,hcap,h2,fM,hs]
theorem xy {t u e:Nat} {base:Option Addr} {x:Value} {us:List Value} {ei:TypeInfo} {ud:TypeDesc}
 (ht:P.underlying t=some (.slice e)) (hu:P.underlying u=some ud) (RQ:∀k,ud≠.int k) (hi:P.info? e=some ei)
 (hx:gr P w ei.size 0 x us) (ty:Nat):
 (Builtin.append_ #[t,u] ty #[.slice base 0 0,x]).run P w=.ok (.slice base 0 0) w:=by
 have h2:=(hx.2.2 w (fun _ _=>rfl)).2
 have hl:us=[]:=by have:=hx.2.1;simpa using this
 subst hl
 cases base<;>simp [Builtin.append_,aV ht,aV hu,bX hi,hx.1,h2,storeCells]
theorem sY {B:aA} (hB:B.live=false) (k:Nat):Ext β bx w (lg β bx.length k) (bx++[B]) w:=by
 refine ⟨rfl,rfl,rfl,Nat.le_refl _,fun _ _ _=>rfl,fun k c e f h=>⟨c,h,rfl⟩,?_,?_⟩
 ·rintro i ⟨b,h1,h2⟩
  have:=jz h1
  exact ⟨dm _ _ (by omega),b,eJ h1,h2⟩
 intro i b h1 h2
 rcases bz h1 with ⟨h3,h4⟩|⟨rfl,rfl⟩
 ·exact .inr ⟨i,b,h3,h2,(dm _ _ (by omega)).symm⟩
 rw [hB] at h2;simp at h2
theorem zM (cx:cP G β bx w X) {B:aA} (hB:B.live=false) (k:Nat) (hok:dz (lg β bx.length k) (bx++[B]) w (bp (lg β bx.length k) (bx++[B]) w X) B k):cP G (lg β bx.length k) (bx++[B]) w X:=by
 refine cx.step (sY hB k) ?_ ?_
 ·intro i b hb
  rcases bz hb with ⟨h3,h4⟩|⟨rfl,rfl⟩
  ·exact .inl ⟨h3,fun _=>rfl⟩
  exact .inr (by rw [bu];exact hok)
 intro i j bi bj h1 h2 l1 l2 he
 rcases bz h1 with ⟨h3,h4⟩|⟨rfl,rfl⟩
 ·rcases bz h2 with ⟨h5,h6⟩|⟨rfl,rfl⟩
  ·rw [dm _ _ (by omega),dm _ _ (by omega)] at he
   exact cx.inj i j bi bj h3 h5 l1 l2 he
  rw [hB] at l2;simp at l2
 rw [hB] at l1;simp at l1
theorem nN (cx:cP G β bx w X) {e size cap:Nat} {rows:List (List D)} {vs zs:List Value} (hl:∀r∈rows,r.length=size) (hv:an β bx w (bp β bx w X) (rows.flatten.map .d) vs)
 (hcap:cap*size≤vs.length+zs.length) (hlen:rows.length≤cap) (hne:rows≠[]):
 let w':World:={w with drawn:=w.drawn+1,heap:=w.heap.push (.cells ⟨vs++zs⟩ e)}
 Ext β bx w (lg β bx.length w.heap.size) (bx++[.row size rows]) w'∧cP G (lg β bx.length w.heap.size) (bx++[.row size rows]) w' X∧
  ak (lg β bx.length w.heap.size) (bx++[.row size rows]) w' (bp (lg β bx.length w.heap.size) (bx++[.row size rows]) w' X) (.ow bx.length size rows.length) (.slice (some ⟨w.heap.size,0,none⟩) rows.length cap):=by
 intro w'
 have RR:=pS cx (fy w)
 have zN:Ext β bx w β bx {w with drawn:=w.drawn+1}:=jh (fy w)
 have WL:Ext β bx {w with drawn:=w.drawn+1} (lg β bx.length w.heap.size) (bx++[.row size rows]) w':=fZ (w:={w with drawn:=w.drawn+1}) (.cells ⟨vs++zs⟩ e) (.row size rows)
 have hnew:w'.heap[w.heap.size]?=some (.cells ⟨vs++zs⟩ e):=jv {w with drawn:=w.drawn+1} _
 refine ⟨zN.trans WL,?_,?_⟩
 ·refine kK (w:={w with drawn:=w.drawn+1}) RR (.cells ⟨vs++zs⟩ e) (.row size rows) (.inr ⟨_,e,hnew,?_⟩)
  refine mY (β:=lg β bx.length w.heap.size) (bx:=bx++[.row size rows]) rows 0 vs hl ?_ (an.mono ((zN.trans WL).eX X) _ _ hv)
  intro k u hk
  have hk':k<vs.length:=by
   rcases Nat.lt_or_ge k vs.length with h|h
   ·exact h
   simp [List.getElem?_eq_none h] at hk
  show World.cell? w' ⟨w.heap.size,0+k,none⟩=some u
  simp only [World.cell?,hnew]
  simp [List.getElem?_append_left hk',hk]
 simp only [ak]
 refine ⟨⟨.row size rows,by simp,rfl⟩,.inr ⟨by simpa using hne,cap,_,e,(0,0),by rw [bu],hlen,by rw [bu];exact hnew,by simpa using hcap⟩⟩
end
end Dem
end
