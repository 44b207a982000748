/- Parts of a proof, joined. -/
import Derived.Test.YtihohjnkkalgiaaGreatDoorP02
import Derived.ChangeKeysEq
import Derived.Laws.StructEq
set_option linter.all false
set_option maxRecDepth 100000
set_option maxHeartbeats 4000000
section
open Go
namespace Dem
section
variable {P:Program} {T:Nat→Option TI} {G:Nat→Option (List D)} {β:Nat→Nat} {bx:List ay} {w:World} {X:Nat→Prop}
theorem ak.flatten_append {ok:Nat→Prop} {es xs:List (List D)} {vs us:List Value} (h1:ak β bx w ok (es.flatten.map .d) vs) (h2:ak β bx w ok (xs.flatten.map .d) us):
 ak β bx w ok ((es++xs).flatten.map .d) (vs++us):=by
 rw [List.flatten_append,List.map_append];exact ak.append h1 h2
theorem H9 (ds:List D):so (ds.map .d)=true:=by
 induction ds with
 |nil=>rfl
 |cons d ds ih=>simp [so,AV.sc,ih]
theorem Jq (cx:cz G β bx w X) {b size cap:Nat} {es xs:List (List D)} {c:Array Value} {e:TypeId} {vs us rest:List Value} (hb:bx[b]?=some (.row size es)) (hne:es≠[])
 (hh:w.heap[β b]?=some (.cells c e (0,0))) (hc:c.toList=vs++rest) (hvl:vs.length=es.length*size) (YU:us.length≤rest.length)
 (hl:∀r∈es++xs,r.length=size) (hv:ak β bx w (bc β bx w X) (es.flatten.map .d) vs) (hu:ak β bx w (bc β bx w X) (xs.flatten.map .d) us)
 (hcap:cap*size≤c.size) (hlen:es.length+xs.length≤cap):
 ∃β' w',w'=dP w (β b) (.cells ⟨aY c.toList (es.length*size) us⟩ e (0,0))∧Ext β bx w β' ((bx.set b .dead)++[.row size (es++xs)]) w'∧cz G β' ((bx.set b .dead)++[.row size (es++xs)]) w' X∧
  aj β' ((bx.set b .dead)++[.row size (es++xs)]) w' (bc β' ((bx.set b .dead)++[.row size (es++xs)]) w' X) (.ow bx.length size (es.length+xs.length)) (.slice (some ⟨β b,0,none⟩) (es.length+xs.length) cap):=by
 have bY:(ay.row size es).live=true:=by cases es<;>simp_all [ay.live]
 have YV:=iH hb
 have hlen':(bx.set b .dead).length=bx.length:=by simp
 have hsp:aY c.toList (es.length*size) us=vs++us++rest.drop us.length:=by
  rw [hc,←hvl,ld _ _ _ (by simp;omega)]
  simp
 have Ia:(⟨aY c.toList (es.length*size) us⟩:Array Value).size=c.size:=by simp [c8]
 have ex:Ext β bx w (ko β bx.length (β b)) ((bx.set b .dead)++[.row size (es++xs)]) (dP w (β b) (.cells ⟨aY c.toList (es.length*size) us⟩ e (0,0))):=by
  refine ⟨rfl,rfl,rfl,by simp [dP],?_,?_,?_,?_⟩
  ·intro k _ hl'
   exact ie (fun e=>hl' b _ hb bY e.symm)
  ·intro k c1 e1 f1 hk
   by_cases h:k=β b
   ·subst h
    rw [hh] at hk
    simp only [osI,Obj.cells.injEq] at hk
    obtain ⟨rfl,rfl,rfl⟩:=hk
    exact ⟨_,dJ hh,Ia⟩
   exact ⟨c1,by rw [ie h];exact hk,rfl⟩
  ·intro i hi
   have hil:i<bx.length:=by obtain ⟨_,h1,_⟩:=hi;exact iH h1
   obtain ⟨B,h1,h2⟩:=gV (b:=b) (B':=.dead) rfl hi
   exact ⟨cV _ _ (by omega),B,ee h1,h2⟩
  intro i B h1 h2
  rcases bw h1 with ⟨h3,h4⟩|⟨rfl,rfl⟩
  ·rcases aH h3 with ⟨_,rfl,_⟩|⟨_,h5⟩
   ·simp [ay.live] at h2
   exact .inr ⟨i,B,h5,h2,(cV _ _ (by simp at h4;omega)).symm⟩
  exact .inr ⟨b,_,hb,bY,by rw [hlen',bq]⟩
 refine ⟨ko β bx.length (β b),_,rfl,ex,?_,?_⟩
 ·refine cx.step ex ?_ ?_
  ·intro i B h1
   rcases bw h1 with ⟨h3,h4⟩|⟨rfl,rfl⟩
   ·rcases aH h3 with ⟨_,rfl,_⟩|⟨h5,h6⟩
    ·exact .inr trv
    exact .inl ⟨h6,fun hl'=>ie (fun e=>h5 (cx.inj i b B _ h6 hb hl' bY e))⟩
   refine .inr (.inr ⟨_,e,by rw [hlen',bq];exact dJ hh,?_⟩)
   rw [hlen',bq]
   refine l6 (β:=ko β bx.length (β b)) (bx:=(bx.set b .dead)++[.row size (es++xs)]) _ 0 (vs++us) hl ?_ (ak.mono (ex.eN X) _ _ (ak.flatten_append hv hu))
   intro k u hk
   have hk':k<(vs++us).length:=by
    rcases Nat.lt_or_ge k (vs++us).length with h|h
    ·exact h
    simp [List.getElem?_eq_none h] at hk
   simp only [World.cell?,dJ hh]
   simp only [hsp,Nat.zero_add]
   have OE:(vs++us++rest.drop us.length)[k]?=some u:=by rw [List.getElem?_append_left hk'];exact hk
   simpa using OE
  intro i j bi bj h1 h2 l1 l2 he
  rcases bw h1 with ⟨h3,h4⟩|⟨rfl,rfl⟩<;>rcases bw h2 with ⟨h5,h6⟩|⟨rfl,rfl⟩
  ·rcases aH h3 with ⟨_,rfl,_⟩|⟨n3,g3⟩
   ·simp [ay.live] at l1
   rcases aH h5 with ⟨_,rfl,_⟩|⟨n5,g5⟩
   ·simp [ay.live] at l2
   simp at h4 h6
   rw [cV _ _ (by omega),cV _ _ (by omega)] at he
   exact cx.inj i j bi bj g3 g5 l1 l2 he
  ·rcases aH h3 with ⟨_,rfl,_⟩|⟨n3,g3⟩
   ·simp [ay.live] at l1
   simp at h4
   rw [hlen',cV _ _ (by omega),bq] at he
   exact absurd (cx.inj i b bi _ g3 hb l1 bY he) n3
  ·rcases aH h5 with ⟨_,rfl,_⟩|⟨n5,g5⟩
   ·simp [ay.live] at l2
   simp at h6
   rw [hlen',bq,cV _ _ (by omega)] at he
   exact absurd (cx.inj j b bj _ g5 hb l2 bY he.symm) n5
  rfl
 simp only [aj]
 have LG:es.length+xs.length≠0:=by
  have:=List.length_pos_iff.2 hne;omega
 refine ⟨⟨.row size (es++xs),by rw [←hlen'];simp,rfl⟩,.inr ⟨LG,cap,_,e,(0,0),by rw [bq],hlen,by rw [bq];exact dJ hh,by rw [Ia];exact hcap⟩⟩
theorem lg {te:TI} (h:eA te=true):∃z,te.zero.cells?=some z∧z.length=te.size∧0<te.bytes∧0<te.size:=by
 unfold eA at h
 split at h
 ·rename_i z hz
  simp only [Bool.and_eq_true] at h
  refine ⟨z,hz,Nat.eq_of_beq_eq_true h.1.1,?_,?_⟩
  ·have:=h.1.2;simpa [Nat.blt_eq] using this
  have:=h.2;simpa [Nat.blt_eq] using this
 simp at h
theorem sL (hT:jL P T) (cx:cz G β bx w X) {t u:Nat} {s x:AV} {us ux:Value} {tu:TI} (hu:T u=some tu) (OD:∀k,tu.kd≠.int k)
 (hs:aj β bx w (bc β bx w X) s us) (hx:aj β bx w (bc β bx w X) x ux) {c:Prop} {v:AV} {b:Option (List ay)} (hr:kw T t s x bx=some ⟨c,v,b⟩) (hc:c) (ty:Nat):
 ∃r w' β' aP,b=some aP∧(Builtin.append_ #[t,u] ty #[us,ux]).run P w=.ok r w'∧Ext β bx w β' aP w'∧cz G β' aP w' X∧aj β' aP w' (bc β' aP w' X) v r:=by
 obtain ⟨ui,ud,u1,u2,u3,u4,u5,u6⟩:=aE (hT.ti _ _ hu)
 have BJ:∀k,ud≠.int k:=by rintro k rfl;exact OD k (by rw [u5];rfl)
 unfold kw at hr
 cases ht:T t with
 |none=>simp [ht] at hr
 |some ti=>
 obtain ⟨i,d,h1,h2,h3,h4,h5,h6⟩:=aE (hT.ti _ _ ht)
 simp only [ht] at hr
 cases hk:ti.kd with
 |slice e=>
  rw [hk] at hr h5
  cases d<;>simp [cM] at h5
  subst h5
  cases hte:T e with
  |none=>simp [hte] at hr
  |some te=>
  obtain ⟨ei,ed,g1,g2,g3,g4,g5,g6⟩:=aE (hT.ti _ _ hte)
  simp only [hte] at hr
  cases hz:eA te with
  |false=>simp [hz] at hr
  |true=>
  obtain ⟨z,hz1,OF,Vz,VA⟩:=lg hz
  obtain ⟨zv,zc,k1,k2,k3,_⟩:=sH (β:=β) (bx:=bx) (w:=w) (ok:=bc β bx w X) (hT.ti _ _ hte) hz1
  have hzl:zc.length=ei.size:=by rw [ak.length k3,OF,g3]
  have wL:ei.zero=some zv:=by
   cases hq:ei.zero with
   |none=>rw [g6,hq] at hz1;simp [AV.cells?] at hz1
   |some q=>have:=fV (P:=P) (w:=w) g1 hq;rw [k1] at this;simp at this;rw [this]
  simp only [hz,cond_true] at hr
  cases TK:jQ te.size x bx with
  |none=>simp [TK] at hr
  |some xs=>
  simp only [TK] at hr
  cases s with
  |cl es=>
   simp only [aj] at hs
   obtain ⟨base,rfl,hbase⟩:=hs
   cases es with
   |nil=>
    simp only [osI,R.mk.injEq] at hr
    obtain ⟨rfl,rfl,rfl⟩:=hr
    obtain ⟨zT,zU⟩:=hc
    obtain ⟨ws,f1,f2⟩:=kB (P:=P) cx hx TK zU
    rw [g3] at f1
    by_cases hxs:xs=[]
    ·subst hxs
     have hrun:=vq (base:=base) h2 u2 BJ g1 f1 ty
     refine ⟨_,w,_,_,rfl,hrun,rj (B:=.row te.size []) rfl 0,xG cx (B:=.row te.size []) rfl 0 (.inl rfl),?_⟩
     simp only [aj]
     exact ⟨⟨.row te.size [],by simp,rfl⟩,.inl ⟨rfl,base,rfl⟩⟩
    have hpos:=List.length_pos_iff.2 hxs
    have f0:fG P w ei.size 0 (.slice base 0 0) []:=by
     refine ⟨dc,by simp,fun w' _=>⟨dc,?_⟩⟩
     cases base<;>simp [Builtin.firstCells,loadCells,loadCellsFrom]
    obtain ⟨cap,rest,q1,q2,zs,q3,q4⟩:=iJ h2 u2 BJ g1 wL k2 hzl f1 f0 (by omega) (by omega) (by rw [←g4];simpa using zT) ty
    obtain ⟨r1,r2,r3⟩:=mN (e:=e) (size:=te.size) (cap:=cap) (rows:=xs) (zs:=zs) cx zU f2 (by rw [g3,q3];simp at q2;omega) (by omega) hxs
    simp only [Nat.zero_add,List.nil_append] at q4
    exact ⟨_,_,_,_,rfl,q4,r1,r2,r3⟩
   |cons e0 er=>
    cases xs with
    |nil=>simp at hr
    |cons x0 xr=>
     simp only [osI,R.mk.injEq] at hr
     obtain ⟨rfl,rfl,rfl⟩:=hr
     obtain ⟨zT,zU⟩:=hc
     obtain ⟨ws,f1,f2⟩:=kB (P:=P) cx hx TK (fun r hr=>zU r (List.mem_append.2 (.inr hr)))
     obtain ⟨os,o1,o2⟩:=dI (P:=P) (β:=β) (bx:=bx) (cap:=(e0::er).length) (base:=base) (es:=e0::er) (ok:=bc β bx w X) (fun r hr=>zU r (List.mem_append.2 (.inl hr))) (hbase.imp id fun ⟨blk,off,sz,a,_,c⟩=>⟨blk,off,sz,a,c⟩)
     rw [g3] at f1 o1
     obtain ⟨cap,rest,q1,q2,zs,q3,q4⟩:=iJ h2 u2 BJ g1 wL k2 hzl f1 o1 (by simp) (by omega) (by rw [←g4];exact zT) ty
     obtain ⟨r1,r2,r3⟩:=mN (e:=e) (size:=te.size) (cap:=cap) (rows:=(e0::er)++(x0::xr)) (zs:=zs) (vs:=os++ws) cx zU (ak.flatten_append o2 f2) (by rw [g3,q3];simp at q2 ⊢;omega) (by rw [List.length_append];exact q1) (by simp)
     rw [List.length_append] at r3
     exact ⟨_,_,_,_,rfl,q4,r1,r2,r3⟩
  |ow b' sz n=>
   cases p7:bx[b']? with
   |none=>simp [p7] at hr
   |some B=>
   cases B with
   |row s2 es=>
    simp only [p7] at hr
    cases Jr:sameBox b' x with
    |true=>simp [Jr] at hr
    |false=>
    simp only [Jr,cond_false,osI,R.mk.injEq] at hr
    obtain ⟨rfl,rfl,rfl⟩:=hr
    obtain ⟨rfl,rfl,rfl,zT,zU⟩:=hc
    obtain ⟨ws,f1,f2⟩:=kB (P:=P) cx hx TK (fun r hr=>zU r (List.mem_append.2 (.inr hr)))
    have hrows:(AV.ow b' te.size es.length).rows bx=some es:=by simp [AV.rows,p7]
    obtain ⟨_,base,OG,rfl,p1,p2⟩:=sC cx hrows hs
    rw [g3] at f1
    rcases p2 with ⟨rfl,rfl⟩|⟨hne,rfl,p3,ca,ce,cf,p4,p5⟩
    ·
     have qA:Ext β bx w β (bx.set b' .dead) w:=gX p7 rfl rfl
     have Ti:cz G β (bx.set b' .dead) w X:=jv cx p7 rfl rfl trv
     by_cases hxs:xs=[]
     ·subst hxs
      have hrun:=vq (base:=base) h2 u2 BJ g1 f1 ty
      refine ⟨_,w,_,_,rfl,hrun,qA.trans (rj (B:=.row te.size ([]++[])) rfl 0),xG Ti (B:=.row te.size ([]++[])) rfl 0 (.inl rfl),?_⟩
      simp only [aj]
      exact ⟨⟨.row te.size [],by simp,rfl⟩,.inl ⟨rfl,base,rfl⟩⟩
     have hpos:=List.length_pos_iff.2 hxs
     have f0:fG P w ei.size 0 (.slice base 0 0) []:=by
      refine ⟨dc,by simp,fun w' _=>⟨dc,?_⟩⟩
      cases base<;>simp [Builtin.firstCells,loadCells,loadCellsFrom]
     obtain ⟨cap,rest,q1,q2,zs,q3,q4⟩:=iJ h2 u2 BJ g1 wL k2 hzl f1 f0 (by omega) (by omega) (by rw [←g4];simpa using zT) ty
     obtain ⟨r1,r2,r3⟩:=mN (e:=e) (size:=te.size) (cap:=cap) (rows:=[]++xs) (zs:=zs) Ti zU (by simpa using ak.mono (qA.eN X) _ _ f2) (by rw [g3,q3];simp at q2;omega) (by simpa using q1) (by simpa using hxs)
     simp only [Nat.zero_add,List.nil_append,List.length_nil,List.length_set] at q4 r1 r2 r3 ⊢
     exact ⟨_,_,_,_,rfl,q4,qA.trans r1,r2,r3⟩
    rcases cx.box _ _ p7 with h0|⟨c2,e2,j1,j2⟩
    ·exact absurd h0 hne
    rw [p4] at j1
    simp only [osI,Obj.cells.injEq] at j1
    obtain ⟨rfl,rfl,rfl⟩:=j1
    obtain ⟨BI,v1,v2,v3⟩:=jw (β:=β) (bx:=bx) es 0 p3
    obtain ⟨TL,oa⟩:=ny p4 v2
    have hcs:ca.size=BI.length+TL.length:=by have:=congrArg List.length oa;simpa using this
    by_cases hfit:es.length+xs.length≤OG
    ·have hmul:(es.length+xs.length)*te.size≤OG*te.size:=Nat.mul_le_mul_right _ hfit
     rw [Nat.add_mul] at hmul
     have hwl:ws.length=xs.length*te.size:=by rw [f1.2.1,g3]
     have hrun:=Dh (sCap:=OG) (sLen:=es.length) h2 u2 BJ g1 f1 (ak.sc (H9 _) f2) p4 (by rw [←g3];omega) hfit ty
     obtain ⟨β',w',hw',r1,r2,r3⟩:=Jq (xs:=xs) (us:=ws) cx p7 hne p4 oa v1 (by omega) zU v3 f2 p5 hfit
     rw [←g3] at hrun
     subst hw'
     exact ⟨_,_,_,_,rfl,hrun,r1,r2,r3⟩
    obtain ⟨os,o1,o2⟩:=dI (P:=P) (β:=β) (bx:=bx) (cap:=OG) (base:=some ⟨β b',0,none⟩) (es:=es) (ok:=bc β bx w X) (fun r hr=>zU r (List.mem_append.2 (.inl hr))) (.inr ⟨β b',0,te.size,rfl,p3⟩)
    rw [g3] at o1
    have qA:Ext β bx w β (bx.set b' .dead) w:=gX p7 rfl rfl
    have Ti:cz G β (bx.set b' .dead) w X:=jv cx p7 rfl rfl trv
    obtain ⟨cap,rest,q1,q2,zs,q3,q4⟩:=iJ h2 u2 BJ g1 wL k2 hzl f1 o1 (by omega) (by omega) (by rw [←g4];exact zT) ty
    obtain ⟨r1,r2,r3⟩:=mN (e:=e) (size:=te.size) (cap:=cap) (rows:=es++xs) (zs:=zs) (vs:=os++ws) Ti zU (ak.mono (qA.eN X) _ _ (ak.flatten_append o2 f2)) (by rw [g3,q3];simp at q2 ⊢;omega) (by simpa using q1) (by simp [hne])
    rw [List.length_append] at r3
    simp only [List.length_set] at r1 r2 r3
    exact ⟨_,_,_,_,rfl,q4,qA.trans r1,r2,r3⟩
   |_=>simp [p7] at hr
  |_=>simp at hr
 |_=>rw [hk] at hr;simp at hr
end
end Dem
end
section
open Go
namespace Dem
section
variable {P:Program} {T:Nat→Option TI} {G:Nat→Option (List D)} {β:Nat→Nat} {bx:List ay} {w:World} {X:Nat→Prop}
theorem bK (s:Sem Value) {x:Value} {w':World} (h:s.run P w=.ok x w'):(do pure (Next.value (←s)):Sem Next).run P w=.ok (.value x) w':=by
 simp [h]
theorem LH {x:AV} {u:Value} {v:AV} {t:Nat} {e:Nat} (cx:cz G β bx w X) (ht:P.underlying t=some (.slice e)) (hx:aj β bx w (bc β bx w X) x u) (hr:xe x bx=some v) (ty:Nat):
 ∃r,(Builtin.len_ #[t] ty #[u]).run P w=.ok r w∧aj β bx w (bc β bx w X) v r:=by
 have fin:∀n base cap,u=.slice base n cap→v=.d (.int .i64 n)→∃r,(Builtin.len_ #[t] ty #[u]).run P w=.ok r w∧aj β bx w (bc β bx w X) v r:=by
  rintro n base cap rfl rfl
  exact ⟨.int .i64 n,by simp [Builtin.len_,aR ht,goInt],by simp [aj,aF]⟩
 unfold xe at hr
 split at hr
 ·simp only [osI] at hr;subst hr
  simp only [aj,aF] at hx
  obtain ⟨base,cap,rfl,_⟩:=hx
  exact fin _ _ _ rfl rfl
 ·simp only [osI] at hr;subst hr
  simp only [aj] at hx
  obtain ⟨base,rfl,_⟩:=hx
  exact fin _ _ _ rfl rfl
 ·split at hr
  ·rename_i es aA
   simp only [osI] at hr;subst hr
   obtain ⟨_,base,cap,rfl,_⟩:=sC cx aA hx
   exact fin _ _ _ rfl rfl
  simp at hr
 ·split at hr
  ·rename_i es aA
   simp only [osI] at hr;subst hr
   obtain ⟨_,_,base,cap,rfl,_⟩:=jz cx aA hx
   exact fin _ _ _ rfl rfl
  simp at hr
 simp at hr
theorem zZ (hT:jL P T) (cx:cz G β bx w X) {bn:Builtin} {args:List AV} {vs:List Value} {ats:List Nat} (hx:ak β bx w (bc β bx w X) args vs)
 {c:Prop} {v:AV} {b:Option (List ay)} (hr:iz T bn args ats bx=some ⟨c,v,b⟩) (hc:c) (ty:Nat) (cs:Array Bool):
 ∃r w' β',(Go.builtin bn ⟨ats⟩ ty cs ⟨vs⟩).run P w=.ok (.value r) w'∧Ext β bx w β' (dz bx b) w'∧cz G β' (dz bx b) w' X∧aj β' (dz bx b) w' (bc β' (dz bx b) w' X) v r:=by
 unfold iz at hr
 split at hr
 ·rename_i x t
  simp only [ak] at hx
  obtain ⟨u,us,rfl,hx,rfl⟩:=hx
  cases ht:T t with
  |none=>simp [ht] at hr
  |some ti=>
  obtain ⟨i,d,h1,h2,h3,h4,h5,h6⟩:=aE (hT.ti _ _ ht)
  simp only [ht] at hr
  cases hk:ti.kd with
  |array n e=>
   rw [hk] at hr h5
   cases d<;>simp [cM] at h5
   obtain ⟨rfl,rfl⟩:=h5
   simp only [R.pure,osI,R.mk.injEq] at hr
   obtain ⟨_,rfl,rfl⟩:=hr
   refine ⟨_,w,β,bK _ (x:=.int .i64 n) ?_,Ext.refl _ _ _,cx,by simp only [aj,aF]⟩
   cases u<;>simp [Builtin.len_,aR h2,goInt]
  |str=>
   rw [hk] at hr h5
   cases d<;>simp [cM] at h5
   cases x with
   |d y=>
    cases y with
    |str s=>
     simp only [R.pure,osI,R.mk.injEq] at hr
     obtain ⟨_,rfl,rfl⟩:=hr
     simp only [aj,aF] at hx;subst hx
     refine ⟨_,w,β,bK _ (x:=.int .i64 s.length) ?_,Ext.refl _ _ _,cx,by simp only [aj,aF]⟩
     have hsz:(⟨s.toArray⟩:ByteArray).size=s.length:=by show s.toArray.size=_;simp
     simp [Builtin.len_,aR h2,goInt,hsz]
    |_=>simp at hr
   |_=>simp at hr
  |slice e=>
   rw [hk] at hr h5
   cases d<;>simp [cM] at h5
   subst h5
   have oI:(match xe x bx with|some v=>R.pure v|none=>none)=some ⟨c,v,b⟩:=by
    cases x<;>first|exact hr|(rename_i y;cases y<;>exact hr)
   split at oI
   ·rename_i v' hl
    simp only [R.pure,osI,R.mk.injEq] at oI
    obtain ⟨_,rfl,rfl⟩:=oI
    obtain ⟨r,k1,k2⟩:=LH (t:=t) cx h2 hx hl ty
    exact ⟨r,w,β,bK _ k1,Ext.refl _ _ _,cx,k2⟩
   simp at oI
  |_=>rw [hk] at hr;simp at hr
 ·rename_i k x k' y
  simp only [R.pure,osI,R.mk.injEq] at hr
  obtain ⟨_,rfl,rfl⟩:=hr
  simp only [ak,aj,aF] at hx
  obtain ⟨u,us,rfl,rfl,u2,LC,rfl,rfl,rfl⟩:=hx
  refine ⟨_,w,β,bK _ (x:=.int k (min x y)) ?_,Ext.refl _ _ _,cx,by simp only [aj,aF]⟩
  simp [Builtin.min_,Builtin.min2]
  omega
 ·rename_i k x k' y
  simp only [R.pure,osI,R.mk.injEq] at hr
  obtain ⟨_,rfl,rfl⟩:=hr
  simp only [ak,aj,aF] at hx
  obtain ⟨u,us,rfl,rfl,u2,LC,rfl,rfl,rfl⟩:=hx
  refine ⟨_,w,β,bK _ (x:=.int k (max x y)) ?_,Ext.refl _ _ _,cx,by simp only [aj,aF]⟩
  simp [Builtin.max_,Builtin.max2]
  omega
 ·rename_i s x t u
  simp only [ak] at hx
  obtain ⟨v1,us,rfl,hs,v2,LC,rfl,hx,rfl⟩:=hx
  cases hu:T u with
  |none=>simp [hu] at hr
  |some tu=>
  simp only [hu] at hr
  have OD:∀k,tu.kd≠.int k:=by intro k hk;rw [hk] at hr;simp at hr
  have oI:kw T t s x bx=some ⟨c,v,b⟩:=by
   split at hr
   ·simp at hr
   exact hr
  obtain ⟨r,w',β',aP,rfl,k1,k2,k3,k4⟩:=sL hT cx hu OD hs hx oI hc ty
  exact ⟨r,w',β',bK _ k1,k2,k3,k4⟩
 simp at hr
theorem vt {n e:Nat} {te:TI} {i:TypeInfo} (d:Nat) (ht:om P e=some te) (hs:te.size=i.size) {ok:Nat→Prop}
 (IH:∀a b r x y,zQ T n e a b=some r→aj β bx w ok a x→aj β bx w ok b y→(Op.equalIn d e x y).run P w=.ok r w)
 {xs ys:List AV} {us vs:List Value} (hx:ak β bx w ok xs us) (hy:ak β bx w ok ys vs):∀(is:List Nat) (r:Bool),
 is.foldr (fun i acc=>match cB te.kd.isAgg te.size (xs.drop (i*te.size)),cB te.kd.isAgg te.size (ys.drop (i*te.size)) with
  |some a,some b=>match zQ T n e a b,acc with
   |some p,some q=>some (p&&q)
   |_,_=>none
  |_,_=>none) (some true)=some r→(Op.eqItems d e i.size ⟨us⟩ ⟨vs⟩ is).run P w=.ok r w
 |[],r,h=>by simp at h;subst h;simp [Op.eqItems]
 |j::is,r,h=>by
  rw [List.foldr_cons] at h
  split at h
  ·rename_i a b ha hb
   split at h
   ·rename_i p q hp hq
    simp only [osI] at h;subst h
    obtain ⟨x,k1,k2⟩:=mM (P:=P) (w:=w) ht ha hx
    obtain ⟨y,k3,k4⟩:=mM (P:=P) (w:=w) ht hb hy
    rw [hs] at k1 k3
    have k5:=IH a b p x y hp k2 k4
    have k6:=vt d ht hs IH hx hy is q hq
    simp only [Op.eqItems,Sem.run_bind,k1,k3,k5,Result.andThen_ok]
    cases p<;>simp [k6]
   simp at h
  simp at h
theorem sM (hT:jL P T) {n:Nat} (d:Nat) {ok:Nat→Prop}
 (IH:∀t a b r x y,zQ T n t a b=some r→aj β bx w ok a x→aj β bx w ok b y→(Op.equalIn d t x y).run P w=.ok r w)
 {xs ys:List AV} {us vs:List Value} (hx:ak β bx w ok xs us) (hy:ak β bx w ok ys vs):∀(fs:List Field) (r:Bool),(∀f∈fs,f.name≠ "_")→
 (fs.map fun f=>(f.offset,f.type)).foldr (fun f acc=>match T f.2 with
  |some tf=>match cB tf.kd.isAgg tf.size (xs.drop f.1),cB tf.kd.isAgg tf.size (ys.drop f.1) with
   |some a,some b=>match zQ T n f.2 a b,acc with
    |some p,some q=>some (p&&q)
    |_,_=>none
   |_,_=>none
  |none=>none) (some true)=some r→(Op.eqFields d ⟨us⟩ ⟨vs⟩ fs).run P w=.ok r w
 |[],r,_,h=>by simp at h;subst h;simp [Op.eqFields]
 |f::fs,r,hn,h=>by
  rw [List.map_cons,List.foldr_cons] at h
  split at h
  ·rename_i tf OB
   split at h
   ·rename_i a b ha hb
    split at h
    ·rename_i p q hp hq
     simp only [osI] at h;subst h
     obtain ⟨x,k1,k2⟩:=mM (P:=P) (w:=w) (hT.ti _ _ OB) ha hx
     obtain ⟨y,k3,k4⟩:=mM (P:=P) (w:=w) (hT.ti _ _ OB) hb hy
     have k5:=IH f.type a b p x y hp k2 k4
     have k6:=sM hT d IH hx hy fs q (fun g hg=>hn g (by simp [hg])) hq
     simp only [Op.eqFields,hn f (by simp),ne_eq,not_false_eq_true,if_true,Sem.run_bind,k1,k3,k5,Result.andThen_ok]
     cases p<;>simp [k6]
    simp at h
   simp at h
  simp at h
theorem BK (hT:jL P T) {ok:Nat→Prop} (d:Nat):∀(n t:Nat) (a b:AV) (r:Bool) (x y:Value),zQ T n t a b=some r→aj β bx w ok a x→aj β bx w ok b y→
 (Op.equalIn (d+n) t x y).run P w=.ok r w
 |0,t,a,b,r,x,y,h,_,_=>by simp [zQ] at h
 |n+1,t,a,b,r,x,y,h,hx,hy=>by
  unfold zQ at h
  split at h
  ·simp at h
  rename_i ti ht
  obtain ⟨i,ds,h1,h2,h3,h4,h5,h6⟩:=aE (hT.ti _ _ ht)
  rw [h5] at h
  split at h
  ·rename_i q j a k b hk
   cases Rp:j==k with
   |false=>simp [Rp] at h
   |true=>
   have V2:j=k:=by simpa using Rp
   subst V2
   cases ds<;>simp [cM] at hk
   simp only [aj,aF] at hx hy
   subst hx;subst hy
   simp only [Rp,cond_true,osI] at h;subst h
   rw [show d+(n+1)=(d+n)+1 from rfl]
   simp [run_equalIn_int _ (d+n) t j _ a b h2]
   rfl
  ·rename_i a b hk
   cases ds<;>simp [cM] at hk
   simp only [aj,aF] at hx hy
   subst hx;subst hy
   simp only [osI] at h;subst h
   rw [show d+(n+1)=(d+n)+1 from rfl]
   simp [run_equalIn_bool' _ (d+n) t a b h2]
  ·rename_i a b hk
   cases ds<;>simp [cM] at hk
   simp only [aj,aF] at hx hy
   subst hx;subst hy
   simp only [osI] at h;subst h
   rw [show d+(n+1)=(d+n)+1 from rfl]
   rw [run_equalIn_string _ (d+n) t _ _ h2,ByteArray.toList_eq,ByteArray.toList_eq]
   by_cases hab:a=b<;>simp [hab]
  ·rename_i len e xs ys hk
   have hd:ds=.array len e:=by cases ds<;>simp [cM] at hk;obtain ⟨rfl,rfl⟩:=hk;rfl
   subst hd
   simp only [aj] at hx hy
   obtain ⟨us,rfl,hx⟩:=hx
   obtain ⟨vs,rfl,hy⟩:=hy
   split at h
   ·rename_i te hte
    obtain ⟨ei,ed,g1,g2,g3,g4,g5,g6⟩:=aE (hT.ti _ _ hte)
    cases hl:Nat.beq len 0 with
    |true=>simp [hl] at h
    |false=>
    simp only [hl,cond_false] at h
    rw [show d+(n+1)=(d+n)+1 from rfl,run_equalIn_array _ (d+n) _ _ h2 g1]
    have:=vt (P:=P) (w:=w) (β:=β) (bx:=bx) (T:=T) (n:=n) (d+n) (hT.ti _ _ hte) g3 (fun a b r x y=>BK hT d n e a b r x y) hx hy _ _ h
    simpa [Program.cellsOf,g1] using this
   simp at h
  ·rename_i fs xs ys hk
   simp only [aj] at hx hy
   obtain ⟨us,rfl,hx⟩:=hx
   obtain ⟨vs,rfl,hy⟩:=hy
   cases ds<;>simp [cM] at hk
   rename_i gs
   subst hk
   have he:=Ov (hT.ti _ _ ht) h2
   cases hq:ti.eq with
   |false=>simp [hq] at h
   |true=>
   simp only [hq,cond_true] at h
   rw [hq] at he
   simp only [Lg] at he
   have he':=he.symm
   simp only [Bool.and_eq_true,Bool.not_eq_true',List.all_eq_true,bne_iff_ne,ne_eq] at he'
   have hf:P.fieldsOf t=gs:=by simp [Program.fieldsOf,h2]
   rw [show d+(n+1)=(d+n)+1 from rfl,run_equalIn_agg _ (d+n) t _ _ (by rw [hf];exact h2) he'.1,hf]
   exact sM hT (d+n) (fun t a b r x y=>BK hT d n t a b r x y) hx hy _ _ he'.2 h
  simp at h
theorem ul {α:Type} {F:α→Option Bool→Option Bool} (hF:∀x,F x none=none) {p:α→Prop} (hp:∀x acc r,F x acc=some r→p x):∀(xs:List α) {b r:Option Bool},xs.foldr F b=r→r≠none→∀x∈xs,p x
 |[],_,_,_,_,x,hx=>by simp at hx
 |y::ys,b,r,h,hr,x,hx=>by
  rw [List.foldr_cons] at h
  cases hq:ys.foldr F b with
  |none=>rw [hq,hF] at h;exact absurd h.symm hr
  |some q=>
  rcases List.mem_cons.1 hx with rfl|hx
  ·cases r with
   |none=>simp at hr
   |some r=>exact hp _ _ _ h
  exact ul hF hp ys hq (by simp) x hx
theorem um (hT:jL P T):∀(n m t:Nat) (a b:AV) (r:Bool),zQ T n t a b=some r→n≤m→P.eqGuardType m t=false
 |0,m,t,a,b,r,h,_=>by simp [zQ] at h
 |n+1,0,t,a,b,r,h,hm=>by omega
 |n+1,m+1,t,a,b,r,h,hm=>by
  unfold zQ at h
  split at h
  ·simp at h
  rename_i ti ht
  obtain ⟨i,ds,h1,h2,h3,h4,h5,h6⟩:=aE (hT.ti _ _ ht)
  rw [h5] at h
  unfold Program.eqGuardType
  rw [h2]
  cases ds<;>simp only [cM] at h ⊢
  all_goals try rfl
  all_goals (try (exfalso;revert h;cases a<;>cases b<;>simp;done))
  ·rename_i len e
   cases a<;>(try (simp at h;done))
   cases b<;>(try (simp at h;done))
   simp only at h
   cases hte:T e with
   |none=>simp [hte] at h
   |some te=>
   simp only [hte] at h
   cases hl:Nat.beq len 0 with
   |true=>simp [hl] at h
   |false=>
   simp only [hl,cond_false] at h
   have hall:=ul (p:=fun _=>P.eqGuardType m e=false) (fun f=>by split<;>simp) (fun f acc r hf=>by
    split at hf
    ·split at hf
     ·have hp:=‹zQ T n _ _ _=some _›
      exact um hT n m e _ _ _ hp (by omega)
     simp at hf
    simp at hf) _ h (by simp)
   exact hall 0 (by simp;have:=Nat.ne_of_beq_eq_false hl;omega)
  rename_i gs
  cases a<;>(try (simp at h;done))
  cases b<;>(try (simp at h;done))
  simp only at h
  cases hq:ti.eq with
  |false=>simp [hq] at h
  |true=>
  simp only [hq,cond_true] at h
  have hall:=ul (p:=fun f=>P.eqGuardType m f.2=false) (fun f=>by split<;>(try split)<;>simp) (fun f acc r hf=>by
   split at hf
   ·split at hf
    ·split at hf
     ·have hp:=‹zQ T n _ _ _=some _›
      exact um hT n m f.2 _ _ _ hp (by omega)
     simp at hf
    simp at hf
   simp at hf) _ h (by simp)
  rw [Array.any_eq_false]
  intro k hk
  have:=hall (gs[k].offset,gs[k].type) (List.mem_map.2 ⟨gs[k],by simp,rfl⟩)
  simp [this]
theorem uo {ev:Operand→AV} {ρ:Operand→Value} {ok:Nat→Prop}:∀(ps:List (Nat×Operand)),(∀p∈ps,aj β bx w ok (ev p.2) (ρ p.2))→cU β bx w ok (ps.map fun p=>(p.1,ev p.2)) (ps.map fun p=>(p.1,ρ p.2))
 |[],_=>by simp [cU]
 |p::ps,h=>by
  simp only [List.map_cons,cU]
  exact ⟨_,_,rfl,h p (by simp),uo ps (fun q hq=>h q (by simp [hq]))⟩
theorem gM {ev:Operand→AV} {ρ:Operand→Value} {ok:Nat→Prop}:∀(xs:List Operand),(∀x∈xs,aj β bx w ok (ev x) (ρ x))→ak β bx w ok (xs.map ev) (xs.map ρ)
 |[],_=>by simp [ak]
 |x::xs,h=>by
  simp only [List.map_cons,ak]
  exact ⟨_,_,rfl,h x (by simp),gM xs (fun q hq=>h q (by simp [hq]))⟩
theorem qH {t:TypeId} {ms:Array (String×TypeId)} (h:P.underlying t=some (.interface ms)) (a:TypeId) (b:Value):(Op.equal t (.iface a b) .nilIface).run P w=.ok false w:=by
 simp only [Op.equal,Op.maxDepth];unfold Op.equalIn;simp [aR h]
theorem qJ {t:TypeId} {ms:Array (String×TypeId)} (h:P.underlying t=some (.interface ms)):(Op.equal t .nilIface .nilIface).run P w=.ok true w:=by
 simp only [Op.equal,Op.maxDepth];unfold Op.equalIn;simp [aR h]
theorem Di {t:TypeId} {ms:Array (String×TypeId)} (h:P.underlying t=some (.interface ms)) (a:TypeId) (b:Value):(Go.binOp .eql t (.iface a b) .nilIface).run P w=.ok (.bool false) w:=by
 simp only [Go.binOp];simp [qH h]
theorem Dj {t:TypeId} {ms:Array (String×TypeId)} (h:P.underlying t=some (.interface ms)) (a:TypeId) (b:Value):(Go.binOp .neq t (.iface a b) .nilIface).run P w=.ok (.bool true) w:=by
 simp only [Go.binOp];simp [qH h]
theorem Dk {t:TypeId} {ms:Array (String×TypeId)} (h:P.underlying t=some (.interface ms)):(Go.binOp .eql t .nilIface .nilIface).run P w=.ok (.bool true) w:=by
 simp only [Go.binOp];simp [qJ h]
theorem Dl {t:TypeId} {ms:Array (String×TypeId)} (h:P.underlying t=some (.interface ms)):(Go.binOp .neq t .nilIface .nilIface).run P w=.ok (.bool false) w:=by
 simp only [Go.binOp];simp [qJ h]
theorem Dm {t:Nat} {ti:TI} (ht:om P t=some ti) {z:List AV} (hz:ti.zero.cells?=some z) {ok:Nat→Prop}:∃v,(zeroValue t).run P w=.ok v w∧aj β bx w ok ti.zero v:=by
 obtain ⟨i,d,h1,h2,h3,h4,h5,h6⟩:=aE ht
 cases wL:i.zero with
 |none=>rw [h6,wL] at hz;simp [AV.cells?] at hz
 |some v=>rw [h6,wL];exact ⟨v,fV h1 wL,sF v⟩
theorem vu {ok:Nat→Prop} {xs:List AV} {vs:List Value} (hp:jk xs=true) (h:ak β bx w ok xs vs) (f:Nat):xu f vs=.func (.func f) #[] ⟨vs⟩:=by
 cases xs with
 |nil=>simp only [ak] at h;subst h;rfl
 |cons x xs=>
  simp only [ak] at h
  obtain ⟨u,us,rfl,h1,_⟩:=h
  have:FR u∨∃c,u=.agg c:=by
   simp only [jk,Bool.or_eq_true] at hp
   rcases hp with hp|hp
   ·exact .inl (aj.sc hp h1)
   cases x<;>simp [AV.isAgg] at hp
   simp only [aj] at h1
   obtain ⟨c,e,_⟩:=h1
   exact .inr ⟨_,e⟩
  cases u<;>first|rfl|(rcases this with h|⟨c,h⟩;exact h.elim;cases h)
theorem fm {α γ:Type} (a:Array α) (f:α→γ):a.map f=⟨a.toList.map f⟩:=by
 apply Array.ext';simp
theorem Js (hT:jL P T) (cx:cz G β bx w X) {ev:Operand→AV} {ρ:Operand→Value} {o:Oper} (hρ:∀x∈o.op.operands.toList,aj β bx w (bc β bx w X) (ev x) (ρ x))
 {c:Prop} {v:AV} {b:Option (List ay)} (hr:kx T ev o.op bx=some ⟨c,v,b⟩) (hc:c):dj G β bx w X ((execOp ρ o).run P w) v (dz bx b):=by
 obtain ⟨dst,op,type,pos,after,guard⟩:=o
 simp only at hρ hr
 unfold kx at hr
 split at hr
 ·
  simp only [R.pure,osI,R.mk.injEq] at hr
  obtain ⟨_,rfl,rfl⟩:=hr
  exact dj.pure cx rfl (hρ _ (by simp [Op.operands]))
 ·simp only [R.pure,osI,R.mk.injEq] at hr
  obtain ⟨_,rfl,rfl⟩:=hr
  exact dj.pure cx rfl (hρ _ (by simp [Op.operands]))
 ·
  rename_i t
  cases ht:T t with
  |none=>simp [ht] at hr
  |some ti=>
  simp only [ht] at hr
  cases hz:ti.zero.cells? with
  |none=>simp [hz] at hr
  |some cs=>
  simp only [hz,osI,R.mk.injEq] at hr
  obtain ⟨_,rfl,rfl⟩:=hr
  obtain ⟨i,d,h1,h2,h3,h4,h5,h6⟩:=aE (hT.ti _ _ ht)
  cases wL:i.zero with
  |none=>rw [h6,wL] at hz;simp [AV.cells?] at hz
  |some z=>
  rw [h6,wL] at hz
  obtain ⟨β',w',k1,k2,k3⟩:=vp (P:=P) cx t hz (sF z)
  refine ⟨β',w',k2,k3,.inl ⟨.pointer (some ⟨β' bx.length,0,none⟩),?_,?_⟩⟩
  ·exact bK _ (by simp [Instr.alloc,fV h1 wL,k1])
  simp only [aj];exact ⟨trv,.var cs,by simp [dz],rfl⟩
 ·
  rename_i t x
  cases hz:(ev x).cells? with
  |none=>simp [hz] at hr
  |some cs=>
  simp only [hz,osI,R.mk.injEq] at hr
  obtain ⟨_,rfl,rfl⟩:=hr
  obtain ⟨β',w',k1,k2,k3⟩:=vp (P:=P) cx t hz (hρ x (by simp [Op.operands]))
  refine ⟨β',w',k2,k3,.inl ⟨.pointer (some ⟨β' bx.length,0,none⟩),?_,?_⟩⟩
  ·exact bK _ (by simp [Instr.box,k1])
  simp only [aj];exact ⟨trv,.var cs,by simp [dz],rfl⟩
 ·
  rename_i t a
  cases ht:T t with
  |none=>simp [ht] at hr
  |some ti=>
  simp only [ht] at hr
  obtain ⟨rfl,x,k1,k2⟩:=xw (P:=P) hT cx ht (hρ a (by simp [Op.operands])) hr hc
  exact dj.pure cx (bK _ k1) k2
 ·
  rename_i t a x
  cases ht:T t with
  |none=>simp [ht] at hr
  |some ti=>
  simp only [ht] at hr
  obtain ⟨rfl,aP,w',rfl,k1,k2,k3⟩:=Da (P:=P) hT cx ht (hρ a (by simp [Op.operands])) (hρ x (by simp [Op.operands])) hr hc
  exact ⟨β,w',k2,k3,.inr ⟨by simp [execOp,k1],rfl⟩⟩
 ·
  rename_i t parts
  obtain ⟨rfl,u,k1,k2⟩:=Dg (P:=P) (w:=w) (β:=β) (bx:=bx) (X:=X) hT (vs:=parts.map fun (i,x)=>(i,ρ x))
   (by rw [Array.toList_map];exact uo _ (fun p hp=>hρ p.2 (by simp [Op.operands];exact ⟨p.1,by simpa using hp⟩))) hr
  exact dj.pure cx (bK _ k1) k2
 ·
  rename_i t n parts
  obtain ⟨u,w',k1,k2,k3,k4⟩:=uk (P:=P) (w:=w) (β:=β) (bx:=bx) (X:=X) hT cx (vs:=parts.map fun (i,x)=>(i,ρ x))
   (by rw [Array.toList_map];exact uo _ (fun p hp=>hρ p.2 (by simp [Op.operands];exact ⟨p.1,by simpa using hp⟩))) hr
  exact ⟨β,w',k2,k3,.inl ⟨u,bK _ k1,k4⟩⟩
 ·
  rename_i t x f
  have hx:=hρ x (by simp [Op.operands])
  cases ht:T t with
  |none=>simp [ht] at hr
  |some ti=>
  simp only [ht] at hr
  split at hr
  ·rename_i o ft ho
   cases hft:T ft with
   |none=>simp [hft] at hr
   |some tf=>
   simp only [hft] at hr
   cases hs:Nat.beq tf.size 0 with
   |true=>simp [hs] at hr
   |false=>
   have hs':tf.size≠0:=by intro h;rw [h] at hs;simp at hs
   simp only [hs,cond_false] at hr
   have place:=fun blk off=>Db (w:=w) (hT.ti _ _ ht) ho (hT.ti _ _ hft) hs' blk off
   split at hr
   ·rename_i b' off he
    simp only [R.pure,osI,R.mk.injEq] at hr
    obtain ⟨_,rfl,rfl⟩:=hr
    rw [he] at hx;simp only [aj] at hx
    obtain ⟨hx,hb⟩:=hx
    exact dj.pure cx (bK _ (by rw [hx];exact place _ _)) (by simp only [aj];exact ⟨trv,hb⟩)
   ·rename_i b' sz i j he
    simp only [R.pure,osI,R.mk.injEq] at hr
    obtain ⟨_,rfl,rfl⟩:=hr
    rw [he] at hx;simp only [aj] at hx
    obtain ⟨hx,hb⟩:=hx
    exact dj.pure cx (bK _ (by rw [hx];exact place _ _)) (by simp only [aj];exact ⟨by rw [Nat.add_assoc],hb⟩)
   ·rename_i ds he
    simp only [R.when,osI,R.mk.injEq] at hr
    obtain ⟨rfl,rfl,rfl⟩:=hr
    rw [he] at hx;simp only [aj] at hx
    obtain ⟨blk,off,hx,hb,hrow⟩:=hx
    exact dj.pure cx (bK _ (by rw [hx];exact place _ _)) (by simp only [aj];exact ⟨blk,off+o,rfl,hb,aT.drop _ _ _ hrow⟩)
   simp at hr
  simp at hr
 ·
  rename_i t x i
  have hx:=hρ x (by simp [Op.operands])
  have hi:=hρ i (by simp [Op.operands])
  cases ht:T t with
  |none=>simp [ht] at hr
  |some ti=>
  obtain ⟨ii,d,h1,h2,h3,h4,h5,h6⟩:=aE (hT.ti _ _ ht)
  simp only [ht,h5] at hr
  split at hr
  ·rename_i n e kz z hk Rq
   have hd:d=.array n e:=by cases d<;>simp [cM] at hk;obtain ⟨rfl,rfl⟩:=hk;rfl
   subst hd
   rw [Rq] at hi;simp only [aj,aF] at hi
   split at hr
   ·rename_i te hte
    obtain ⟨ei,ed,g1,g2,g3,g4,g5,g6⟩:=aE (hT.ti _ _ hte)
    have place:∀blk off,0≤z∧z<(n:Int)→(Instr.indexAt t (.pointer (some ⟨blk,off,none⟩)) (ρ i)).run P w=.ok (.pointer (some ⟨blk,off+z.toNat*te.size,none⟩)) w:=by
     intro blk off hz
     simp [Instr.indexAt,hi,asIntOf,aR h2,Instr.sureAddr,hz.1,hz.2,bP g1,fk,g3]
    split at hr
    ·rename_i b' off he
     simp only [R.when,osI,R.mk.injEq] at hr
     obtain ⟨rfl,rfl,rfl⟩:=hr
     rw [he] at hx;simp only [aj] at hx
     obtain ⟨hx,hb⟩:=hx
     exact dj.pure cx (bK _ (by rw [hx];exact place _ _ hc)) (by simp only [aj];exact ⟨trv,hb⟩)
    ·rename_i b' sz a j he
     simp only [R.when,osI,R.mk.injEq] at hr
     obtain ⟨rfl,rfl,rfl⟩:=hr
     rw [he] at hx;simp only [aj] at hx
     obtain ⟨hx,hb⟩:=hx
     exact dj.pure cx (bK _ (by rw [hx];exact place _ _ hc)) (by simp only [aj];exact ⟨by rw [Nat.add_assoc],hb⟩)
    ·rename_i ds he
     simp only [R.when,osI,R.mk.injEq] at hr
     obtain ⟨rfl,rfl,rfl⟩:=hr
     rw [he] at hx;simp only [aj] at hx
     obtain ⟨blk,off,hx,hb,hrow⟩:=hx
     exact dj.pure cx (bK _ (by rw [hx];exact place _ _ ⟨hc.1,hc.2.1⟩)) (by simp only [aj];exact ⟨blk,_,rfl,hb,aT.drop _ _ _ hrow⟩)
    simp at hr
   simp at hr
  ·rename_i e kz z hk Rq
   cases d<;>simp [cM] at hk
   subst hk
   rw [Rq] at hi;simp only [aj,aF] at hi
   split at hr
   ·rename_i te b' sz n hte he
    obtain ⟨ei,ed,g1,g2,g3,g4,g5,g6⟩:=aE (hT.ti _ _ hte)
    cases hb:Nat.beq te.size sz with
    |false=>simp [hb] at hr
    |true=>
    have hb':=Nat.eq_of_beq_eq_true hb
    subst hb'
    simp only [hb,cond_true,R.when,osI,R.mk.injEq] at hr
    obtain ⟨rfl,rfl,rfl⟩:=hr
    rw [he] at hx;simp only [aj] at hx
    obtain ⟨Dn,hx⟩:=hx
    rcases hx with ⟨rfl,_⟩|⟨_,cap,_,_,_,hx,_⟩
    ·simp at hc;omega
    exact dj.pure cx (bK _ (by rw [hx];simp [Instr.indexAt,hi,asIntOf,aR h2,hc.1,hc.2,bP g1,fk];rfl)) (by simp only [aj];exact ⟨by rw [g3];simp,Dn⟩)
   simp at hr
  simp at hr
 ·
  rename_i t x f
  have hx:=hρ x (by simp [Op.operands])
  cases ht:T t with
  |none=>simp [ht] at hr
  |some ti=>
  obtain ⟨ii,d,h1,h2,h3,h4,h5,h6⟩:=aE (hT.ti _ _ ht)
  simp only [ht] at hr
  split at hr
  ·rename_i o ft ho
   rw [h5] at ho
   cases d<;>simp [cM,w8] at ho
   rename_i fs
   obtain ⟨fl,hfl,rfl,rfl⟩:=ho
   split at hr
   ·rename_i tf cs hft he
    split at hr
    ·rename_i v' hsp
     simp only [R.pure,osI,R.mk.injEq] at hr
     obtain ⟨_,rfl,rfl⟩:=hr
     rw [he] at hx;simp only [aj] at hx
     obtain ⟨vs,hx,hvs⟩:=hx
     obtain ⟨u,k1,k2⟩:=mM (P:=P) (w:=w) (hT.ti _ _ hft) hsp hvs
     exact dj.pure cx (bK _ (by rw [hx];simp [Instr.field,aR h2,hfl,asAgg,k1])) k2
    simp at hr
   simp at hr
  simp at hr
 ·
  rename_i t x i
  have hx:=hρ x (by simp [Op.operands])
  have hi:=hρ i (by simp [Op.operands])
  cases ht:T t with
  |none=>simp [ht] at hr
  |some ti=>
  obtain ⟨ii,d,h1,h2,h3,h4,h5,h6⟩:=aE (hT.ti _ _ ht)
  simp only [ht,h5] at hr
  split at hr
  ·rename_i s kz z hk aA Rq
   cases d<;>simp [cM] at hk
   simp only [R.when,osI,R.mk.injEq] at hr
   obtain ⟨rfl,rfl,rfl⟩:=hr
   rw [aA] at hx;simp only [aj,aF] at hx
   rw [Rq] at hi;simp only [aj,aF] at hi
   have hlt:z.toNat<s.length:=by omega
   refine dj.pure cx (u:=.int .u8 (s.getD z.toNat 0).toNat) (bK _ ?_) (by simp only [aj,aF])
   rw [hx,hi]
   have hg:(⟨s.toArray⟩:ByteArray)[z.toNat]?=some (s.getD z.toNat 0):=by
    have hsz:z.toNat<(⟨s.toArray⟩:ByteArray).size:=by show z.toNat<s.toArray.size;simpa using hlt
    have hge:(⟨s.toArray⟩:ByteArray)[z.toNat]?=some ((⟨s.toArray⟩:ByteArray)[z.toNat]'hsz):=by
     show (if h:_ then _ else _)=_
     rw [dif_pos hsz]
    rw [hge]
    simp only [List.getD_eq_getElem?_getD,List.getElem?_eq_getElem hlt,Option.getD_some]
    rfl
   simp [Instr.index,asIntOf,aR h2,hc.1,hg]
  ·rename_i n e cs kz z hk aA Rq
   cases d<;>simp [cM] at hk
   obtain ⟨rfl,rfl⟩:=hk
   rw [aA] at hx;simp only [aj] at hx
   obtain ⟨vs,hx,hvs⟩:=hx
   rw [Rq] at hi;simp only [aj,aF] at hi
   split at hr
   ·rename_i te hte
    obtain ⟨ei,ed,g1,g2,g3,g4,g5,g6⟩:=aE (hT.ti _ _ hte)
    split at hr
    ·rename_i v' hsp
     simp only [R.when,osI,R.mk.injEq] at hr
     obtain ⟨rfl,rfl,rfl⟩:=hr
     obtain ⟨u,k1,k2⟩:=mM (P:=P) (w:=w) (hT.ti _ _ hte) hsp hvs
     rw [g3] at k1
     exact dj.pure cx (bK _ (by rw [hx,hi];simp [Instr.index,asIntOf,aR h2,hc.1,hc.2,bP g1,k1])) k2
    simp at hr
   simp at hr
  simp at hr
 ·
  rename_i x i
  have hx:=hρ x (by simp [Op.operands])
  split at hr
  ·rename_i vs he
   split at hr
   ·rename_i v' hv
    simp only [R.pure,osI,R.mk.injEq] at hr
    obtain ⟨_,rfl,rfl⟩:=hr
    rw [he] at hx;simp only [aj] at hx
    obtain ⟨us,hx,Ox⟩:=hx
    obtain ⟨u,k1,k2⟩:=ak.get i _ Ox hv
    exact dj.pure cx (bK _ (by rw [hx];simp [Instr.extract,k1])) k2
   simp at hr
  simp at hr
 ·
  rename_i op t x y t2
  have hx:=hρ x (by simp [Op.operands])
  have hy:=hρ y (by simp [Op.operands])
  split at hr
  ·rename_i xs ys Oi QF
   have key:∀r,zQ T 8 t (.agg xs) (.agg ys)=some r→(Op.equalIn 10000 t (ρ x) (ρ y)).run P w=.ok r w∧P.eqGuardType P.depth t=false:=by
    intro r he
    exact ⟨BK (P:=P) (w:=w) hT 9992 8 t _ _ r _ _ he (by rw [←Oi];exact hx) (by rw [←QF];exact hy),um hT 8 _ t _ _ r he hT.deep⟩
   rw [Oi] at hx;rw [QF] at hy
   simp only [aj] at hx hy
   obtain ⟨us,ex,_⟩:=hx
   obtain ⟨vs,ey,_⟩:=hy
   rw [ex,ey] at key
   split at hr
   ·cases he:zQ T 8 t (.agg xs) (.agg ys) with
    |none=>simp [he] at hr
    |some r=>
    simp only [he,Option.bind_some,R.pure,osI,R.mk.injEq] at hr
    obtain ⟨_,rfl,rfl⟩:=hr
    obtain ⟨k1,k2⟩:=key r he
    exact dj.pure cx (u:=.bool r) (bK _ (by simp [ex,ey,run_eqGuard_agg _ _ _ _ _ _ _ k2,run_eql_struct,k1])) (by simp only [aj,aF])
   ·cases he:zQ T 8 t (.agg xs) (.agg ys) with
    |none=>simp [he] at hr
    |some r=>
    simp only [he,Option.bind_some,R.pure,osI,R.mk.injEq] at hr
    obtain ⟨_,rfl,rfl⟩:=hr
    obtain ⟨k1,k2⟩:=key r he
    exact dj.pure cx (u:=.bool (!r)) (bK _ (by simp [ex,ey,run_eqGuard_agg _ _ _ _ _ _ _ k2,run_neq_struct,k1])) (by simp only [aj,aF])
   simp at hr
  ·rename_i p q Oi QF
   rw [Oi] at hx;rw [QF] at hy
   simp only [aj,aF] at hx hy
   have guard:∀a b:Operand,(eqGuard op t a b (.bool p) (.bool q)).run P w=.ok () w:=by
    intro a b;simp only [eqGuard];split<;>simp
   split at hr
   ·rename_i ti ht
    obtain ⟨ii,d,h1,h2,h3,h4,h5,h6⟩:=aE (hT.ti _ _ ht)
    split at hr
    ·rename_i hk
     rw [h5] at hk
     cases d<;>simp [cM] at hk
     simp only [R.pure,osI,R.mk.injEq] at hr
     obtain ⟨_,rfl,rfl⟩:=hr
     exact dj.pure cx (u:=.bool (p==q)) (bK _ (by simp [hx,hy,guard,run_eql_bool _ _ _ _ h2])) (by simp only [aj,aF])
    simp at hr
   ·rename_i ti ht
    obtain ⟨ii,d,h1,h2,h3,h4,h5,h6⟩:=aE (hT.ti _ _ ht)
    split at hr
    ·rename_i hk
     rw [h5] at hk
     cases d<;>simp [cM] at hk
     simp only [R.pure,osI,R.mk.injEq] at hr
     obtain ⟨_,rfl,rfl⟩:=hr
     exact dj.pure cx (u:=.bool (!(p==q))) (bK _ (by simp [hx,hy,guard,run_neq_bool _ _ _ _ h2])) (by simp only [aj,aF])
    simp at hr
   simp at hr
  ·rename_i t0 v0 Oi QF
   rw [Oi] at hx;rw [QF] at hy
   simp only [aj] at hx hy
   obtain ⟨u0,ex,_⟩:=hx
   have ey:ρ y=.nilIface:=hy
   have guard:(eqGuard op t x y (.iface t0 u0) .nilIface).run P w=.ok () w:=by
    simp only [eqGuard];split<;>simp
   split at hr
   ·rename_i ti ht
    obtain ⟨ii,d,h1,h2,h3,h4,h5,h6⟩:=aE (hT.ti _ _ ht)
    split at hr
    ·rename_i hk
     rw [h5] at hk
     cases d<;>simp [cM] at hk
     simp only [R.pure,osI,R.mk.injEq] at hr
     obtain ⟨_,rfl,rfl⟩:=hr
     exact dj.pure cx (u:=.bool false) (bK _ (by rw [ex,ey];simp [guard,Di h2])) (by simp only [aj,aF])
    simp at hr
   ·rename_i ti ht
    obtain ⟨ii,d,h1,h2,h3,h4,h5,h6⟩:=aE (hT.ti _ _ ht)
    split at hr
    ·rename_i hk
     rw [h5] at hk
     cases d<;>simp [cM] at hk
     simp only [R.pure,osI,R.mk.injEq] at hr
     obtain ⟨_,rfl,rfl⟩:=hr
     exact dj.pure cx (u:=.bool true) (bK _ (by rw [ex,ey];simp [guard,Dj h2])) (by simp only [aj,aF])
    simp at hr
   simp at hr
  ·rename_i Oi QF
   rw [Oi] at hx;rw [QF] at hy
   have ex:ρ x=.nilIface:=hx
   have ey:ρ y=.nilIface:=hy
   split at hr
   ·rename_i cv
    have guard:(eqGuard op t x (.const cv) .nilIface .nilIface).run P w=.ok () w:=by
     simp only [eqGuard];split<;>simp
    split at hr
    ·rename_i ti ht
     obtain ⟨ii,d,h1,h2,h3,h4,h5,h6⟩:=aE (hT.ti _ _ ht)
     split at hr
     ·rename_i hk
      rw [h5] at hk
      cases d<;>simp [cM] at hk
      simp only [R.pure,osI,R.mk.injEq] at hr
      obtain ⟨_,rfl,rfl⟩:=hr
      exact dj.pure cx (u:=.bool true) (bK _ (by rw [ex,ey];simp [guard,Dk h2])) (by simp only [aj,aF])
     simp at hr
    ·rename_i ti ht
     obtain ⟨ii,d,h1,h2,h3,h4,h5,h6⟩:=aE (hT.ti _ _ ht)
     split at hr
     ·rename_i hk
      rw [h5] at hk
      cases d<;>simp [cM] at hk
      simp only [R.pure,osI,R.mk.injEq] at hr
      obtain ⟨_,rfl,rfl⟩:=hr
      exact dj.pure cx (u:=.bool false) (bK _ (by rw [ex,ey];simp [guard,Dl h2])) (by simp only [aj,aF])
     simp at hr
    simp at hr
   simp at hr
  split at hr
  ·rename_i c' d' hb
   simp only [R.when,osI,R.mk.injEq] at hr
   obtain ⟨rfl,rfl,rfl⟩:=hr
   obtain ⟨u,k1,k2,k3⟩:=Lx (P:=P) (w:=w) hb hc hx hy t
   exact dj.pure cx (bK _ (x:=u) (by simp [k1,k3])) (by simpa [aj] using k2)
  simp at hr
 ·
  rename_i op t x
  have hx:=hρ x (by simp [Op.operands])
  cases hu:Td op (ev x) with
  |none=>simp [hu] at hr
  |some d'=>
  simp only [hu,Option.bind_some,R.pure,osI,R.mk.injEq] at hr
  obtain ⟨_,rfl,rfl⟩:=hr
  obtain ⟨u,k1,k2⟩:=OA (P:=P) (w:=w) hu hx
  exact dj.pure cx (bK _ k1) (by simpa [aj] using k2)
 ·
  rename_i s d' x
  obtain ⟨rfl,u,w',k1,k2,k3,k4⟩:=FV (P:=P) hT cx (hρ x (by simp [Op.operands])) hr hc
  exact ⟨β,w',k2,k3,.inl ⟨u,bK _ k1,k4⟩⟩
 ·
  rename_i t x lo hi mx
  split at hr
  ·rename_i l h m hl hh hm
   obtain ⟨u,k1,k2,k3,k4⟩:=Df (P:=P) hT cx (hρ x (by simp [Op.operands])) (nA hl (fun y hy=>hρ y (by simp [Op.operands,hy]))) (nA hh (fun y hy=>hρ y (by simp [Op.operands,hy])))
    (nA hm (fun y hy=>hρ y (by simp [Op.operands,hy]))) hr hc
   exact ⟨β,w,k2,k3,.inl ⟨u,bK _ k1,k4⟩⟩
  simp at hr
 ·
  rename_i f first iZ
  have LI:=gM iZ.toList (ev:=ev) (ρ:=ρ) (fun y hy=>hρ y (by simp [Op.operands];exact .inr (by simpa using hy)))
  cases he:first.toList.isEmpty with
  |false=>
   simp only [he,cond_false,R.pure,osI,R.mk.injEq] at hr
   obtain ⟨_,rfl,rfl⟩:=hr
   have Rr:=gM first.toList (ev:=ev) (ρ:=ρ) (fun y hy=>hρ y (by simp [Op.operands];exact .inl (by simpa using hy)))
   refine dj.pure cx (u:=.func (.func f) ⟨first.toList.map ρ⟩ ⟨iZ.toList.map ρ⟩) (bK _ ?_) ?_
   ·simp [Instr.makeFunc,fm iZ ρ,fm first ρ]
   simp only [aj]
   exact ⟨.tuple ⟨first.toList.map ρ⟩::iZ.toList.map ρ,rfl,by simp only [ak,aj];exact ⟨_,_,rfl,⟨_,rfl,Rr⟩,LI⟩⟩
  |true=>
  cases hp:jk (iZ.toList.map ev) with
  |false=>simp [he,hp] at hr
  |true=>
  simp only [he,hp,cond_true,R.pure,osI,R.mk.injEq] at hr
  obtain ⟨_,rfl,rfl⟩:=hr
  have hf:first=#[]:=by apply Array.ext';simpa using he
  subst hf
  refine dj.pure cx (u:=.func (.func f) #[] ⟨iZ.toList.map ρ⟩) (bK _ ?_) ?_
  ·simp [Instr.makeFunc,fm iZ ρ]
  simp only [aj]
  exact ⟨_,(vu hp LI f).symm,LI⟩
 ·
  rename_i t x
  have hx:=hρ x (by simp [Op.operands])
  split at hr
  ·rename_i ti ht
   obtain ⟨ii,d,h1,h2,h3,h4,h5,h6⟩:=aE (hT.ti _ _ ht)
   cases hp:ti.kd.plain with
   |false=>simp [hp] at hr
   |true=>
   simp only [hp,cond_true,R.pure,osI,R.mk.injEq] at hr
   obtain ⟨_,rfl,rfl⟩:=hr
   refine dj.pure cx (u:=.iface t (ρ x)) (bK _ ?_) (by simp only [aj];exact ⟨_,rfl,hx⟩)
   rw [h5] at hp
   cases d<;>simp [cM,Kd.plain] at hp<;>simp [Instr.makeInterface,aR h2]
  simp at hr
 ·
  rename_i x xt u ok
  have hx:=hρ x (by simp [Op.operands])
  split at hr
  ·rename_i tu ht
   obtain ⟨ii,d,h1,h2,h3,h4,h5,h6⟩:=aE (hT.ti _ _ ht)
   cases hp:(tu.kd.plain&&tu.zero.cells?.isSome) with
   |false=>simp [hp] at hr
   |true=>
   simp only [hp,cond_true] at hr
   simp only [Bool.and_eq_true] at hp
   obtain ⟨LJ,LB⟩:=hp
   obtain ⟨zc,Rm⟩:=Option.isSome_iff_exists.1 LB
   obtain ⟨z,z1,z2⟩:=Dm (P:=P) (β:=β) (bx:=bx) (w:=w) (ok:=bc β bx w X) (hT.ti _ _ ht) Rm
   rw [h5] at LJ
   split at hr
   ·rename_i t v he
    rw [he] at hx
    simp only [aj] at hx
    obtain ⟨w1,ex,hw⟩:=hx
    cases htu:Nat.beq t u with
    |true=>
     obtain rfl:=Nat.eq_of_beq_eq_true htu
     simp only [htu,cond_true,R.pure,osI,R.mk.injEq] at hr
     obtain ⟨_,rfl,rfl⟩:=hr
     cases ok with
     |true=>
      refine dj.pure cx (u:=.tuple #[w1,.bool true]) (bK _ ?_) (by simp only [cond_true,aj,ak,aF];exact ⟨_,rfl,_,_,rfl,hw,_,_,rfl,rfl,rfl⟩)
      rw [ex]
      cases d<;>simp [cM,Kd.plain] at LJ<;>simp [Instr.typeAssert,aR h2]
     |false=>
      refine dj.pure cx (u:=w1) (bK _ ?_) (by simpa only [cond_false] using hw)
      rw [ex]
      cases d<;>simp [cM,Kd.plain] at LJ<;>simp [Instr.typeAssert,aR h2]
    |false=>
     have hne:t≠u:=Nat.ne_of_beq_eq_false htu
     cases ok with
     |false=>simp [htu] at hr
     |true=>
      simp only [htu,cond_true,cond_false,R.pure,osI,R.mk.injEq] at hr
      obtain ⟨_,rfl,rfl⟩:=hr
      refine dj.pure cx (u:=.tuple #[z,.bool false]) (bK _ ?_) (by simp only [aj,ak,aF];exact ⟨_,rfl,_,_,rfl,z2,_,_,rfl,rfl,rfl⟩)
      rw [ex]
      cases d<;>simp [cM,Kd.plain] at LJ<;>simp [Instr.typeAssert,aR h2,hne,z1]
   ·rename_i he
    rw [he] at hx
    have ex:ρ x=.nilIface:=hx
    cases ok with
    |false=>simp at hr
    |true=>
     simp only [cond_true,R.pure,osI,R.mk.injEq] at hr
     obtain ⟨_,rfl,rfl⟩:=hr
     refine dj.pure cx (u:=.tuple #[z,.bool false]) (bK _ ?_) (by simp only [aj,ak,aF];exact ⟨_,rfl,_,_,rfl,z2,_,_,rfl,rfl,rfl⟩)
     rw [ex]
     cases d<;>simp [cM,Kd.plain] at LJ<;>simp [Instr.typeAssert,aR h2,z1]
   simp at hr
  simp at hr
 ·
  rename_i x
  have hx:=hρ x (by simp [Op.operands])
  split at hr
  ·rename_i b' off he
   simp only [R.pure,osI,R.mk.injEq] at hr
   obtain ⟨_,rfl,rfl⟩:=hr
   rw [he] at hx
   have hx':=hx
   simp only [aj] at hx'
   exact dj.pure cx (u:=ρ x) (by simp [execOp,hx'.1]) hx
  ·rename_i b' s i j he
   simp only [R.pure,osI,R.mk.injEq] at hr
   obtain ⟨_,rfl,rfl⟩:=hr
   rw [he] at hx
   have hx':=hx
   simp only [aj] at hx'
   exact dj.pure cx (u:=ρ x) (by simp [execOp,hx'.1]) hx
  ·rename_i ds he
   simp only [R.pure,osI,R.mk.injEq] at hr
   obtain ⟨_,rfl,rfl⟩:=hr
   rw [he] at hx
   have hx':=hx
   simp only [aj] at hx'
   obtain ⟨blk,off,e,_⟩:=hx'
   exact dj.pure cx (u:=ρ x) (by simp [execOp,e]) hx
  ·rename_i f cs he
   simp only [R.pure,osI,R.mk.injEq] at hr
   obtain ⟨_,rfl,rfl⟩:=hr
   rw [he] at hx
   have hx':=hx
   simp only [aj] at hx'
   obtain ⟨vs,e,_⟩:=hx'
   obtain ⟨a1,a2,e2⟩:=C6 f vs
   rw [e2] at e
   exact dj.pure cx (u:=ρ x) (by simp [execOp,e]) hx
  simp at hr
 ·
  rename_i b' args ats
  obtain ⟨r,w',β',k1,k2,k3,k4⟩:=zZ (P:=P) hT cx (gM args.toList (fun y hy=>hρ y (by simp [Op.operands,Call.operands];exact by simpa using hy))) hr hc type
   (args.map fun|.const _=>true|_=>false)
  refine ⟨β',w',k2,k3,.inl ⟨r,?_,k4⟩⟩
  simp only [execOp,resolve,Sem.run_bind,Sem.run_pure,Result.andThen_ok,invoke,fm args ρ]
  exact k1
 simp at hr
end
end Dem
end
