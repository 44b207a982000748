/- Parts of a proof, joined. -/
import Derived.Test.YtihohjnkkalgiaaGreatDoorV00
import Derived.ChangeKeysEq
import Derived.Laws.StructEq
set_option linter.all false
set_option maxRecDepth 100000
set_option maxHeartbeats 4000000
section
open Go
namespace Dem
section
variable {P:Program} {T:Nat→Option TI} {G:Nat→Option (List D)} {β:Nat→Nat} {bx:List az} {w:World} {X:Nat→Prop}
theorem uF (vs:List Value):∀(k:Nat) (cs:Array Value) (off:Nat),(vs.zipIdx k).foldl (fun cs (p:Value×Nat)=>cs.setIfInBounds (off+p.2) p.1) cs=⟨aZ cs.toList (off+k) vs⟩:=by
 induction vs with
 |nil=>intro k cs off;cases h:cs.toList<;>simp [aZ]<;>(have:cs=⟨cs.toList⟩:=rfl;rw [this,h])
 |cons v vs ih=>
  intro k cs off
  simp only [List.zipIdx_cons,List.foldl_cons]
  rw [ih,oB]
  simp [show off+(k+1)=off+k+1 by omega]
def c6 (β:Nat→Nat) (bx:List az) (w:World) (ok:Nat→Prop):List (Nat×AV)→List (Nat×Value)→Prop
 |[],vs=>vs=[]
 |(i,x)::r,vs=>∃u us,vs=(i,u)::us∧aj β bx w ok x u∧c6 β bx w ok r us
theorem zP {ok:Nat→Prop} {sizes:Nat→Option (Nat×Nat)}:∀(parts:List (Nat×AV)) (vs:List (Nat×Value)) (cs:List AV) (cv:List Value) (out:List AV),c6 β bx w ok parts vs→
 ak β bx w ok cs cv→Co sizes cs parts=some out→∃ov,Instr.fill sizes ⟨cv⟩ vs=some ⟨ov⟩∧ak β bx w ok out ov
 |[],vs,cs,cv,out,hp,hc,ho=>by
  simp only [c6] at hp;subst hp
  simp only [Co,osI] at ho;subst ho
  exact ⟨cv,by simp [Instr.fill],hc⟩
 |(i,x)::r,vs,cs,cv,out,hp,hc,ho=>by
  simp only [c6] at hp
  obtain ⟨u,us,rfl,h1,h2⟩:=hp
  simp only [Co] at ho
  split at ho
  ·rename_i off size xs hs hx
   obtain ⟨ws,g1,g2,g3⟩:=nO hx h1
   have hl:=ak.length g2
   have RY:=ak.length hc
   cases hb:(Nat.beq xs.length size&&Nat.ble (off+xs.length) cs.length) with
   |false=>simp [hb] at ho
   |true=>
    simp only [hb,cond_true] at ho
    simp only [Bool.and_eq_true] at hb
    have b1:=Nat.eq_of_beq_eq_true hb.1
    have b2:=Nat.le_of_ble_eq_true hb.2
    obtain ⟨ov,k1,k2⟩:=zP r us (eM cs off xs) (aZ cv off ws) out h2 (ak.eM off hc g2) ho
    refine ⟨ov,?_,k2⟩
    simp only [Instr.fill,hs,g1]
    have e1:¬((ws.toArray.size≠size||decide (off+ws.toArray.size>(⟨cv⟩:Array Value).size))=true):=by
     simp;omega
    have e2:=uF ws 0 ⟨cv⟩ off
    simp only [Nat.add_zero] at e2
    simp only [List.size_toArray] at e1 ⊢
    rw [if_neg (by simpa using e1)]
    have e3:(Array.foldl (fun cs (x:Value×Nat)=>match x with|(c,j)=>cs.setIfInBounds (off+j) c) (⟨cv⟩:Array Value) ws.toArray.zipIdx)=⟨aZ cv off ws⟩:=by
     rw [←e2]
     simp
    rw [e3]
    exact k1
  simp at ho
theorem uG {t:Nat} {ti:TI} (ht:pJ P t=some ti) {z:List AV} (hz:ti.zero.cells?=some z) {ok:Nat→Prop}:
 ∃v vs,(zeroValue t).run P w=.ok v w∧v.cells=⟨vs⟩∧ak β bx w ok z vs∧(∀u∈vs,ID u):=by
 obtain ⟨i,d,h1,h2,h3,h4,h5,h6⟩:=aK ht
 cases yZ:i.zero with
 |none=>rw [h6,yZ] at hz;simp [AV.cells?] at hz
 |some v=>
  rw [h6,yZ] at hz
  obtain ⟨vs,g1,g2,g3⟩:=nO (ok:=ok) (β:=β) (bx:=bx) (w:=w) hz (uE v)
  exact ⟨v,vs,gL h1 yZ,g1,g2,g3⟩
theorem zQ (hT:kr P T):∀(fs:List Field),(∀f∈fs,∃tf,T f.type=some tf)→
 (fs.mapM fun f=>(do pure (f.offset,←Go.sizeOf f.type):Sem (Nat×Nat))).run P w=.ok (fs.map fun f=>(f.offset,((T f.type).map (·.size)).getD 0)) w
 |[],_=>by simp
 |f::fs,h=>by
  obtain ⟨tf,R4⟩:=h f (by simp)
  obtain ⟨i,d,h1,h2,h3,h4,h5,h6⟩:=aK (hT.ti _ _ R4)
  have ih:=zQ hT fs (fun g hg=>h g (by simp [hg]))
  simp only [List.mapM_cons,Sem.run_bind,bP h1,Result.andThen_ok,Sem.run_pure,List.map_cons]
  rw [ih]
  simp [R4,h3]
theorem FE (hT:kr P T) {t:Nat} {parts:List (Nat×AV)} {vs:Array (Nat×Value)} (hp:c6 β bx w (bg β bx w X) parts vs.toList)
 {c:Prop} {v:AV} {b:Option (List az)} (hr:DK T t parts=some ⟨c,v,b⟩):
 b=none∧∃u,(Instr.build t vs).run P w=.ok u w∧aj β bx w (bg β bx w X) v u:=by
 unfold DK at hr
 cases ht:T t with
 |none=>simp [ht] at hr
 |some ti=>
 have ht':=hT.ti t ti ht
 obtain ⟨i,d,h1,h2,h3,h4,h5,h6⟩:=aK ht'
 simp only [ht] at hr
 cases hz:ti.zero.cells? with
 |none=>simp [hz] at hr
 |some z=>
 obtain ⟨zv,zs,z1,z2,z3,_⟩:=uG (β:=β) (bx:=bx) (w:=w) (ok:=bg β bx w X) ht' hz
 simp only [hz] at hr
 cases hk:ti.kd with
 |struct fs=>
  rw [hk] at hr h5
  cases d<;>simp [cU] at h5
  rename_i fields
  subst h5
  simp only at hr
  split at hr
  ·rename_i out ho
   simp only [R.pure,osI,R.mk.injEq] at hr
   obtain ⟨_,rfl,rfl⟩:=hr
   have hall:∀f∈fields.toList,∃tf,T f.type=some tf:=by
    intro f hf
    exact hT.fields t ti _ ht hk (f.offset,f.type) (List.mem_map.2 ⟨f,hf,rfl⟩)
   have hm:=zQ (w:=w) hT fields.toList hall
   have hm':(fields.mapM fun f=>(do pure (f.offset,←Go.sizeOf f.type):Sem (Nat×Nat))).run P w=.ok ⟨fields.toList.map fun f=>(f.offset,((T f.type).map (·.size)).getD 0)⟩ w:=by
    rw [Array.mapM_eq_mapM_toList,Sem.run_map,hm];rfl
   obtain ⟨ov,k1,k2⟩:=zP parts vs.toList z zs out hp z3 ho
   refine ⟨rfl,.agg ⟨ov⟩,?_,by simp only [aj];exact ⟨ov,rfl,k2⟩⟩
   have hfun:(fun (i:Nat)=>((⟨fields.toList.map fun f=>(f.offset,((T f.type).map (·.size)).getD 0)⟩:Array (Nat×Nat)))[i]?)=
    (fun (i:Nat)=>match ((fields.toList.map fun f=>(f.offset,f.type):List (Nat×Nat)))[i]? with|some (o,ft)=>(T ft).map fun (x:TI)=>(o,x.size)|none=>none):=by
    funext i
    simp only [List.getElem?_toArray,List.getElem?_map]
    cases hf:fields.toList[i]? with
    |none=>simp
    |some f=>
     obtain ⟨tf,R4⟩:=hall f (List.mem_of_getElem? hf)
     simp [R4]
   have K8:Instr.fill (fun (i:Nat)=>((⟨fields.toList.map fun f=>(f.offset,((T f.type).map (·.size)).getD 0)⟩:Array (Nat×Nat)))[i]?) ⟨zs⟩ vs.toList=some ⟨ov⟩:=by
    rw [hfun];exact k1
   simp only [Instr.build,Sem.run_bind,z1,Result.andThen_ok,aV h2,hm',z2]
   rw [K8]
   simp
  simp at hr
 |array n e=>
  rw [hk] at hr h5
  cases d<;>simp [cU] at h5
  obtain ⟨rfl,rfl⟩:=h5
  cases hte:T e with
  |none=>simp [hte] at hr
  |some te=>
   obtain ⟨ei,ed,g1,g2,g3,g4,g5,g6⟩:=aK (hT.ti _ _ hte)
   simp only [hte] at hr
   split at hr
   ·rename_i out ho
    simp only [R.pure,osI,R.mk.injEq] at hr
    obtain ⟨_,rfl,rfl⟩:=hr
    obtain ⟨ov,k1,k2⟩:=zP parts vs.toList z zs out hp z3 ho
    refine ⟨rfl,.agg ⟨ov⟩,?_,by simp only [aj];exact ⟨ov,rfl,k2⟩⟩
    simp [Instr.build,z1,z2,aV h2,bP g1,←g3,k1]
   simp at hr
 |_=>rw [hk] at hr;simp at hr
theorem zR {size:Nat}:∀(parts:List (Nat×AV)) (bx:List az) (vs:List (Nat×Value)) (rs:List (List D)),cJ G β bx w X→c6 β bx w (bg β bx w X) parts vs→rowsOf bx size parts=some rs→
 Ext β bx w β (dI bx parts) w∧cJ G β (dI bx parts) w X∧rs.length=parts.length∧(∀r∈rs,r.length=size)∧
 ∃us:List Value,ak β (dI bx parts) w (bg β (dI bx parts) w X) (rs.flatten.map .d) us∧(∀u∈us,ID u)∧
  (vs.flatMap fun p=>p.2.cells.toList)=us∧(∀p∈vs,p.2.cells.size=size)
 |[],bx,vs,rs,cx,hp,hr=>by
  simp only [c6] at hp;subst hp
  simp only [rowsOf,osI] at hr;subst hr
  exact ⟨Ext.refl _ _ _,cx,rfl,by simp,[],by simp [ak],by simp,by simp,by simp⟩
 |(i,x)::r,bx,vs,rs,cx,hp,hr=>by
  simp only [c6] at hp
  obtain ⟨u,us,rfl,h1,h2⟩:=hp
  simp only [rowsOf] at hr
  split at hr
  ·rename_i xs hx
   split at hr
   ·rename_i ds W6 hds OG
    cases hb:Nat.beq ds.length size with
    |false=>simp [hb] at hr
    |true=>
     have hb':=Nat.eq_of_beq_eq_true hb
     simp only [hb,cond_true,osI] at hr
     subst hr
     obtain ⟨ws,g1,g2,g3⟩:=nO hx h1
     obtain ⟨e1,c1,r1⟩:=wu xs bx ds ws cx hds g2
     have OH:c6 β (eC bx xs) w (bg β (eC bx xs) w X) r us:=by
      clear OG
      induction r generalizing us with
      |nil=>simpa [c6] using h2
      |cons p r ih=>
       obtain ⟨j,y⟩:=p
       simp only [c6] at h2 ⊢
       obtain ⟨v,vs',rfl,k1,k2⟩:=h2
       exact ⟨v,vs',rfl,aj.mono (e1.eY X) _ _ k1,ih vs' k2⟩
     have Zt:rowsOf (eC bx xs) size r=some W6:=by
      clear OH h2
      have after:∀(zs:List AV) (bx:List az) (r:List (Nat×AV)) (rs:List (List D)),rowsOf bx size r=some rs→rowsOf (eC bx zs) size r=some rs:=by
       intro zs
       induction zs with
       |nil=>intro bx r rs h;exact h
       |cons z zs ih=>
        intro bx r rs h
        refine ih _ _ _ ?_
        clear ih
        induction r generalizing rs with
        |nil=>exact h
        |cons p r ih=>
         obtain ⟨j,y⟩:=p
         simp only [rowsOf] at h ⊢
         split at h
         ·rename_i ys hy
          split at h
          ·rename_i ds2 rs2 hd2 oG
           rw [tj hd2,ih rs2 oG];exact h
          simp at h
         simp at h
      exact after xs bx r W6 OG
     obtain ⟨e2,c2,l2,n2,OI,q1,q2,q3,q4⟩:=zR r (eC bx xs) us W6 c1 OH Zt
     have pW:dI bx ((i,x)::r)=dI (eC bx xs) r:=by simp [dI,hx]
     rw [pW]
     refine ⟨e1.trans e2,c2,by simp [l2],?_,ws++OI,?_,?_,?_,?_⟩
     ·intro y hy
      rcases List.mem_cons.1 hy with rfl|hy
      ·exact hb'
      exact n2 y hy
     ·simp only [List.flatten_cons,List.map_append]
      exact ak.append (ak.mono (e2.eY X) _ _ r1) q1
     ·intro y hy
      rcases List.mem_append.1 hy with hy|hy
      ·exact g3 y hy
      exact q2 y hy
     ·simp [g1,q3]
     intro p hp
     rcases List.mem_cons.1 hp with rfl|hp
     ·have:=ak.length r1
      simp [g1] at this ⊢;omega
     exact q4 p hp
   simp at hr
  simp at hr
theorem OJ:∀(parts:List (Nat×AV)) (bx:List az),Fm parts=true→dI bx parts=bx
 |[],bx,_=>rfl
 |(i,x)::r,bx,h=>by
  simp only [Fm] at h
  split at h
  ·rename_i xs hx
   simp only [Bool.and_eq_true] at h
   have hs:∀(ys:List AV) (bx:List az),cF ys=true→eC bx ys=bx:=by
    intro ys
    induction ys with
    |nil=>intro bx _;rfl
    |cons y ys ih=>
     intro bx hy
     have h1:cF [y]=true∧cF ys=true:=by cases y<;>simp_all [cF]
     simp only [eC,OF h1.1]
     exact ih bx h1.2
   simp only [dI,hx,hs xs bx h.1]
   exact OJ r bx h.2
  simp at h
theorem mc:∀(cs:List Value) (k:Nat) (us:List Value),k+us.length≤cs.length→aZ cs k us=cs.take k++us++cs.drop (k+us.length)
 |cs,k,[],_=>by cases cs<;>simp [aZ]
 |[],k,u::us,h=>by simp at h
 |c::cs,0,u::us,h=>by
  simp only [List.length_cons] at h
  simp only [aZ,mc cs 0 us (by omega)]
  simp
 |c::cs,k+1,u::us,h=>by
  simp only [List.length_cons] at h
  simp only [aZ,mc cs k (u::us) (by simp;omega)]
  simp [show k+1+(us.length+1)=k+(us.length+1)+1 by omega]
theorem zS {size:Nat}:∀(vs:List (Nat×Value)) (i:Nat) (cs:List Value),(∀k p,vs[k]?=some p→p.1=i+k)→(∀p∈vs,p.2.cells.size=size)→(i+vs.length)*size≤cs.length→
 Instr.fill (fun i=>some (i*size,size)) ⟨cs⟩ vs=some ⟨cs.take (i*size)++(vs.flatMap fun p=>p.2.cells.toList)++cs.drop ((i+vs.length)*size)⟩
 |[],i,cs,_,_,_=>by simp [Instr.fill]
 |(j,v)::r,i,cs,ho,hs,hl=>by
  have hj:j=i:=by simpa using ho 0 (j,v) rfl
  subst hj
  have hv:v.cells.size=size:=hs (j,v) (by simp)
  simp only [List.length_cons] at hl
  have hle:(j+1)*size≤cs.length:=Nat.le_trans (Nat.mul_le_mul_right _ (by omega)) hl
  rw [Nat.add_mul,Nat.one_mul] at hle
  simp only [Instr.fill,hv]
  have e1:¬((size≠size||decide (j*size+size>(⟨cs⟩:Array Value).size))=true):=by simp;omega
  rw [if_neg (by simpa using e1)]
  have e2:=uF v.cells.toList 0 ⟨cs⟩ (j*size)
  simp only [Nat.add_zero] at e2
  have e3:(Array.foldl (fun cs (x:Value×Nat)=>match x with|(c,k)=>cs.setIfInBounds (j*size+k) c) (⟨cs⟩:Array Value) v.cells.zipIdx)=⟨aZ cs (j*size) v.cells.toList⟩:=by
   rw [←e2]
   rw [←Array.foldl_toList,Array.toList_zipIdx]
  rw [e3]
  have hsp:aZ cs (j*size) v.cells.toList=cs.take (j*size)++v.cells.toList++cs.drop ((j+1)*size):=by
   rw [mc _ _ _ (by simp [hv];omega)]
   simp [hv,Nat.add_mul]
  rw [hsp,zS r (j+1) _ (fun k p hk=>by have:=ho (k+1) p (by simpa using hk);omega) (fun p hp=>hs p (by simp [hp])) (by simp [hv,Nat.add_mul] at*;omega)]
  congr 2
  have hlen:(cs.take (j*size)++v.cells.toList).length=(j+1)*size:=by simp [hv,Nat.add_mul];omega
  rw [List.take_left' hlen]
  rw [show (j+1+r.length)*size=(cs.take (j*size)++v.cells.toList).length+r.length*size by rw [hlen,Nat.add_mul]]
  rw [List.drop_append]
  simp only [List.drop_eq_nil_of_le (Nat.le_add_right _ _),List.nil_append,Nat.add_sub_cancel_left,List.drop_drop,List.flatMap_cons,List.append_assoc,List.length_cons]
  rw [show (j+1)*size+r.length*size=(j+(r.length+1))*size by simp only [Nat.add_mul];omega]
theorem wz (hT:kr P T) (cx:cJ G β bx w X) {t n:Nat} {parts:List (Nat×AV)} {vs:Array (Nat×Value)} (hp:c6 β bx w (bg β bx w X) parts vs.toList)
 {c:Prop} {v:AV} {b:Option (List az)} (hr:gj T t n parts bx=some ⟨c,v,b⟩):
 ∃u w',(Instr.buildSlice t n vs).run P w=.ok u w'∧Ext β bx w β (dF bx b) w'∧cJ G β (dF bx b) w' X∧aj β (dF bx b) w' (bg β (dF bx b) w' X) v u:=by
 unfold gj at hr
 cases ht:T t with
 |none=>simp [ht] at hr
 |some ti=>
 obtain ⟨i,d,h1,h2,h3,h4,h5,h6⟩:=aK (hT.ti t ti ht)
 simp only [ht] at hr
 cases hk:ti.kd with
 |slice e=>
  rw [hk] at hr h5
  cases d<;>simp [cU] at h5
  subst h5
  cases hte:T e with
  |none=>simp [hte] at hr
  |some te=>
  obtain ⟨ei,ed,g1,g2,g3,g4,g5,g6⟩:=aK (hT.ti _ _ hte)
  simp only [hte] at hr
  cases hb:(Nat.beq parts.length n&&mU 0 parts&&Nat.ble (n*te.size) 16777216&&te.zero.cells?.isSome) with
  |false=>simp [hb] at hr
  |true=>
  simp only [hb,cond_true] at hr
  simp only [Bool.and_eq_true] at hb
  obtain ⟨⟨⟨b1,b2⟩,b3⟩,b4⟩:=hb
  have b1:=Nat.eq_of_beq_eq_true b1
  have b3:=Nat.le_of_ble_eq_true b3
  split at hr
  ·rename_i rs OG
   simp only [osI,R.mk.injEq] at hr
   obtain ⟨_,rfl,rfl⟩:=hr
   obtain ⟨e1,c1,l1,n1,us,q1,q2,q3,q4⟩:=zR parts bx vs.toList rs cx hp OG
   have K7:dF bx (bif Fm parts then none else some (dI bx parts))=dI bx parts:=by
    cases ho:Fm parts with
    |true=>simp [OJ _ _ ho,dF]
    |false=>rfl
   rw [K7]
   have hvl:vs.toList.length=parts.length:=by
    clear OG b2 q3 q4
    have:∀(ps:List (Nat×AV)) (us:List (Nat×Value)),c6 β bx w (bg β bx w X) ps us→us.length=ps.length:=by
     intro ps
     induction ps with
     |nil=>intro us h;simp only [c6] at h;simp [h]
     |cons p ps ih=>intro us h;obtain ⟨j,y⟩:=p;simp only [c6] at h;obtain ⟨_,Ox,rfl,_,k⟩:=h;simp [ih Ox k]
    exact this _ _ hp
   have Zu:∀k p,vs.toList[k]?=some p→p.1=0+k:=by
    have:∀(ps:List (Nat×AV)) (us:List (Nat×Value)) (i:Nat),c6 β bx w (bg β bx w X) ps us→mU i ps=true→∀k p,us[k]?=some p→p.1=i+k:=by
     intro ps
     induction ps with
     |nil=>intro us i h _ k p hk;simp only [c6] at h;subst h;simp at hk
     |cons q ps ih=>
      intro us i h ho k p hk
      obtain ⟨j,y⟩:=q
      simp only [c6] at h
      obtain ⟨_,Ox,rfl,_,g⟩:=h
      simp only [mU,Bool.and_eq_true] at ho
      cases k with
      |zero=>simp at hk;subst hk;simpa using (Nat.eq_of_beq_eq_true ho.1).symm
      |succ k=>have:=ih Ox (i+1) g ho.2 k p (by simpa using hk);omega
    exact this _ _ 0 hp b2
   have hsz:us.length=n*te.size:=by
    rw [←q3]
    have:∀(ps:List (Nat×Value)),(∀p∈ps,p.2.cells.size=te.size)→(ps.flatMap fun p=>p.2.cells.toList).length=ps.length*te.size:=by
     intro ps
     induction ps with
     |nil=>intro _;simp
     |cons p ps ih=>
      intro h;simp only [List.flatMap_cons,List.length_append,ih (fun q hq=>h q (by simp [hq])),List.length_cons,Nat.add_mul]
      have:=h p (by simp);simp;omega
    rw [this _ q4,hvl,b1]
   have W7:∀(z:Array Value),((Array.range (n*te.size)).map (z[·%z.size]!)).toList.length=n*te.size:=by intro z;simp
   have K8:∀(z:Array Value),Instr.fill (fun i=>some (i*te.size,te.size)) ((Array.range (n*te.size)).map (z[·%z.size]!)) vs.toList=some ⟨us⟩:=by
    intro z
    have:=zS (size:=te.size) vs.toList 0 ((Array.range (n*te.size)).map (z[·%z.size]!)).toList Zu q4 (by rw [W7,hvl,b1];simp)
    rw [q3] at this
    have e:(⟨((Array.range (n*te.size)).map (z[·%z.size]!)).toList⟩:Array Value)=(Array.range (n*te.size)).map (z[·%z.size]!):=rfl
    rw [e] at this
    rw [this]
    congr 2
    rw [Nat.zero_mul,List.take_zero,List.nil_append,List.drop_eq_nil_of_le,List.append_nil]
    rw [W7,hvl,b1];simp
   obtain ⟨zc,U0⟩:=Option.isSome_iff_exists.1 b4
   obtain ⟨zv,_,z1,_⟩:=uG (β:=β) (bx:=bx) (w:=w) (ok:=bg β bx w X) (hT.ti _ _ hte) U0
   have hlt:¬n*te.size>2^24:=by omega
   refine ⟨.slice (some ⟨w.heap.size,0,none⟩) n n,{w with heap:=w.heap.push (.cells ⟨us⟩ e)},?_,e1.trans (uz _),Fv c1 _,?_⟩
   ·by_cases h0:n*te.size=0
    ·have:=K8 #[]
     simp only [Instr.buildSlice,Sem.run_bind,aV h2,Result.andThen_ok,bP g1,←g3,if_neg hlt,Sem.run_pure,if_pos h0,this]
     simp [newRow,newObj,Sem.run]
    have:=K8 zv.cells
    simp only [Instr.buildSlice,Sem.run_bind,aV h2,Result.andThen_ok,bP g1,←g3,if_neg hlt,Sem.run_pure,if_neg h0,z1,this]
    simp [newRow,newObj,Sem.run]
   simp only [aj]
   refine ⟨_,by rw [l1,b1],?_⟩
   by_cases Zv:rs=[]
   ·exact .inl Zv
   refine .inr ⟨w.heap.size,0,te.size,rfl,⟨by simp,fun hX=>by have:=cx.xs _ hX;omega,?_⟩,?_⟩
   ·intro i b h1 h2 h3
    have:=(c1.box i b h1).fL h2
    omega
   refine mY (β:=β) (bx:=dI bx parts) rs 0 us n1 ?_ (ak.mono ((uz (.cells ⟨us⟩ e)).eY X) _ _ q1)
   intro k u hk
   simp only [World.cell?]
   simpa using hk
  simp at hr
 |_=>rw [hk] at hr;simp at hr
end
end Dem
end
section
open Go
namespace Dem
section
variable {P:Program} {T:Nat→Option TI} {G:Nat→Option (List D)} {β:Nat→Nat} {bx:List az} {w:World} {X:Nat→Prop}
theorem Cx (f:Value→ByteArray→Sem (ForInStep ByteArray)) (hf:∀n s,f (.int .u8 n) s=pure (.yield (s.push (UInt8.ofNat n.toNat)))):
 ∀(vs:List Value) (es:List (List D)) (acc:ByteArray) (w:World) (ok:Nat→Prop),(∀r∈es,rA r)→ak β bx w ok (es.flatten.map .d) vs→
 (forIn vs acc f).run P w=.ok ⟨(acc.data.toList++es.map ry).toArray⟩ w
 |vs,[],acc,w,ok,_,h=>by
  simp only [List.flatten_nil,List.map_nil,ak] at h;subst h
  simp
 |vs,r::rs,acc,w,ok,hb,h=>by
  obtain ⟨n,hr⟩:=hb r (by simp)
  subst hr
  simp only [List.flatten_cons,List.map_cons,List.singleton_append,ak,aj,aL] at h
  obtain ⟨u,us,rfl,rfl,h2⟩:=h
  have ih:=Cx f hf us rs (acc.push (UInt8.ofNat n.toNat)) w ok (fun r hr=>hb r (by simp [hr])) h2
  simp only [List.forIn_cons,Sem.run_bind,hf,Sem.run_pure,Result.andThen_ok]
  rw [ih]
  simp [ry,ByteArray.push]
theorem uH {ok:Nat→Prop} {base:Option Addr} {cap:Nat} {es:List (List D)} (hb:∀r∈es,rA r)
 (h:es=[]∨∃blk off sz,base=some ⟨blk,off,none⟩∧ok blk∧ay w ok blk sz es off):
 (Conv.bytesToString (.slice base es.length cap)).run P w=.ok (.string ⟨(es.map ry).toArray⟩) w:=by
 cases base with
 |none=>
  rcases h with rfl|⟨_,_,_,h,_⟩
  ·simp [Conv.bytesToString];rfl
  simp at h
 |some a=>
  rcases h with rfl|⟨blk,off,sz,ha,_,hr⟩
  ·simp [Conv.bytesToString,loadCells,loadCellsFrom];rfl
  cases es with
  |nil=>simp [Conv.bytesToString,loadCells,loadCellsFrom];rfl
  |cons r rs=>
   have hsz:sz=1:=by
    obtain ⟨n,hn⟩:=hb r (by simp)
    simp only [ay] at hr
    rw [←hr.1,hn];rfl
   subst hsz
   obtain ⟨vs,g1,g2,g3⟩:=j7 (β:=fun _=>0) (bx:=[]) _ _ hr
   simp at ha;subst ha
   have:=run_loadCells (P:=P) vs g2
   rw [g1,Nat.mul_one] at this
   simp only [Conv.bytesToString,Sem.run_bind,this,Result.andThen_ok]
   simp only [List.forIn_toArray]
   rw [Cx _ (fun _ _=>rfl) vs (r::rs) ByteArray.empty w ok hb g3]
   simp
theorem IG (hT:kr P T) (cx:cJ G β bx w X) {src dst:Nat} {x:AV} {ux:Value} (hx:aj β bx w (bg β bx w X) x ux)
 {c:Prop} {v:AV} {b:Option (List az)} (hr:xH T src dst x bx=some ⟨c,v,b⟩) (hc:c):
 b=none∧∃u w',(Go.convert src dst ux).run P w=.ok u w'∧Ext β bx w β bx w'∧cJ G β bx w' X∧aj β bx w' (bg β bx w' X) v u:=by
 unfold xH at hr
 cases hs:T src with
 |none=>simp [hs] at hr
 |some ts=>
 cases hd:T dst with
 |none=>simp [hs,hd] at hr
 |some td=>
 obtain ⟨si,sd,s1,s2,s3,s4,s5,s6⟩:=aK (hT.ti _ _ hs)
 obtain ⟨di,dd,d1,d2,d3,d4,d5,d6⟩:=aK (hT.ti _ _ hd)
 simp only [hs,hd] at hr
 rw [s5,d5] at hr
 split at hr
 ·rename_i k n hk
  simp only [R.pure,osI,R.mk.injEq] at hr
  obtain ⟨_,rfl,rfl⟩:=hr
  simp only [aj,aL] at hx;subst hx
  cases dd<;>simp [cU] at hk
  subst hk
  exact ⟨rfl,_,w,by simp [Go.convert,aV s2,aV d2,Conv.intToInt];rfl,Ext.refl _ _ _,cx,by simp [aj,aL]⟩
 ·rename_i e wi hk2
  cases sd<;>simp [cU] at wi
  subst wi
  cases dd<;>simp [cU] at hk2
  split at hr
  ·rename_i te es hte aD
   obtain ⟨ei,ed,e1,e2,e3,e4,e5,e6⟩:=aK (hT.ti _ _ hte)
   rw [e5] at hr
   split at hr
   ·rename_i YZ
    simp only [R.when,osI,R.mk.injEq] at hr
    obtain ⟨rfl,rfl,rfl⟩:=hr
    cases ed<;>simp [cU] at YZ
    subst YZ
    have main:∃base cap,ux=.slice base es.length cap∧∃ok,(es=[]∨∃blk off sz,base=some ⟨blk,off,none⟩∧ok blk∧ay w ok blk sz es off):=by
     obtain ⟨_,_,base,cap,h1,_,h3⟩:=j8 cx aD hx
     exact ⟨base,cap,h1,_,h3⟩
    obtain ⟨base,cap,rfl,ok,h3⟩:=main
    have hrun:=uH (P:=P) (cap:=cap) hc h3
    refine ⟨rfl,.string ⟨(es.map ry).toArray⟩,w,?_,Ext.refl _ _ _,cx,by simp only [aj,aL]⟩
    simp [Go.convert,aV s2,aV d2,aV e2,hrun]
   simp at hr
  simp at hr
 ·rename_i s wi hk2
  simp only [R.pure,osI,R.mk.injEq] at hr
  obtain ⟨_,rfl,rfl⟩:=hr
  simp only [aj,aL] at hx;subst hx
  cases sd<;>simp [cU] at wi
  cases dd<;>simp [cU] at hk2
  exact ⟨rfl,_,w,by simp [Go.convert,aV s2,aV d2];rfl,Ext.refl _ _ _,cx,by simp [aj,aL]⟩
 simp at hr
theorem dn {es:Nat} {base:Option Addr} {cap:Nat}:(Builtin.lenOf (.slice base es cap)).run P w=.ok es w:=by simp [Builtin.lenOf]
def gx (P:Program) (w:World) (size n:Nat) (x:Value) (us:List Value):Prop:=
 (Builtin.lenOf x).run P w=.ok n w∧us.length=n*size∧∀w':World,(∀k:Nat,w.heap[k]?≠none→w'.heap[k]?=w.heap[k]?)→(Builtin.lenOf x).run P w'=.ok n w'∧(Builtin.firstCells size n x).run P w'=.ok ⟨us⟩ w'
theorem dN {ok:Nat→Prop} {base:Option Addr} {cap size:Nat} {es:List (List D)} (hs:∀r∈es,r.length=size)
 (h:es=[]∨∃blk off sz,base=some ⟨blk,off,none⟩∧ay w ok blk sz es off):
 ∃us,gx P w size es.length (.slice base es.length cap) us∧ak β bx w ok (es.flatten.map .d) us:=by
 by_cases hne:es=[]
 ·subst hne
  refine ⟨[],⟨dn,by simp,fun w' _=>⟨dn,?_⟩⟩,by simp [ak]⟩
  cases base<;>simp [Builtin.firstCells,loadCells,loadCellsFrom]
 rcases h with h|⟨blk,off,sz,rfl,hr⟩
 ·exact absurd h hne
 have hsz:sz=size:=by
  cases es with
  |nil=>exact absurd rfl hne
  |cons r rs=>simp only [ay] at hr;rw [←hr.1];exact hs r (by simp)
 subst hsz
 obtain ⟨vs,g1,g2,g3⟩:=j7 (β:=β) (bx:=bx) _ _ hr
 refine ⟨vs,⟨dn,g1,fun w' hw=>⟨dn,?_⟩⟩,g3⟩
 have:=run_loadCells (P:=P) (w:=w') (blk:=blk) (off:=off) vs (fun j v hj=>by
  have h1:=g2 j v hj
  have h2:w.heap[blk]?≠none:=by intro h0;simp [World.cell?,h0] at h1
  rw [nB (hw blk h2)];exact h1)
 rw [g1] at this
 simpa [Builtin.firstCells] using this
theorem sE (s:List UInt8):∃us,gx P w 1 s.length (.string ⟨s.toArray⟩) us∧ak β bx w (bg β bx w X) ((s.map ru).flatten.map .d) us:=by
 have hl:∀w',(Builtin.lenOf (.string ⟨s.toArray⟩)).run P w'=.ok s.length w':=by intro w';simp [Builtin.lenOf,ByteArray.size]
 refine ⟨s.map fun b=>.int .u8 b.toNat,⟨hl w,by simp,fun w' _=>⟨hl w',?_⟩⟩,?_⟩
 ·have e:(⟨s.toArray⟩:ByteArray).extract 0 s.length=⟨s.toArray⟩:=by
   rw [Lib.extract_eq];simp
  simp [Builtin.firstCells,e]
 clear hl
 induction s with
 |nil=>simp [ak]
 |cons b s ih=>simp only [List.map_cons,List.flatten_cons,ru,List.singleton_append,ak,aj,aL];exact ⟨_,_,rfl,rfl,by simpa [ru] using ih⟩
theorem lz (cx:cJ G β bx w X) {size:Nat} {x:AV} {ux:Value} {xs:List (List D)} (hx:aj β bx w (bg β bx w X) x ux) (hr:kD size x bx=some xs) (hs:∀r∈xs,r.length=size):
 ∃us,gx P w size xs.length ux us∧ak β bx w (bg β bx w X) (xs.flatten.map .d) us:=by
 have W8:∀y,x=y→(∀b,y≠.d (.str b))→y.rows bx=some xs→∃us,gx P w size xs.length ux us∧ak β bx w (bg β bx w X) (xs.flatten.map .d) us:=by
  intro y hy _ hrows
  subst hy
  by_cases how:∃b sz n,x=.ow b sz n
  ·obtain ⟨b,sz,n,rfl⟩:=how
   obtain ⟨hn,base,cap,rfl,h1,h2⟩:=uB cx hrows hx
   refine dN hs ?_
   rcases h2 with ⟨h2,_⟩|⟨_,rfl,h2,_⟩
   ·exact .inl h2
   exact .inr ⟨β b,0,sz,rfl,h2⟩
  cases hv:x.uu with
  |true=>
   cases x with
   |vw b sz off n c ex=>
    simp only [AV.rows] at hrows
    split at hrows
    ·rename_i s es' hb
     obtain ⟨rfl,hle,rfl⟩:=Cu hrows
     obtain ⟨base,cap,rfl,h1,h2⟩:=oC (IF:=bg β bx w X) hle ((cx.box b _ hb).imp id fun ⟨_,_,_,g⟩=>g) hx
     exact dN hs (h2.imp id fun ⟨a,c⟩=>⟨β b,off*s,s,a,c⟩)
    ·rename_i s es' hb
     obtain ⟨rfl,hle,rfl⟩:=Cu hrows
     obtain ⟨base,cap,rfl,h1,h2⟩:=oC (IF:=bg β bx w X) hle ((cx.box b _ hb).imp id fun ⟨_,g⟩=>g) hx
     exact dN hs (h2.imp id fun ⟨a,c⟩=>⟨β b,off*s,s,a,c⟩)
    simp at hrows
   |_=>simp [AV.uu] at hv
  |false=>
  obtain ⟨base,cap,rfl,h1,h2⟩:=zL (fun b sz n e=>how ⟨b,sz,n,e⟩) hv hrows hx
  exact dN hs (h2.imp id fun ⟨blk,off,sz,a,_,c⟩=>⟨blk,off,sz,a,c⟩)
 cases x with
 |d y=>
  cases y with
  |str s=>
   simp only [kD] at hr
   cases hb:Nat.beq size 1 with
   |false=>simp [hb] at hr
   |true=>
    have:=Nat.eq_of_beq_eq_true hb
    subst this
    simp only [hb,cond_true,osI] at hr
    subst hr
    simp only [aj,aL] at hx;subst hx
    rw [lgM]
    exact sE s
  |_=>exact W8 _ rfl (by simp) hr
 |_=>exact W8 _ rfl (by simp) hr
theorem uI {need old bytes:Nat} (h:old<need) (hb:need*bytes≤140737488355328):¬Builtin.nextslicecap need old*bytes>2^48:=by
 have:=Go.growslice_fits h hb
 omega
theorem jA {t u e sLen sCap n:Nat} {base:Option Addr} {x:Value} {us olds zc:List Value} {ei:TypeInfo} {ud:TypeDesc} {zv:Value}
 (ht:P.underlying t=some (.slice e)) (hu:P.underlying u=some ud) (R5:∀k,ud≠.int k) (hi:P.info? e=some ei) (hz:ei.zero=some zv) (U0:zv.cells=⟨zc⟩) (hzl:zc.length=ei.size)
 (hx:gx P w ei.size n x us) (hs:gx P w ei.size sLen (.slice base sLen sCap) olds)
 (hcap:sCap<sLen+n) (hb0:0<ei.bytes) (hb:(sLen+n)*ei.bytes≤140737488355328) (ty:Nat):
 ∃cap rest,sLen+n≤cap∧(cap*ei.size=us.length+olds.length+rest)∧∃zs:List Value,zs.length=rest∧
  (Builtin.append_ #[t,u] ty #[.slice base sLen sCap,x]).run P w=.ok (.slice (some ⟨w.heap.size,0,none⟩) (sLen+n) cap)
   {w with drawn:=w.drawn+1,heap:=w.heap.push (.cells ⟨olds++us++zs⟩ e)}:=by
 obtain ⟨cap,uJ⟩:∃cap,cap=(Question.appendCap (sLen+n) sCap e).cut (w.tape w.drawn (Question.appendCap (sLen+n) sCap e)):=⟨_,rfl⟩
 have OK:sLen+n≤cap:=by rw [uJ];simp only [Question.cut];omega
 refine ⟨cap,(cap-(sLen+n))*ei.size,OK,?_,(Builtin.zeroCells ⟨zc⟩ (cap-(sLen+n))).toList,by simp [Builtin.zeroCells,hzl],?_⟩
 ·rw [hx.2.1,hs.2.1]
  have:cap=sLen+n+(cap-(sLen+n)):=by omega
  conv=>lhs;rw [this]
  simp only [Nat.add_mul];omega
 have hnc:=uI hcap hb
 have U1:¬(281474976710656<Builtin.nextslicecap (sLen+n) sCap*ei.bytes):=by omega
 have U2:ei.bytes≠0:=by omega
 have hn:¬(sLen+n≤sCap):=by omega
 have h1:=(hs.2.2 w.drew (fun _ _=>rfl)).2
 have h2:=(hx.2.2 w.drew (fun _ _=>rfl)).2
 simp [Builtin.append_,aV ht,aV hu,bP hi,l5 hi,gL hi hz,hx.1,hn,U1,U2,Question.forced,h1,h2,U0,newRow,←uJ]
 have e1:(⟨olds⟩++(⟨us⟩++Builtin.zeroCells ⟨zc⟩ (cap-(sLen+n))):Array Value)=⟨olds++(us++(Builtin.zeroCells ⟨zc⟩ (cap-(sLen+n))).toList)⟩:=by
  apply Array.ext'
  simp
 rw [e1]
 rfl
theorem FF {t u e e' sLen sCap n blk:Nat} {x:Value} {us:List Value} {ei:TypeInfo} {ud:TypeDesc} {c:Array Value}
 (ht:P.underlying t=some (.slice e)) (hu:P.underlying u=some ud) (R5:∀k,ud≠.int k) (hi:P.info? e=some ei)
 (hx:gx P w ei.size n x us) (hsc:∀v∈us,ID v) (hb:w.heap[blk]?=some (.cells c e' (0,0))) (hfit:sLen*ei.size+us.length≤c.size) (hcap:sLen+n≤sCap) (ty:Nat):
 (Builtin.append_ #[t,u] ty #[.slice (some ⟨blk,0,none⟩) sLen sCap,x]).run P w=.ok (.slice (some ⟨blk,0,none⟩) (sLen+n) sCap) (dX w blk (.cells ⟨aZ c.toList (sLen*ei.size) us⟩ e' (0,0))):=by
 have h2:=(hx.2.2 w (fun _ _=>rfl)).2
 have hs:=jv (P:=P) (off:=sLen*ei.size) us 0 w c hb hsc (by simpa using hfit)
 simp only [Nat.add_zero] at hs
 simp [Builtin.append_,aV ht,aV hu,bP hi,hx.1,hcap,h2,fO,hs]
theorem xN {t u e:Nat} {base:Option Addr} {x:Value} {us:List Value} {ei:TypeInfo} {ud:TypeDesc}
 (ht:P.underlying t=some (.slice e)) (hu:P.underlying u=some ud) (R5:∀k,ud≠.int k) (hi:P.info? e=some ei)
 (hx:gx P w ei.size 0 x us) (ty:Nat):
 (Builtin.append_ #[t,u] ty #[.slice base 0 0,x]).run P w=.ok (.slice base 0 0) w:=by
 have h2:=(hx.2.2 w (fun _ _=>rfl)).2
 have hl:us=[]:=by have:=hx.2.1;simpa using this
 subst hl
 cases base<;>simp [Builtin.append_,aV ht,aV hu,bP hi,hx.1,h2,storeCells]
theorem tq {B:az} (hB:B.live=false) (k:Nat):Ext β bx w (kZ β bx.length k) (bx++[B]) w:=by
 refine ⟨rfl,rfl,rfl,Nat.le_refl _,fun _ _ _=>rfl,fun k c e f h=>⟨c,h,rfl⟩,?_,?_⟩
 ·rintro i ⟨b,h1,h2⟩
  have:=jw h1
  exact ⟨dc _ _ (by omega),b,eH h1,h2⟩
 intro i b h1 h2
 rcases bu h1 with ⟨h3,h4⟩|⟨rfl,rfl⟩
 ·exact .inr ⟨i,b,h3,h2,(dc _ _ (by omega)).symm⟩
 rw [hB] at h2;simp at h2
theorem zT (cx:cJ G β bx w X) {B:az} (hB:B.live=false) (k:Nat) (hok:dj (kZ β bx.length k) (bx++[B]) w (bg (kZ β bx.length k) (bx++[B]) w X) B k):cJ G (kZ β bx.length k) (bx++[B]) w X:=by
 refine cx.step (tq hB k) ?_ ?_
 ·intro i b hb
  rcases bu hb with ⟨h3,h4⟩|⟨rfl,rfl⟩
  ·exact .inl ⟨h3,fun _=>rfl⟩
  exact .inr (by rw [bq];exact hok)
 intro i j bi bj h1 h2 l1 l2 he
 rcases bu h1 with ⟨h3,h4⟩|⟨rfl,rfl⟩
 ·rcases bu h2 with ⟨h5,h6⟩|⟨rfl,rfl⟩
  ·rw [dc _ _ (by omega),dc _ _ (by omega)] at he
   exact cx.inj i j bi bj h3 h5 l1 l2 he
  rw [hB] at l2;simp at l2
 rw [hB] at l1;simp at l1
theorem nQ (cx:cJ G β bx w X) {e size cap:Nat} {rows:List (List D)} {vs zs:List Value} (hl:∀r∈rows,r.length=size) (hv:ak β bx w (bg β bx w X) (rows.flatten.map .d) vs)
 (hcap:cap*size≤vs.length+zs.length) (hlen:rows.length≤cap) (hne:rows≠[]):
 let w':World:={w with drawn:=w.drawn+1,heap:=w.heap.push (.cells ⟨vs++zs⟩ e)}
 Ext β bx w (kZ β bx.length w.heap.size) (bx++[.row size rows]) w'∧cJ G (kZ β bx.length w.heap.size) (bx++[.row size rows]) w' X∧
  aj (kZ β bx.length w.heap.size) (bx++[.row size rows]) w' (bg (kZ β bx.length w.heap.size) (bx++[.row size rows]) w' X) (.ow bx.length size rows.length) (.slice (some ⟨w.heap.size,0,none⟩) rows.length cap):=by
 intro w'
 have R6:=pV cx (fy w)
 have zU:Ext β bx w β bx {w with drawn:=w.drawn+1}:=jg (fy w)
 have W9:Ext β bx {w with drawn:=w.drawn+1} (kZ β bx.length w.heap.size) (bx++[.row size rows]) w':=gk (w:={w with drawn:=w.drawn+1}) (.cells ⟨vs++zs⟩ e) (.row size rows)
 have hnew:w'.heap[w.heap.size]?=some (.cells ⟨vs++zs⟩ e):=jk {w with drawn:=w.drawn+1} _
 refine ⟨zU.trans W9,?_,?_⟩
 ·refine kF (w:={w with drawn:=w.drawn+1}) R6 (.cells ⟨vs++zs⟩ e) (.row size rows) (.inr ⟨_,e,hnew,?_⟩)
  refine mY (β:=kZ β bx.length w.heap.size) (bx:=bx++[.row size rows]) rows 0 vs hl ?_ (ak.mono ((zU.trans W9).eY X) _ _ hv)
  intro k u hk
  have hk':k<vs.length:=by
   rcases Nat.lt_or_ge k vs.length with h|h
   ·exact h
   simp [List.getElem?_eq_none h] at hk
  show World.cell? w' ⟨w.heap.size,0+k,none⟩=some u
  simp only [World.cell?,hnew]
  simp [List.getElem?_append_left hk',hk]
 simp only [aj]
 refine ⟨⟨.row size rows,by simp,rfl⟩,.inr ⟨by simpa using hne,cap,_,e,(0,0),by rw [bq],hlen,by rw [bq];exact hnew,by simpa using hcap⟩⟩
end
end Dem
end
section
open Go
namespace Dem
section
variable {P:Program} {T:Nat→Option TI} {G:Nat→Option (List D)} {β:Nat→Nat} {bx:List az} {w:World} {X:Nat→Prop}
theorem ak.flatten_append {ok:Nat→Prop} {es xs:List (List D)} {vs us:List Value} (h1:ak β bx w ok (es.flatten.map .d) vs) (h2:ak β bx w ok (xs.flatten.map .d) us):
 ak β bx w ok ((es++xs).flatten.map .d) (vs++us):=by
 rw [List.flatten_append,List.map_append];exact ak.append h1 h2
theorem K9 (ds:List D):ur (ds.map .d)=true:=by
 induction ds with
 |nil=>rfl
 |cons d ds ih=>simp [ur,AV.sc,ih]
theorem Ms (cx:cJ G β bx w X) {b size cap:Nat} {es xs:List (List D)} {c:Array Value} {e:TypeId} {vs us rest:List Value} (hb:bx[b]?=some (.row size es)) (hne:es≠[])
 (hh:w.heap[β b]?=some (.cells c e (0,0))) (hc:c.toList=vs++rest) (hvl:vs.length=es.length*size) (abY:us.length≤rest.length)
 (hl:∀r∈es++xs,r.length=size) (hv:ak β bx w (bg β bx w X) (es.flatten.map .d) vs) (hu:ak β bx w (bg β bx w X) (xs.flatten.map .d) us)
 (hcap:cap*size≤c.size) (hlen:es.length+xs.length≤cap):
 ∃β' w',w'=dX w (β b) (.cells ⟨aZ c.toList (es.length*size) us⟩ e (0,0))∧Ext β bx w β' ((bx.set b .dead)++[.row size (es++xs)]) w'∧cJ G β' ((bx.set b .dead)++[.row size (es++xs)]) w' X∧
  aj β' ((bx.set b .dead)++[.row size (es++xs)]) w' (bg β' ((bx.set b .dead)++[.row size (es++xs)]) w' X) (.ow bx.length size (es.length+xs.length)) (.slice (some ⟨β b,0,none⟩) (es.length+xs.length) cap):=by
 have cz:(az.row size es).live=true:=by cases es<;>simp_all [az.live]
 have abZ:=jw hb
 have hlen':(bx.set b .dead).length=bx.length:=by simp
 have hsp:aZ c.toList (es.length*size) us=vs++us++rest.drop us.length:=by
  rw [hc,←hvl,mc _ _ _ (by simp;omega)]
  simp
 have La:(⟨aZ c.toList (es.length*size) us⟩:Array Value).size=c.size:=by simp [dm]
 have ex:Ext β bx w (kZ β bx.length (β b)) ((bx.set b .dead)++[.row size (es++xs)]) (dX w (β b) (.cells ⟨aZ c.toList (es.length*size) us⟩ e (0,0))):=by
  refine ⟨rfl,rfl,rfl,by simp [dX],?_,?_,?_,?_⟩
  ·intro k _ hl'
   exact iN (fun e=>hl' b _ hb cz e.symm)
  ·intro k c1 e1 f1 hk
   by_cases h:k=β b
   ·subst h
    rw [hh] at hk
    simp only [osI,Obj.cells.injEq] at hk
    obtain ⟨rfl,rfl,rfl⟩:=hk
    exact ⟨_,dQ hh,La⟩
   exact ⟨c1,by rw [iN h];exact hk,rfl⟩
  ·intro i hi
   have hil:i<bx.length:=by obtain ⟨_,h1,_⟩:=hi;exact jw h1
   obtain ⟨B,h1,h2⟩:=iH (b:=b) (B':=.dead) rfl hi
   exact ⟨dc _ _ (by omega),B,eH h1,h2⟩
  intro i B h1 h2
  rcases bu h1 with ⟨h3,h4⟩|⟨rfl,rfl⟩
  ·rcases aM h3 with ⟨_,rfl,_⟩|⟨_,h5⟩
   ·simp [az.live] at h2
   exact .inr ⟨i,B,h5,h2,(dc _ _ (by simp at h4;omega)).symm⟩
  exact .inr ⟨b,_,hb,cz,by rw [hlen',bq]⟩
 refine ⟨kZ β bx.length (β b),_,rfl,ex,?_,?_⟩
 ·refine cx.step ex ?_ ?_
  ·intro i B h1
   rcases bu h1 with ⟨h3,h4⟩|⟨rfl,rfl⟩
   ·rcases aM h3 with ⟨_,rfl,_⟩|⟨h5,h6⟩
    ·exact .inr trv
    exact .inl ⟨h6,fun hl'=>iN (fun e=>h5 (cx.inj i b B _ h6 hb hl' cz e))⟩
   refine .inr (.inr ⟨_,e,by rw [hlen',bq];exact dQ hh,?_⟩)
   rw [hlen',bq]
   refine mY (β:=kZ β bx.length (β b)) (bx:=(bx.set b .dead)++[.row size (es++xs)]) _ 0 (vs++us) hl ?_ (ak.mono (ex.eY X) _ _ (ak.flatten_append hv hu))
   intro k u hk
   have hk':k<(vs++us).length:=by
    rcases Nat.lt_or_ge k (vs++us).length with h|h
    ·exact h
    simp [List.getElem?_eq_none h] at hk
   simp only [World.cell?,dQ hh]
   simp only [hsp,Nat.zero_add]
   have R7:(vs++us++rest.drop us.length)[k]?=some u:=by rw [List.getElem?_append_left hk'];exact hk
   simpa using R7
  intro i j bi bj h1 h2 l1 l2 he
  rcases bu h1 with ⟨h3,h4⟩|⟨rfl,rfl⟩<;>rcases bu h2 with ⟨h5,h6⟩|⟨rfl,rfl⟩
  ·rcases aM h3 with ⟨_,rfl,_⟩|⟨n3,g3⟩
   ·simp [az.live] at l1
   rcases aM h5 with ⟨_,rfl,_⟩|⟨n5,g5⟩
   ·simp [az.live] at l2
   simp at h4 h6
   rw [dc _ _ (by omega),dc _ _ (by omega)] at he
   exact cx.inj i j bi bj g3 g5 l1 l2 he
  ·rcases aM h3 with ⟨_,rfl,_⟩|⟨n3,g3⟩
   ·simp [az.live] at l1
   simp at h4
   rw [hlen',dc _ _ (by omega),bq] at he
   exact absurd (cx.inj i b bi _ g3 hb l1 cz he) n3
  ·rcases aM h5 with ⟨_,rfl,_⟩|⟨n5,g5⟩
   ·simp [az.live] at l2
   simp at h6
   rw [hlen',bq,dc _ _ (by omega)] at he
   exact absurd (cx.inj j b bj _ g5 hb l2 cz he.symm) n5
  rfl
 simp only [aj]
 have OL:es.length+xs.length≠0:=by
  have:=List.length_pos_iff.2 hne;omega
 refine ⟨⟨.row size (es++xs),by rw [←hlen'];simp,rfl⟩,.inr ⟨OL,cap,_,e,(0,0),by rw [bq],hlen,by rw [bq];exact dQ hh,by rw [La];exact hcap⟩⟩
theorem mg {te:TI} (h:eN te=true):∃z,te.zero.cells?=some z∧z.length=te.size∧0<te.bytes∧0<te.size:=by
 unfold eN at h
 split at h
 ·rename_i z hz
  simp only [Bool.and_eq_true] at h
  refine ⟨z,hz,Nat.eq_of_beq_eq_true h.1.1,?_,?_⟩
  ·have:=h.1.2;simpa [Nat.blt_eq] using this
  have:=h.2;simpa [Nat.blt_eq] using this
 simp at h
theorem uK (hT:kr P T) (cx:cJ G β bx w X) {t u:Nat} {s x:AV} {us ux:Value} {tu:TI} (hu:T u=some tu) (R5:∀k,tu.kd≠.int k)
 (hs:aj β bx w (bg β bx w X) s us) (hx:aj β bx w (bg β bx w X) x ux) {c:Prop} {v:AV} {b:Option (List az)} (hr:lq T t s x bx=some ⟨c,v,b⟩) (hc:c) (ty:Nat):
 ∃r w' β' aR,b=some aR∧(Builtin.append_ #[t,u] ty #[us,ux]).run P w=.ok r w'∧Ext β bx w β' aR w'∧cJ G β' aR w' X∧aj β' aR w' (bg β' aR w' X) v r:=by
 obtain ⟨ui,ud,u1,u2,u3,u4,u5,u6⟩:=aK (hT.ti _ _ hu)
 have DT:∀k,ud≠.int k:=by rintro k rfl;exact R5 k (by rw [u5];rfl)
 unfold lq at hr
 cases ht:T t with
 |none=>simp [ht] at hr
 |some ti=>
 obtain ⟨i,d,h1,h2,h3,h4,h5,h6⟩:=aK (hT.ti _ _ ht)
 simp only [ht] at hr
 cases hk:ti.kd with
 |slice e=>
  rw [hk] at hr h5
  cases d<;>simp [cU] at h5
  subst h5
  cases hte:T e with
  |none=>simp [hte] at hr
  |some te=>
  obtain ⟨ei,ed,g1,g2,g3,g4,g5,g6⟩:=aK (hT.ti _ _ hte)
  simp only [hte] at hr
  cases hz:eN te with
  |false=>simp [hz] at hr
  |true=>
  obtain ⟨z,hz1,RF,Y0,Y1⟩:=mg hz
  obtain ⟨zv,zc,k1,k2,k3,_⟩:=uG (β:=β) (bx:=bx) (w:=w) (ok:=bg β bx w X) (hT.ti _ _ hte) hz1
  have hzl:zc.length=ei.size:=by rw [ak.length k3,RF,g3]
  have yZ:ei.zero=some zv:=by
   cases hq:ei.zero with
   |none=>rw [g6,hq] at hz1;simp [AV.cells?] at hz1
   |some q=>have:=gL (P:=P) (w:=w) g1 hq;rw [k1] at this;simp at this;rw [this]
  simp only [hz,cond_true] at hr
  cases Xa:kD te.size x bx with
  |none=>simp [Xa] at hr
  |some xs=>
  simp only [Xa] at hr
  cases s with
  |cl es=>
   simp only [aj] at hs
   obtain ⟨base,rfl,hbase⟩:=hs
   cases es with
   |nil=>
    simp only [osI,R.mk.injEq] at hr
    obtain ⟨rfl,rfl,rfl⟩:=hr
    obtain ⟨BW,BX⟩:=hc
    obtain ⟨ws,f1,f2⟩:=lz (P:=P) cx hx Xa BX
    rw [g3] at f1
    by_cases hxs:xs=[]
    ·subst hxs
     have hrun:=xN (base:=base) h2 u2 DT g1 f1 ty
     refine ⟨_,w,_,_,rfl,hrun,tq (B:=.row te.size []) rfl 0,zT cx (B:=.row te.size []) rfl 0 (.inl rfl),?_⟩
     simp only [aj]
     exact ⟨⟨.row te.size [],by simp,rfl⟩,.inl ⟨rfl,base,rfl⟩⟩
    have hpos:=List.length_pos_iff.2 hxs
    have f0:gx P w ei.size 0 (.slice base 0 0) []:=by
     refine ⟨dn,by simp,fun w' _=>⟨dn,?_⟩⟩
     cases base<;>simp [Builtin.firstCells,loadCells,loadCellsFrom]
    obtain ⟨cap,rest,q1,q2,zs,q3,q4⟩:=jA h2 u2 DT g1 yZ k2 hzl f1 f0 (by omega) (by omega) (by rw [←g4];simpa using BW) ty
    obtain ⟨r1,r2,r3⟩:=nQ (e:=e) (size:=te.size) (cap:=cap) (rows:=xs) (zs:=zs) cx BX f2 (by rw [g3,q3];simp at q2;omega) (by omega) hxs
    simp only [Nat.zero_add,List.nil_append] at q4
    exact ⟨_,_,_,_,rfl,q4,r1,r2,r3⟩
   |cons e0 er=>
    cases xs with
    |nil=>simp at hr
    |cons x0 xr=>
     simp only [osI,R.mk.injEq] at hr
     obtain ⟨rfl,rfl,rfl⟩:=hr
     obtain ⟨BW,BX⟩:=hc
     obtain ⟨ws,f1,f2⟩:=lz (P:=P) cx hx Xa (fun r hr=>BX r (List.mem_append.2 (.inr hr)))
     obtain ⟨os,o1,o2⟩:=dN (P:=P) (β:=β) (bx:=bx) (cap:=(e0::er).length) (base:=base) (es:=e0::er) (ok:=bg β bx w X) (fun r hr=>BX r (List.mem_append.2 (.inl hr))) (hbase.imp id fun ⟨blk,off,sz,a,_,c⟩=>⟨blk,off,sz,a,c⟩)
     rw [g3] at f1 o1
     obtain ⟨cap,rest,q1,q2,zs,q3,q4⟩:=jA h2 u2 DT g1 yZ k2 hzl f1 o1 (by simp) (by omega) (by rw [←g4];exact BW) ty
     obtain ⟨r1,r2,r3⟩:=nQ (e:=e) (size:=te.size) (cap:=cap) (rows:=(e0::er)++(x0::xr)) (zs:=zs) (vs:=os++ws) cx BX (ak.flatten_append o2 f2) (by rw [g3,q3];simp at q2 ⊢;omega) (by rw [List.length_append];exact q1) (by simp)
     rw [List.length_append] at r3
     exact ⟨_,_,_,_,rfl,q4,r1,r2,r3⟩
  |ow b' sz n=>
   cases rI:bx[b']? with
   |none=>simp [rI] at hr
   |some B=>
   cases B with
   |row s2 es=>
    simp only [rI] at hr
    cases II:sameBox b' x with
    |true=>simp [II] at hr
    |false=>
    simp only [II,cond_false,osI,R.mk.injEq] at hr
    obtain ⟨rfl,rfl,rfl⟩:=hr
    obtain ⟨rfl,rfl,rfl,BW,BX⟩:=hc
    obtain ⟨ws,f1,f2⟩:=lz (P:=P) cx hx Xa (fun r hr=>BX r (List.mem_append.2 (.inr hr)))
    have hrows:(AV.ow b' te.size es.length).rows bx=some es:=by simp [AV.rows,rI]
    obtain ⟨_,base,R8,rfl,p1,p2⟩:=uB cx hrows hs
    rw [g3] at f1
    rcases p2 with ⟨rfl,rfl⟩|⟨hne,rfl,p3,ca,ce,cf,p4,p5⟩
    ·
     have so:Ext β bx w β (bx.set b' .dead) w:=iI rI rfl rfl
     have WE:cJ G β (bx.set b' .dead) w X:=jZ cx rI rfl rfl trv
     by_cases hxs:xs=[]
     ·subst hxs
      have hrun:=xN (base:=base) h2 u2 DT g1 f1 ty
      refine ⟨_,w,_,_,rfl,hrun,so.trans (tq (B:=.row te.size ([]++[])) rfl 0),zT WE (B:=.row te.size ([]++[])) rfl 0 (.inl rfl),?_⟩
      simp only [aj]
      exact ⟨⟨.row te.size [],by simp,rfl⟩,.inl ⟨rfl,base,rfl⟩⟩
     have hpos:=List.length_pos_iff.2 hxs
     have f0:gx P w ei.size 0 (.slice base 0 0) []:=by
      refine ⟨dn,by simp,fun w' _=>⟨dn,?_⟩⟩
      cases base<;>simp [Builtin.firstCells,loadCells,loadCellsFrom]
     obtain ⟨cap,rest,q1,q2,zs,q3,q4⟩:=jA h2 u2 DT g1 yZ k2 hzl f1 f0 (by omega) (by omega) (by rw [←g4];simpa using BW) ty
     obtain ⟨r1,r2,r3⟩:=nQ (e:=e) (size:=te.size) (cap:=cap) (rows:=[]++xs) (zs:=zs) WE BX (by simpa using ak.mono (so.eY X) _ _ f2) (by rw [g3,q3];simp at q2;omega) (by simpa using q1) (by simpa using hxs)
     simp only [Nat.zero_add,List.nil_append,List.length_nil,List.length_set] at q4 r1 r2 r3 ⊢
     exact ⟨_,_,_,_,rfl,q4,so.trans r1,r2,r3⟩
    rcases cx.box _ _ rI with h0|⟨c2,e2,j1,j2⟩
    ·exact absurd h0 hne
    rw [p4] at j1
    simp only [osI,Obj.cells.injEq] at j1
    obtain ⟨rfl,rfl,rfl⟩:=j1
    obtain ⟨DS,v1,v2,v3⟩:=j7 (β:=β) (bx:=bx) es 0 p3
    obtain ⟨Xb,py⟩:=oD p4 v2
    have hcs:ca.size=DS.length+Xb.length:=by have:=congrArg List.length py;simpa using this
    by_cases hfit:es.length+xs.length≤R8
    ·have hmul:(es.length+xs.length)*te.size≤R8*te.size:=Nat.mul_le_mul_right _ hfit
     rw [Nat.add_mul] at hmul
     have hwl:ws.length=xs.length*te.size:=by rw [f1.2.1,g3]
     have hrun:=FF (sCap:=R8) (sLen:=es.length) h2 u2 DT g1 f1 (ak.sc (K9 _) f2) p4 (by rw [←g3];omega) hfit ty
     obtain ⟨β',w',hw',r1,r2,r3⟩:=Ms (xs:=xs) (us:=ws) cx rI hne p4 py v1 (by omega) BX v3 f2 p5 hfit
     rw [←g3] at hrun
     subst hw'
     exact ⟨_,_,_,_,rfl,hrun,r1,r2,r3⟩
    obtain ⟨os,o1,o2⟩:=dN (P:=P) (β:=β) (bx:=bx) (cap:=R8) (base:=some ⟨β b',0,none⟩) (es:=es) (ok:=bg β bx w X) (fun r hr=>BX r (List.mem_append.2 (.inl hr))) (.inr ⟨β b',0,te.size,rfl,p3⟩)
    rw [g3] at o1
    have so:Ext β bx w β (bx.set b' .dead) w:=iI rI rfl rfl
    have WE:cJ G β (bx.set b' .dead) w X:=jZ cx rI rfl rfl trv
    obtain ⟨cap,rest,q1,q2,zs,q3,q4⟩:=jA h2 u2 DT g1 yZ k2 hzl f1 o1 (by omega) (by omega) (by rw [←g4];exact BW) ty
    obtain ⟨r1,r2,r3⟩:=nQ (e:=e) (size:=te.size) (cap:=cap) (rows:=es++xs) (zs:=zs) (vs:=os++ws) WE BX (ak.mono (so.eY X) _ _ (ak.flatten_append o2 f2)) (by rw [g3,q3];simp at q2 ⊢;omega) (by simpa using q1) (by simp [hne])
    rw [List.length_append] at r3
    simp only [List.length_set] at r1 r2 r3
    exact ⟨_,_,_,_,rfl,q4,so.trans r1,r2,r3⟩
   |_=>simp [rI] at hr
  |_=>simp at hr
 |_=>rw [hk] at hr;simp at hr
end
end Dem
end
section
open Go
namespace Dem
section
variable {P:Program} {T:Nat→Option TI} {G:Nat→Option (List D)} {β:Nat→Nat} {bx:List az} {w:World} {X:Nat→Prop}
theorem bJ (s:Sem Value) {x:Value} {w':World} (h:s.run P w=.ok x w'):(do pure (Next.value (←s)):Sem Next).run P w=.ok (.value x) w':=by
 simp [h]
theorem OM {x:AV} {u:Value} {v:AV} {t:Nat} {e:Nat} (cx:cJ G β bx w X) (ht:P.underlying t=some (.slice e)) (hx:aj β bx w (bg β bx w X) x u) (hr:zD x bx=some v) (ty:Nat):
 ∃r,(Builtin.len_ #[t] ty #[u]).run P w=.ok r w∧aj β bx w (bg β bx w X) v r:=by
 have fin:∀n base cap,u=.slice base n cap→v=.d (.int .i64 n)→∃r,(Builtin.len_ #[t] ty #[u]).run P w=.ok r w∧aj β bx w (bg β bx w X) v r:=by
  rintro n base cap rfl rfl
  exact ⟨.int .i64 n,by simp [Builtin.len_,aV ht,goInt],by simp [aj,aL]⟩
 unfold zD at hr
 split at hr
 ·simp only [osI] at hr;subst hr
  simp only [aj,aL] at hx
  obtain ⟨base,cap,rfl,_⟩:=hx
  exact fin _ _ _ rfl rfl
 ·simp only [osI] at hr;subst hr
  simp only [aj] at hx
  obtain ⟨base,rfl,_⟩:=hx
  exact fin _ _ _ rfl rfl
 ·split at hr
  ·rename_i es aD
   simp only [osI] at hr;subst hr
   obtain ⟨_,base,cap,rfl,_⟩:=uB cx aD hx
   exact fin _ _ _ rfl rfl
  simp at hr
 ·split at hr
  ·rename_i es aD
   simp only [osI] at hr;subst hr
   obtain ⟨_,_,base,cap,rfl,_⟩:=j8 cx aD hx
   exact fin _ _ _ rfl rfl
  simp at hr
 simp at hr
theorem B5 (hT:kr P T) (cx:cJ G β bx w X) {bn:Builtin} {args:List AV} {vs:List Value} {ats:List Nat} (hx:ak β bx w (bg β bx w X) args vs)
 {c:Prop} {v:AV} {b:Option (List az)} (hr:iY T bn args ats bx=some ⟨c,v,b⟩) (hc:c) (ty:Nat) (cs:Array Bool):
 ∃r w' β',(Go.builtin bn ⟨ats⟩ ty cs ⟨vs⟩).run P w=.ok (.value r) w'∧Ext β bx w β' (dF bx b) w'∧cJ G β' (dF bx b) w' X∧aj β' (dF bx b) w' (bg β' (dF bx b) w' X) v r:=by
 unfold iY at hr
 split at hr
 ·rename_i x t
  simp only [ak] at hx
  obtain ⟨u,us,rfl,hx,rfl⟩:=hx
  cases ht:T t with
  |none=>simp [ht] at hr
  |some ti=>
  obtain ⟨i,d,h1,h2,h3,h4,h5,h6⟩:=aK (hT.ti _ _ ht)
  simp only [ht] at hr
  cases hk:ti.kd with
  |array n e=>
   rw [hk] at hr h5
   cases d<;>simp [cU] at h5
   obtain ⟨rfl,rfl⟩:=h5
   simp only [R.pure,osI,R.mk.injEq] at hr
   obtain ⟨_,rfl,rfl⟩:=hr
   refine ⟨_,w,β,bJ _ (x:=.int .i64 n) ?_,Ext.refl _ _ _,cx,by simp only [aj,aL]⟩
   cases u<;>simp [Builtin.len_,aV h2,goInt]
  |str=>
   rw [hk] at hr h5
   cases d<;>simp [cU] at h5
   cases x with
   |d y=>
    cases y with
    |str s=>
     simp only [R.pure,osI,R.mk.injEq] at hr
     obtain ⟨_,rfl,rfl⟩:=hr
     simp only [aj,aL] at hx;subst hx
     refine ⟨_,w,β,bJ _ (x:=.int .i64 s.length) ?_,Ext.refl _ _ _,cx,by simp only [aj,aL]⟩
     have hsz:(⟨s.toArray⟩:ByteArray).size=s.length:=by show s.toArray.size=_;simp
     simp [Builtin.len_,aV h2,goInt,hsz]
    |_=>simp at hr
   |_=>simp at hr
  |slice e=>
   rw [hk] at hr h5
   cases d<;>simp [cU] at h5
   subst h5
   have oG:(match zD x bx with|some v=>R.pure v|none=>none)=some ⟨c,v,b⟩:=by
    cases x<;>first|exact hr|(rename_i y;cases y<;>exact hr)
   split at oG
   ·rename_i v' hl
    simp only [R.pure,osI,R.mk.injEq] at oG
    obtain ⟨_,rfl,rfl⟩:=oG
    obtain ⟨r,k1,k2⟩:=OM (t:=t) cx h2 hx hl ty
    exact ⟨r,w,β,bJ _ k1,Ext.refl _ _ _,cx,k2⟩
   simp at oG
  |_=>rw [hk] at hr;simp at hr
 ·rename_i k x k' y
  simp only [R.pure,osI,R.mk.injEq] at hr
  obtain ⟨_,rfl,rfl⟩:=hr
  simp only [ak,aj,aL] at hx
  obtain ⟨u,us,rfl,rfl,u2,OI,rfl,rfl,rfl⟩:=hx
  refine ⟨_,w,β,bJ _ (x:=.int k (min x y)) ?_,Ext.refl _ _ _,cx,by simp only [aj,aL]⟩
  simp [Builtin.min_,Builtin.min2]
  omega
 ·rename_i k x k' y
  simp only [R.pure,osI,R.mk.injEq] at hr
  obtain ⟨_,rfl,rfl⟩:=hr
  simp only [ak,aj,aL] at hx
  obtain ⟨u,us,rfl,rfl,u2,OI,rfl,rfl,rfl⟩:=hx
  refine ⟨_,w,β,bJ _ (x:=.int k (max x y)) ?_,Ext.refl _ _ _,cx,by simp only [aj,aL]⟩
  simp [Builtin.max_,Builtin.max2]
  omega
 ·rename_i s x t u
  simp only [ak] at hx
  obtain ⟨v1,us,rfl,hs,v2,OI,rfl,hx,rfl⟩:=hx
  cases hu:T u with
  |none=>simp [hu] at hr
  |some tu=>
  simp only [hu] at hr
  have R5:∀k,tu.kd≠.int k:=by intro k hk;rw [hk] at hr;simp at hr
  have oG:lq T t s x bx=some ⟨c,v,b⟩:=by
   split at hr
   ·simp at hr
   exact hr
  obtain ⟨r,w',β',aR,rfl,k1,k2,k3,k4⟩:=uK hT cx hu R5 hs hx oG hc ty
  exact ⟨r,w',β',bJ _ k1,k2,k3,k4⟩
 simp at hr
theorem xO {n e:Nat} {te:TI} {i:TypeInfo} (d:Nat) (ht:pJ P e=some te) (hs:te.size=i.size) {ok:Nat→Prop}
 (IH:∀a b r x y,BS T n e a b=some r→aj β bx w ok a x→aj β bx w ok b y→(Op.equalIn d e x y).run P w=.ok r w)
 {xs ys:List AV} {us vs:List Value} (hx:ak β bx w ok xs us) (hy:ak β bx w ok ys vs):∀(is:List Nat) (r:Bool),
 is.foldr (fun i acc=>match cM te.kd.isAgg te.size (xs.drop (i*te.size)),cM te.kd.isAgg te.size (ys.drop (i*te.size)) with
  |some a,some b=>match BS T n e a b,acc with
   |some p,some q=>some (p&&q)
   |_,_=>none
  |_,_=>none) (some true)=some r→(Op.eqItems d e i.size ⟨us⟩ ⟨vs⟩ is).run P w=.ok r w
 |[],r,h=>by simp at h;subst h;simp [Op.eqItems]
 |j::is,r,h=>by
  rw [List.foldr_cons] at h
  split at h
  ·rename_i a b ha hb
   split at h
   ·rename_i p q hp hq
    simp only [osI] at h;subst h
    obtain ⟨x,k1,k2⟩:=nP (P:=P) (w:=w) ht ha hx
    obtain ⟨y,k3,k4⟩:=nP (P:=P) (w:=w) ht hb hy
    rw [hs] at k1 k3
    have k5:=IH a b p x y hp k2 k4
    have k6:=xO d ht hs IH hx hy is q hq
    simp only [Op.eqItems,Sem.run_bind,k1,k3,k5,Result.andThen_ok]
    cases p<;>simp [k6]
   simp at h
  simp at h
theorem uL (hT:kr P T) {n:Nat} (d:Nat) {ok:Nat→Prop}
 (IH:∀t a b r x y,BS T n t a b=some r→aj β bx w ok a x→aj β bx w ok b y→(Op.equalIn d t x y).run P w=.ok r w)
 {xs ys:List AV} {us vs:List Value} (hx:ak β bx w ok xs us) (hy:ak β bx w ok ys vs):∀(fs:List Field) (r:Bool),(∀f∈fs,f.name≠ "_")→
 (fs.map fun f=>(f.offset,f.type)).foldr (fun f acc=>match T f.2 with
  |some tf=>match cM tf.kd.isAgg tf.size (xs.drop f.1),cM tf.kd.isAgg tf.size (ys.drop f.1) with
   |some a,some b=>match BS T n f.2 a b,acc with
    |some p,some q=>some (p&&q)
    |_,_=>none
   |_,_=>none
  |none=>none) (some true)=some r→(Op.eqFields d ⟨us⟩ ⟨vs⟩ fs).run P w=.ok r w
 |[],r,_,h=>by simp at h;subst h;simp [Op.eqFields]
 |f::fs,r,hn,h=>by
  rw [List.map_cons,List.foldr_cons] at h
  split at h
  ·rename_i tf R4
   split at h
   ·rename_i a b ha hb
    split at h
    ·rename_i p q hp hq
     simp only [osI] at h;subst h
     obtain ⟨x,k1,k2⟩:=nP (P:=P) (w:=w) (hT.ti _ _ R4) ha hx
     obtain ⟨y,k3,k4⟩:=nP (P:=P) (w:=w) (hT.ti _ _ R4) hb hy
     have k5:=IH f.type a b p x y hp k2 k4
     have k6:=uL hT d IH hx hy fs q (fun g hg=>hn g (by simp [hg])) hq
     simp only [Op.eqFields,hn f (by simp),ne_eq,not_false_eq_true,if_true,Sem.run_bind,k1,k3,k5,Result.andThen_ok]
     cases p<;>simp [k6]
    simp at h
   simp at h
  simp at h
theorem DU (hT:kr P T) {ok:Nat→Prop} (d:Nat):∀(n t:Nat) (a b:AV) (r:Bool) (x y:Value),BS T n t a b=some r→aj β bx w ok a x→aj β bx w ok b y→
 (Op.equalIn (d+n) t x y).run P w=.ok r w
 |0,t,a,b,r,x,y,h,_,_=>by simp [BS] at h
 |n+1,t,a,b,r,x,y,h,hx,hy=>by
  unfold BS at h
  split at h
  ·simp at h
  rename_i ti ht
  obtain ⟨i,ds,h1,h2,h3,h4,h5,h6⟩:=aK (hT.ti _ _ ht)
  rw [h5] at h
  split at h
  ·rename_i q j a k b hk
   cases U3:j==k with
   |false=>simp [U3] at h
   |true=>
   have Zw:j=k:=by simpa using U3
   subst Zw
   cases ds<;>simp [cU] at hk
   simp only [aj,aL] at hx hy
   subst hx;subst hy
   simp only [U3,cond_true,osI] at h;subst h
   rw [show d+(n+1)=(d+n)+1 from rfl]
   simp [run_equalIn_int _ (d+n) t j _ a b h2]
   rfl
  ·rename_i a b hk
   cases ds<;>simp [cU] at hk
   simp only [aj,aL] at hx hy
   subst hx;subst hy
   simp only [osI] at h;subst h
   rw [show d+(n+1)=(d+n)+1 from rfl]
   simp [run_equalIn_bool' _ (d+n) t a b h2]
  ·rename_i a b hk
   cases ds<;>simp [cU] at hk
   simp only [aj,aL] at hx hy
   subst hx;subst hy
   simp only [osI] at h;subst h
   rw [show d+(n+1)=(d+n)+1 from rfl]
   rw [run_equalIn_string _ (d+n) t _ _ h2,ByteArray.toList_eq,ByteArray.toList_eq]
   by_cases hab:a=b<;>simp [hab]
  ·rename_i len e xs ys hk
   have hd:ds=.array len e:=by cases ds<;>simp [cU] at hk;obtain ⟨rfl,rfl⟩:=hk;rfl
   subst hd
   simp only [aj] at hx hy
   obtain ⟨us,rfl,hx⟩:=hx
   obtain ⟨vs,rfl,hy⟩:=hy
   split at h
   ·rename_i te hte
    obtain ⟨ei,ed,g1,g2,g3,g4,g5,g6⟩:=aK (hT.ti _ _ hte)
    cases hl:Nat.beq len 0 with
    |true=>simp [hl] at h
    |false=>
    simp only [hl,cond_false] at h
    rw [show d+(n+1)=(d+n)+1 from rfl,run_equalIn_array _ (d+n) _ _ h2 g1]
    have:=xO (P:=P) (w:=w) (β:=β) (bx:=bx) (T:=T) (n:=n) (d+n) (hT.ti _ _ hte) g3 (fun a b r x y=>DU hT d n e a b r x y) hx hy _ _ h
    simpa [Program.cellsOf,g1] using this
   simp at h
  ·rename_i fs xs ys hk
   simp only [aj] at hx hy
   obtain ⟨us,rfl,hx⟩:=hx
   obtain ⟨vs,rfl,hy⟩:=hy
   cases ds<;>simp [cU] at hk
   rename_i gs
   subst hk
   have he:=RV (hT.ti _ _ ht) h2
   cases hq:ti.eq with
   |false=>simp [hq] at h
   |true=>
   simp only [hq,cond_true] at h
   rw [hq] at he
   simp only [Ok] at he
   have he':=he.symm
   simp only [Bool.and_eq_true,Bool.not_eq_true',List.all_eq_true,bne_iff_ne,ne_eq] at he'
   have hf:P.fieldsOf t=gs:=by simp [Program.fieldsOf,h2]
   rw [show d+(n+1)=(d+n)+1 from rfl,run_equalIn_agg _ (d+n) t _ _ (by rw [hf];exact h2) he'.1,hf]
   exact uL hT (d+n) (fun t a b r x y=>DU hT d n t a b r x y) hx hy _ _ he'.2 h
  simp at h
theorem wA {α:Type} {F:α→Option Bool→Option Bool} (hF:∀x,F x none=none) {p:α→Prop} (hp:∀x acc r,F x acc=some r→p x):∀(xs:List α) {b r:Option Bool},xs.foldr F b=r→r≠none→∀x∈xs,p x
 |[],_,_,_,_,x,hx=>by simp at hx
 |y::ys,b,r,h,hr,x,hx=>by
  rw [List.foldr_cons] at h
  cases hq:ys.foldr F b with
  |none=>rw [hq,hF] at h;exact absurd h.symm hr
  |some q=>
  rcases List.mem_cons.1 hx with rfl|hx
  ·cases r with
   |none=>simp at hr
   |some r=>exact hp _ _ _ h
  exact wA hF hp ys hq (by simp) x hx
theorem wB (hT:kr P T):∀(n m t:Nat) (a b:AV) (r:Bool),BS T n t a b=some r→n≤m→P.eqGuardType m t=false
 |0,m,t,a,b,r,h,_=>by simp [BS] at h
 |n+1,0,t,a,b,r,h,hm=>by omega
 |n+1,m+1,t,a,b,r,h,hm=>by
  unfold BS at h
  split at h
  ·simp at h
  rename_i ti ht
  obtain ⟨i,ds,h1,h2,h3,h4,h5,h6⟩:=aK (hT.ti _ _ ht)
  rw [h5] at h
  unfold Program.eqGuardType
  rw [h2]
  cases ds<;>simp only [cU] at h ⊢
  all_goals try rfl
  all_goals (try (exfalso;revert h;cases a<;>cases b<;>simp;done))
  ·rename_i len e
   cases a<;>(try (simp at h;done))
   cases b<;>(try (simp at h;done))
   simp only at h
   cases hte:T e with
   |none=>simp [hte] at h
   |some te=>
   simp only [hte] at h
   cases hl:Nat.beq len 0 with
   |true=>simp [hl] at h
   |false=>
   simp only [hl,cond_false] at h
   have hall:=wA (p:=fun _=>P.eqGuardType m e=false) (fun f=>by split<;>simp) (fun f acc r hf=>by
    split at hf
    ·split at hf
     ·have hp:=‹BS T n _ _ _=some _›
      exact wB hT n m e _ _ _ hp (by omega)
     simp at hf
    simp at hf) _ h (by simp)
   exact hall 0 (by simp;have:=Nat.ne_of_beq_eq_false hl;omega)
  rename_i gs
  cases a<;>(try (simp at h;done))
  cases b<;>(try (simp at h;done))
  simp only at h
  cases hq:ti.eq with
  |false=>simp [hq] at h
  |true=>
  simp only [hq,cond_true] at h
  have hall:=wA (p:=fun f=>P.eqGuardType m f.2=false) (fun f=>by split<;>(try split)<;>simp) (fun f acc r hf=>by
   split at hf
   ·split at hf
    ·split at hf
     ·have hp:=‹BS T n _ _ _=some _›
      exact wB hT n m f.2 _ _ _ hp (by omega)
     simp at hf
    simp at hf
   simp at hf) _ h (by simp)
  rw [Array.any_eq_false]
  intro k hk
  have:=hall (gs[k].offset,gs[k].type) (List.mem_map.2 ⟨gs[k],by simp,rfl⟩)
  simp [this]
theorem wC {ev:Operand→AV} {ρ:Operand→Value} {ok:Nat→Prop}:∀(ps:List (Nat×Operand)),(∀p∈ps,aj β bx w ok (ev p.2) (ρ p.2))→c6 β bx w ok (ps.map fun p=>(p.1,ev p.2)) (ps.map fun p=>(p.1,ρ p.2))
 |[],_=>by simp [c6]
 |p::ps,h=>by
  simp only [List.map_cons,c6]
  exact ⟨_,_,rfl,h p (by simp),wC ps (fun q hq=>h q (by simp [hq]))⟩
theorem iC {ev:Operand→AV} {ρ:Operand→Value} {ok:Nat→Prop}:∀(xs:List Operand),(∀x∈xs,aj β bx w ok (ev x) (ρ x))→ak β bx w ok (xs.map ev) (xs.map ρ)
 |[],_=>by simp [ak]
 |x::xs,h=>by
  simp only [List.map_cons,ak]
  exact ⟨_,_,rfl,h x (by simp),iC xs (fun q hq=>h q (by simp [hq]))⟩
theorem sF {t:TypeId} {ms:Array (String×TypeId)} (h:P.underlying t=some (.interface ms)) (a:TypeId) (b:Value):(Op.equal t (.iface a b) .nilIface).run P w=.ok false w:=by
 simp only [Op.equal,Op.maxDepth];unfold Op.equalIn;simp [aV h]
theorem sG {t:TypeId} {ms:Array (String×TypeId)} (h:P.underlying t=some (.interface ms)):(Op.equal t .nilIface .nilIface).run P w=.ok true w:=by
 simp only [Op.equal,Op.maxDepth];unfold Op.equalIn;simp [aV h]
theorem FG {t:TypeId} {ms:Array (String×TypeId)} (h:P.underlying t=some (.interface ms)) (a:TypeId) (b:Value):(Go.binOp .eql t (.iface a b) .nilIface).run P w=.ok (.bool false) w:=by
 simp only [Go.binOp];simp [sF h]
theorem FH {t:TypeId} {ms:Array (String×TypeId)} (h:P.underlying t=some (.interface ms)) (a:TypeId) (b:Value):(Go.binOp .neq t (.iface a b) .nilIface).run P w=.ok (.bool true) w:=by
 simp only [Go.binOp];simp [sF h]
theorem FI {t:TypeId} {ms:Array (String×TypeId)} (h:P.underlying t=some (.interface ms)):(Go.binOp .eql t .nilIface .nilIface).run P w=.ok (.bool true) w:=by
 simp only [Go.binOp];simp [sG h]
theorem FJ {t:TypeId} {ms:Array (String×TypeId)} (h:P.underlying t=some (.interface ms)):(Go.binOp .neq t .nilIface .nilIface).run P w=.ok (.bool false) w:=by
 simp only [Go.binOp];simp [sG h]
theorem FK {t:Nat} {ti:TI} (ht:pJ P t=some ti) {z:List AV} (hz:ti.zero.cells?=some z) {ok:Nat→Prop}:∃v,(zeroValue t).run P w=.ok v w∧aj β bx w ok ti.zero v:=by
 obtain ⟨i,d,h1,h2,h3,h4,h5,h6⟩:=aK ht
 cases yZ:i.zero with
 |none=>rw [h6,yZ] at hz;simp [AV.cells?] at hz
 |some v=>rw [h6,yZ];exact ⟨v,gL h1 yZ,uE v⟩
theorem xP {ok:Nat→Prop} {xs:List AV} {vs:List Value} (hp:jY xs=true) (h:ak β bx w ok xs vs) (f:Nat):zI f vs=.func (.func f) #[] ⟨vs⟩:=by
 cases xs with
 |nil=>simp only [ak] at h;subst h;rfl
 |cons x xs=>
  simp only [ak] at h
  obtain ⟨u,us,rfl,h1,_⟩:=h
  have:ID u∨∃c,u=.agg c:=by
   simp only [jY,Bool.or_eq_true] at hp
   rcases hp with hp|hp
   ·exact .inl (aj.sc hp h1)
   cases x<;>simp [AV.isAgg] at hp
   simp only [aj] at h1
   obtain ⟨c,e,_⟩:=h1
   exact .inr ⟨_,e⟩
  cases u<;>first|rfl|(rcases this with h|⟨c,h⟩;exact h.elim;cases h)
theorem fP {α γ:Type} (a:Array α) (f:α→γ):a.map f=⟨a.toList.map f⟩:=by
 apply Array.ext';simp
theorem Mt (hT:kr P T) (cx:cJ G β bx w X) {ev:Operand→AV} {ρ:Operand→Value} {o:Oper} (hρ:∀x∈o.op.operands.toList,aj β bx w (bg β bx w X) (ev x) (ρ x))
 {c:Prop} {v:AV} {b:Option (List az)} (hr:lu T ev o.op bx=some ⟨c,v,b⟩) (hc:c):dz G β bx w X ((execOp ρ o).run P w) v (dF bx b):=by
 obtain ⟨dst,op,type,pos,after,guard⟩:=o
 simp only at hρ hr
 unfold lu at hr
 split at hr
 ·
  simp only [R.pure,osI,R.mk.injEq] at hr
  obtain ⟨_,rfl,rfl⟩:=hr
  exact dz.pure cx rfl (hρ _ (by simp [Op.operands]))
 ·simp only [R.pure,osI,R.mk.injEq] at hr
  obtain ⟨_,rfl,rfl⟩:=hr
  exact dz.pure cx rfl (hρ _ (by simp [Op.operands]))
 ·
  rename_i t
  cases ht:T t with
  |none=>simp [ht] at hr
  |some ti=>
  simp only [ht] at hr
  cases hz:ti.zero.cells? with
  |none=>simp [hz] at hr
  |some cs=>
  simp only [hz,osI,R.mk.injEq] at hr
  obtain ⟨_,rfl,rfl⟩:=hr
  obtain ⟨i,d,h1,h2,h3,h4,h5,h6⟩:=aK (hT.ti _ _ ht)
  cases yZ:i.zero with
  |none=>rw [h6,yZ] at hz;simp [AV.cells?] at hz
  |some z=>
  rw [h6,yZ] at hz
  obtain ⟨β',w',k1,k2,k3⟩:=xM (P:=P) cx t hz (uE z)
  refine ⟨β',w',k2,k3,.inl ⟨.pointer (some ⟨β' bx.length,0,none⟩),?_,?_⟩⟩
  ·exact bJ _ (by simp [Instr.alloc,gL h1 yZ,k1])
  simp only [aj];exact ⟨trv,.var cs,by simp [dF],rfl⟩
 ·
  rename_i t x
  cases hz:(ev x).cells? with
  |none=>simp [hz] at hr
  |some cs=>
  simp only [hz,osI,R.mk.injEq] at hr
  obtain ⟨_,rfl,rfl⟩:=hr
  obtain ⟨β',w',k1,k2,k3⟩:=xM (P:=P) cx t hz (hρ x (by simp [Op.operands]))
  refine ⟨β',w',k2,k3,.inl ⟨.pointer (some ⟨β' bx.length,0,none⟩),?_,?_⟩⟩
  ·exact bJ _ (by simp [Instr.box,k1])
  simp only [aj];exact ⟨trv,.var cs,by simp [dF],rfl⟩
 ·
  rename_i t a
  cases ht:T t with
  |none=>simp [ht] at hr
  |some ti=>
  simp only [ht] at hr
  obtain ⟨rfl,x,k1,k2⟩:=zJ (P:=P) hT cx ht (hρ a (by simp [Op.operands])) hr hc
  exact dz.pure cx (bJ _ k1) k2
 ·
  rename_i t a x
  cases ht:T t with
  |none=>simp [ht] at hr
  |some ti=>
  simp only [ht] at hr
  obtain ⟨rfl,aR,w',rfl,k1,k2,k3⟩:=Fy (P:=P) hT cx ht (hρ a (by simp [Op.operands])) (hρ x (by simp [Op.operands])) hr hc
  exact ⟨β,w',k2,k3,.inr ⟨by simp [execOp,k1],rfl⟩⟩
 ·
  rename_i t parts
  obtain ⟨rfl,u,k1,k2⟩:=FE (P:=P) (w:=w) (β:=β) (bx:=bx) (X:=X) hT (vs:=parts.map fun (i,x)=>(i,ρ x))
   (by rw [Array.toList_map];exact wC _ (fun p hp=>hρ p.2 (by simp [Op.operands];exact ⟨p.1,by simpa using hp⟩))) hr
  exact dz.pure cx (bJ _ k1) k2
 ·
  rename_i t n parts
  obtain ⟨u,w',k1,k2,k3,k4⟩:=wz (P:=P) (w:=w) (β:=β) (bx:=bx) (X:=X) hT cx (vs:=parts.map fun (i,x)=>(i,ρ x))
   (by rw [Array.toList_map];exact wC _ (fun p hp=>hρ p.2 (by simp [Op.operands];exact ⟨p.1,by simpa using hp⟩))) hr
  exact ⟨β,w',k2,k3,.inl ⟨u,bJ _ k1,k4⟩⟩
 ·
  rename_i t x f
  have hx:=hρ x (by simp [Op.operands])
  cases ht:T t with
  |none=>simp [ht] at hr
  |some ti=>
  simp only [ht] at hr
  split at hr
  ·rename_i o ft ho
   cases hft:T ft with
   |none=>simp [hft] at hr
   |some tf=>
   simp only [hft] at hr
   cases hs:Nat.beq tf.size 0 with
   |true=>simp [hs] at hr
   |false=>
   have hs':tf.size≠0:=by intro h;rw [h] at hs;simp at hs
   simp only [hs,cond_false] at hr
   have place:=fun blk off=>Fz (w:=w) (hT.ti _ _ ht) ho (hT.ti _ _ hft) hs' blk off
   split at hr
   ·rename_i b' off he
    simp only [R.pure,osI,R.mk.injEq] at hr
    obtain ⟨_,rfl,rfl⟩:=hr
    rw [he] at hx;simp only [aj] at hx
    obtain ⟨hx,hb⟩:=hx
    exact dz.pure cx (bJ _ (by rw [hx];exact place _ _)) (by simp only [aj];exact ⟨trv,hb⟩)
   ·rename_i b' sz i j he
    simp only [R.pure,osI,R.mk.injEq] at hr
    obtain ⟨_,rfl,rfl⟩:=hr
    rw [he] at hx;simp only [aj] at hx
    obtain ⟨hx,hb⟩:=hx
    exact dz.pure cx (bJ _ (by rw [hx];exact place _ _)) (by simp only [aj];exact ⟨by rw [Nat.add_assoc],hb⟩)
   ·rename_i ds he
    simp only [R.when,osI,R.mk.injEq] at hr
    obtain ⟨rfl,rfl,rfl⟩:=hr
    rw [he] at hx;simp only [aj] at hx
    obtain ⟨blk,off,hx,hb,hrow⟩:=hx
    exact dz.pure cx (bJ _ (by rw [hx];exact place _ _)) (by simp only [aj];exact ⟨blk,off+o,rfl,hb,aX.drop _ _ _ hrow⟩)
   simp at hr
  simp at hr
 ·
  rename_i t x i
  have hx:=hρ x (by simp [Op.operands])
  have hi:=hρ i (by simp [Op.operands])
  cases ht:T t with
  |none=>simp [ht] at hr
  |some ti=>
  obtain ⟨ii,d,h1,h2,h3,h4,h5,h6⟩:=aK (hT.ti _ _ ht)
  simp only [ht,h5] at hr
  split at hr
  ·rename_i n e kz z hk U4
   have hd:d=.array n e:=by cases d<;>simp [cU] at hk;obtain ⟨rfl,rfl⟩:=hk;rfl
   subst hd
   rw [U4] at hi;simp only [aj,aL] at hi
   split at hr
   ·rename_i te hte
    obtain ⟨ei,ed,g1,g2,g3,g4,g5,g6⟩:=aK (hT.ti _ _ hte)
    have place:∀blk off,0≤z∧z<(n:Int)→(Instr.indexAt t (.pointer (some ⟨blk,off,none⟩)) (ρ i)).run P w=.ok (.pointer (some ⟨blk,off+z.toNat*te.size,none⟩)) w:=by
     intro blk off hz
     simp [Instr.indexAt,hi,asIntOf,aV h2,Instr.sureAddr,hz.1,hz.2,bP g1,fO,g3]
    split at hr
    ·rename_i b' off he
     simp only [R.when,osI,R.mk.injEq] at hr
     obtain ⟨rfl,rfl,rfl⟩:=hr
     rw [he] at hx;simp only [aj] at hx
     obtain ⟨hx,hb⟩:=hx
     exact dz.pure cx (bJ _ (by rw [hx];exact place _ _ hc)) (by simp only [aj];exact ⟨trv,hb⟩)
    ·rename_i b' sz a j he
     simp only [R.when,osI,R.mk.injEq] at hr
     obtain ⟨rfl,rfl,rfl⟩:=hr
     rw [he] at hx;simp only [aj] at hx
     obtain ⟨hx,hb⟩:=hx
     exact dz.pure cx (bJ _ (by rw [hx];exact place _ _ hc)) (by simp only [aj];exact ⟨by rw [Nat.add_assoc],hb⟩)
    ·rename_i ds he
     simp only [R.when,osI,R.mk.injEq] at hr
     obtain ⟨rfl,rfl,rfl⟩:=hr
     rw [he] at hx;simp only [aj] at hx
     obtain ⟨blk,off,hx,hb,hrow⟩:=hx
     exact dz.pure cx (bJ _ (by rw [hx];exact place _ _ ⟨hc.1,hc.2.1⟩)) (by simp only [aj];exact ⟨blk,_,rfl,hb,aX.drop _ _ _ hrow⟩)
    simp at hr
   simp at hr
  ·rename_i e kz z hk U4
   cases d<;>simp [cU] at hk
   subst hk
   rw [U4] at hi;simp only [aj,aL] at hi
   split at hr
   ·rename_i te b' sz n hte he
    obtain ⟨ei,ed,g1,g2,g3,g4,g5,g6⟩:=aK (hT.ti _ _ hte)
    cases hb:Nat.beq te.size sz with
    |false=>simp [hb] at hr
    |true=>
    have hb':=Nat.eq_of_beq_eq_true hb
    subst hb'
    simp only [hb,cond_true,R.when,osI,R.mk.injEq] at hr
    obtain ⟨rfl,rfl,rfl⟩:=hr
    rw [he] at hx;simp only [aj] at hx
    obtain ⟨FL,hx⟩:=hx
    rcases hx with ⟨rfl,_⟩|⟨_,cap,_,_,_,hx,_⟩
    ·simp at hc;omega
    exact dz.pure cx (bJ _ (by rw [hx];simp [Instr.indexAt,hi,asIntOf,aV h2,hc.1,hc.2,bP g1,fO];rfl)) (by simp only [aj];exact ⟨by rw [g3];simp,FL⟩)
   simp at hr
  simp at hr
 ·
  rename_i t x f
  have hx:=hρ x (by simp [Op.operands])
  cases ht:T t with
  |none=>simp [ht] at hr
  |some ti=>
  obtain ⟨ii,d,h1,h2,h3,h4,h5,h6⟩:=aK (hT.ti _ _ ht)
  simp only [ht] at hr
  split at hr
  ·rename_i o ft ho
   rw [h5] at ho
   cases d<;>simp [cU,zB] at ho
   rename_i fs
   obtain ⟨fl,hfl,rfl,rfl⟩:=ho
   split at hr
   ·rename_i tf cs hft he
    split at hr
    ·rename_i v' hsp
     simp only [R.pure,osI,R.mk.injEq] at hr
     obtain ⟨_,rfl,rfl⟩:=hr
     rw [he] at hx;simp only [aj] at hx
     obtain ⟨vs,hx,hvs⟩:=hx
     obtain ⟨u,k1,k2⟩:=nP (P:=P) (w:=w) (hT.ti _ _ hft) hsp hvs
     exact dz.pure cx (bJ _ (by rw [hx];simp [Instr.field,aV h2,hfl,asAgg,k1])) k2
    simp at hr
   simp at hr
  simp at hr
 ·
  rename_i t x i
  have hx:=hρ x (by simp [Op.operands])
  have hi:=hρ i (by simp [Op.operands])
  cases ht:T t with
  |none=>simp [ht] at hr
  |some ti=>
  obtain ⟨ii,d,h1,h2,h3,h4,h5,h6⟩:=aK (hT.ti _ _ ht)
  simp only [ht,h5] at hr
  split at hr
  ·rename_i s kz z hk aD U4
   cases d<;>simp [cU] at hk
   simp only [R.when,osI,R.mk.injEq] at hr
   obtain ⟨rfl,rfl,rfl⟩:=hr
   rw [aD] at hx;simp only [aj,aL] at hx
   rw [U4] at hi;simp only [aj,aL] at hi
   have hlt:z.toNat<s.length:=by omega
   refine dz.pure cx (u:=.int .u8 (s.getD z.toNat 0).toNat) (bJ _ ?_) (by simp only [aj,aL])
   rw [hx,hi]
   have hg:(⟨s.toArray⟩:ByteArray)[z.toNat]?=some (s.getD z.toNat 0):=by
    have hsz:z.toNat<(⟨s.toArray⟩:ByteArray).size:=by show z.toNat<s.toArray.size;simpa using hlt
    have hge:(⟨s.toArray⟩:ByteArray)[z.toNat]?=some ((⟨s.toArray⟩:ByteArray)[z.toNat]'hsz):=by
     show (if h:_ then _ else _)=_
     rw [dif_pos hsz]
    rw [hge]
    simp only [List.getD_eq_getElem?_getD,List.getElem?_eq_getElem hlt,Option.getD_some]
    rfl
   simp [Instr.index,asIntOf,aV h2,hc.1,hg]
  ·rename_i n e cs kz z hk aD U4
   cases d<;>simp [cU] at hk
   obtain ⟨rfl,rfl⟩:=hk
   rw [aD] at hx;simp only [aj] at hx
   obtain ⟨vs,hx,hvs⟩:=hx
   rw [U4] at hi;simp only [aj,aL] at hi
   split at hr
   ·rename_i te hte
    obtain ⟨ei,ed,g1,g2,g3,g4,g5,g6⟩:=aK (hT.ti _ _ hte)
    split at hr
    ·rename_i v' hsp
     simp only [R.when,osI,R.mk.injEq] at hr
     obtain ⟨rfl,rfl,rfl⟩:=hr
     obtain ⟨u,k1,k2⟩:=nP (P:=P) (w:=w) (hT.ti _ _ hte) hsp hvs
     rw [g3] at k1
     exact dz.pure cx (bJ _ (by rw [hx,hi];simp [Instr.index,asIntOf,aV h2,hc.1,hc.2,bP g1,k1])) k2
    simp at hr
   simp at hr
  simp at hr
 ·
  rename_i x i
  have hx:=hρ x (by simp [Op.operands])
  split at hr
  ·rename_i vs he
   split at hr
   ·rename_i v' hv
    simp only [R.pure,osI,R.mk.injEq] at hr
    obtain ⟨_,rfl,rfl⟩:=hr
    rw [he] at hx;simp only [aj] at hx
    obtain ⟨us,hx,RX⟩:=hx
    obtain ⟨u,k1,k2⟩:=ak.get i _ RX hv
    exact dz.pure cx (bJ _ (by rw [hx];simp [Instr.extract,k1])) k2
   simp at hr
  simp at hr
 ·
  rename_i op t x y t2
  have hx:=hρ x (by simp [Op.operands])
  have hy:=hρ y (by simp [Op.operands])
  split at hr
  ·rename_i xs ys RG Ue
   have key:∀r,BS T 8 t (.agg xs) (.agg ys)=some r→(Op.equalIn 10000 t (ρ x) (ρ y)).run P w=.ok r w∧P.eqGuardType P.depth t=false:=by
    intro r he
    exact ⟨DU (P:=P) (w:=w) hT 9992 8 t _ _ r _ _ he (by rw [←RG];exact hx) (by rw [←Ue];exact hy),wB hT 8 _ t _ _ r he hT.deep⟩
   rw [RG] at hx;rw [Ue] at hy
   simp only [aj] at hx hy
   obtain ⟨us,ex,_⟩:=hx
   obtain ⟨vs,ey,_⟩:=hy
   rw [ex,ey] at key
   split at hr
   ·cases he:BS T 8 t (.agg xs) (.agg ys) with
    |none=>simp [he] at hr
    |some r=>
    simp only [he,Option.bind_some,R.pure,osI,R.mk.injEq] at hr
    obtain ⟨_,rfl,rfl⟩:=hr
    obtain ⟨k1,k2⟩:=key r he
    exact dz.pure cx (u:=.bool r) (bJ _ (by simp [ex,ey,run_eqGuard_agg _ _ _ _ _ _ _ k2,run_eql_struct,k1])) (by simp only [aj,aL])
   ·cases he:BS T 8 t (.agg xs) (.agg ys) with
    |none=>simp [he] at hr
    |some r=>
    simp only [he,Option.bind_some,R.pure,osI,R.mk.injEq] at hr
    obtain ⟨_,rfl,rfl⟩:=hr
    obtain ⟨k1,k2⟩:=key r he
    exact dz.pure cx (u:=.bool (!r)) (bJ _ (by simp [ex,ey,run_eqGuard_agg _ _ _ _ _ _ _ k2,run_neq_struct,k1])) (by simp only [aj,aL])
   simp at hr
  ·rename_i p q RG Ue
   rw [RG] at hx;rw [Ue] at hy
   simp only [aj,aL] at hx hy
   have guard:∀a b:Operand,(eqGuard op t a b (.bool p) (.bool q)).run P w=.ok () w:=by
    intro a b;simp only [eqGuard];split<;>simp
   split at hr
   ·rename_i ti ht
    obtain ⟨ii,d,h1,h2,h3,h4,h5,h6⟩:=aK (hT.ti _ _ ht)
    split at hr
    ·rename_i hk
     rw [h5] at hk
     cases d<;>simp [cU] at hk
     simp only [R.pure,osI,R.mk.injEq] at hr
     obtain ⟨_,rfl,rfl⟩:=hr
     exact dz.pure cx (u:=.bool (p==q)) (bJ _ (by simp [hx,hy,guard,run_eql_bool _ _ _ _ h2])) (by simp only [aj,aL])
    simp at hr
   ·rename_i ti ht
    obtain ⟨ii,d,h1,h2,h3,h4,h5,h6⟩:=aK (hT.ti _ _ ht)
    split at hr
    ·rename_i hk
     rw [h5] at hk
     cases d<;>simp [cU] at hk
     simp only [R.pure,osI,R.mk.injEq] at hr
     obtain ⟨_,rfl,rfl⟩:=hr
     exact dz.pure cx (u:=.bool (!(p==q))) (bJ _ (by simp [hx,hy,guard,run_neq_bool _ _ _ _ h2])) (by simp only [aj,aL])
    simp at hr
   simp at hr
  ·rename_i t0 v0 RG Ue
   rw [RG] at hx;rw [Ue] at hy
   simp only [aj] at hx hy
   obtain ⟨u0,ex,_⟩:=hx
   have ey:ρ y=.nilIface:=hy
   have guard:(eqGuard op t x y (.iface t0 u0) .nilIface).run P w=.ok () w:=by
    simp only [eqGuard];split<;>simp
   split at hr
   ·rename_i ti ht
    obtain ⟨ii,d,h1,h2,h3,h4,h5,h6⟩:=aK (hT.ti _ _ ht)
    split at hr
    ·rename_i hk
     rw [h5] at hk
     cases d<;>simp [cU] at hk
     simp only [R.pure,osI,R.mk.injEq] at hr
     obtain ⟨_,rfl,rfl⟩:=hr
     exact dz.pure cx (u:=.bool false) (bJ _ (by rw [ex,ey];simp [guard,FG h2])) (by simp only [aj,aL])
    simp at hr
   ·rename_i ti ht
    obtain ⟨ii,d,h1,h2,h3,h4,h5,h6⟩:=aK (hT.ti _ _ ht)
    split at hr
    ·rename_i hk
     rw [h5] at hk
     cases d<;>simp [cU] at hk
     simp only [R.pure,osI,R.mk.injEq] at hr
     obtain ⟨_,rfl,rfl⟩:=hr
     exact dz.pure cx (u:=.bool true) (bJ _ (by rw [ex,ey];simp [guard,FH h2])) (by simp only [aj,aL])
    simp at hr
   simp at hr
  ·rename_i RG Ue
   rw [RG] at hx;rw [Ue] at hy
   have ex:ρ x=.nilIface:=hx
   have ey:ρ y=.nilIface:=hy
   split at hr
   ·rename_i cv
    have guard:(eqGuard op t x (.const cv) .nilIface .nilIface).run P w=.ok () w:=by
     simp only [eqGuard];split<;>simp
    split at hr
    ·rename_i ti ht
     obtain ⟨ii,d,h1,h2,h3,h4,h5,h6⟩:=aK (hT.ti _ _ ht)
     split at hr
     ·rename_i hk
      rw [h5] at hk
      cases d<;>simp [cU] at hk
      simp only [R.pure,osI,R.mk.injEq] at hr
      obtain ⟨_,rfl,rfl⟩:=hr
      exact dz.pure cx (u:=.bool true) (bJ _ (by rw [ex,ey];simp [guard,FI h2])) (by simp only [aj,aL])
     simp at hr
    ·rename_i ti ht
     obtain ⟨ii,d,h1,h2,h3,h4,h5,h6⟩:=aK (hT.ti _ _ ht)
     split at hr
     ·rename_i hk
      rw [h5] at hk
      cases d<;>simp [cU] at hk
      simp only [R.pure,osI,R.mk.injEq] at hr
      obtain ⟨_,rfl,rfl⟩:=hr
      exact dz.pure cx (u:=.bool false) (bJ _ (by rw [ex,ey];simp [guard,FJ h2])) (by simp only [aj,aL])
     simp at hr
    simp at hr
   simp at hr
  split at hr
  ·rename_i c' d' hb
   simp only [R.when,osI,R.mk.injEq] at hr
   obtain ⟨rfl,rfl,rfl⟩:=hr
   obtain ⟨u,k1,k2,k3⟩:=OD (P:=P) (w:=w) hb hc hx hy t
   exact dz.pure cx (bJ _ (x:=u) (by simp [k1,k3])) (by simpa [aj] using k2)
  simp at hr
 ·
  rename_i op t x
  have hx:=hρ x (by simp [Op.operands])
  cases hu:WC op (ev x) with
  |none=>simp [hu] at hr
  |some d'=>
  simp only [hu,Option.bind_some,R.pure,osI,R.mk.injEq] at hr
  obtain ⟨_,rfl,rfl⟩:=hr
  obtain ⟨u,k1,k2⟩:=R3 (P:=P) (w:=w) hu hx
  exact dz.pure cx (bJ _ k1) (by simpa [aj] using k2)
 ·
  rename_i s d' x
  obtain ⟨rfl,u,w',k1,k2,k3,k4⟩:=IG (P:=P) hT cx (hρ x (by simp [Op.operands])) hr hc
  exact ⟨β,w',k2,k3,.inl ⟨u,bJ _ k1,k4⟩⟩
 ·
  rename_i t x lo hi mx
  split at hr
  ·rename_i l h m hl hh hm
   obtain ⟨u,k1,k2,k3,k4⟩:=FD (P:=P) hT cx (hρ x (by simp [Op.operands])) (oE hl (fun y hy=>hρ y (by simp [Op.operands,hy]))) (oE hh (fun y hy=>hρ y (by simp [Op.operands,hy])))
    (oE hm (fun y hy=>hρ y (by simp [Op.operands,hy]))) hr hc
   exact ⟨β,w,k2,k3,.inl ⟨u,bJ _ k1,k4⟩⟩
  simp at hr
 ·
  rename_i f first jQ
  have ON:=iC jQ.toList (ev:=ev) (ρ:=ρ) (fun y hy=>hρ y (by simp [Op.operands];exact .inr (by simpa using hy)))
  cases he:first.toList.isEmpty with
  |false=>
   simp only [he,cond_false,R.pure,osI,R.mk.injEq] at hr
   obtain ⟨_,rfl,rfl⟩:=hr
   have U5:=iC first.toList (ev:=ev) (ρ:=ρ) (fun y hy=>hρ y (by simp [Op.operands];exact .inl (by simpa using hy)))
   refine dz.pure cx (u:=.func (.func f) ⟨first.toList.map ρ⟩ ⟨jQ.toList.map ρ⟩) (bJ _ ?_) ?_
   ·simp [Instr.makeFunc,fP jQ ρ,fP first ρ]
   simp only [aj]
   exact ⟨.tuple ⟨first.toList.map ρ⟩::jQ.toList.map ρ,rfl,by simp only [ak,aj];exact ⟨_,_,rfl,⟨_,rfl,U5⟩,ON⟩⟩
  |true=>
  cases hp:jY (jQ.toList.map ev) with
  |false=>simp [he,hp] at hr
  |true=>
  simp only [he,hp,cond_true,R.pure,osI,R.mk.injEq] at hr
  obtain ⟨_,rfl,rfl⟩:=hr
  have hf:first=#[]:=by apply Array.ext';simpa using he
  subst hf
  refine dz.pure cx (u:=.func (.func f) #[] ⟨jQ.toList.map ρ⟩) (bJ _ ?_) ?_
  ·simp [Instr.makeFunc,fP jQ ρ]
  simp only [aj]
  exact ⟨_,(xP hp ON f).symm,ON⟩
 ·
  rename_i t x
  have hx:=hρ x (by simp [Op.operands])
  split at hr
  ·rename_i ti ht
   obtain ⟨ii,d,h1,h2,h3,h4,h5,h6⟩:=aK (hT.ti _ _ ht)
   cases hp:ti.kd.plain with
   |false=>simp [hp] at hr
   |true=>
   simp only [hp,cond_true,R.pure,osI,R.mk.injEq] at hr
   obtain ⟨_,rfl,rfl⟩:=hr
   refine dz.pure cx (u:=.iface t (ρ x)) (bJ _ ?_) (by simp only [aj];exact ⟨_,rfl,hx⟩)
   rw [h5] at hp
   cases d<;>simp [cU,Kd.plain] at hp<;>simp [Instr.makeInterface,aV h2]
  simp at hr
 ·
  rename_i x xt u ok
  have hx:=hρ x (by simp [Op.operands])
  split at hr
  ·rename_i tu ht
   obtain ⟨ii,d,h1,h2,h3,h4,h5,h6⟩:=aK (hT.ti _ _ ht)
   cases hp:(tu.kd.plain&&tu.zero.cells?.isSome) with
   |false=>simp [hp] at hr
   |true=>
   simp only [hp,cond_true] at hr
   simp only [Bool.and_eq_true] at hp
   obtain ⟨OO,OH⟩:=hp
   obtain ⟨zc,U0⟩:=Option.isSome_iff_exists.1 OH
   obtain ⟨z,z1,z2⟩:=FK (P:=P) (β:=β) (bx:=bx) (w:=w) (ok:=bg β bx w X) (hT.ti _ _ ht) U0
   rw [h5] at OO
   split at hr
   ·rename_i t v he
    rw [he] at hx
    simp only [aj] at hx
    obtain ⟨w1,ex,hw⟩:=hx
    cases htu:Nat.beq t u with
    |true=>
     obtain rfl:=Nat.eq_of_beq_eq_true htu
     simp only [htu,cond_true,R.pure,osI,R.mk.injEq] at hr
     obtain ⟨_,rfl,rfl⟩:=hr
     cases ok with
     |true=>
      refine dz.pure cx (u:=.tuple #[w1,.bool true]) (bJ _ ?_) (by simp only [cond_true,aj,ak,aL];exact ⟨_,rfl,_,_,rfl,hw,_,_,rfl,rfl,rfl⟩)
      rw [ex]
      cases d<;>simp [cU,Kd.plain] at OO<;>simp [Instr.typeAssert,aV h2]
     |false=>
      refine dz.pure cx (u:=w1) (bJ _ ?_) (by simpa only [cond_false] using hw)
      rw [ex]
      cases d<;>simp [cU,Kd.plain] at OO<;>simp [Instr.typeAssert,aV h2]
    |false=>
     have hne:t≠u:=Nat.ne_of_beq_eq_false htu
     cases ok with
     |false=>simp [htu] at hr
     |true=>
      simp only [htu,cond_true,cond_false,R.pure,osI,R.mk.injEq] at hr
      obtain ⟨_,rfl,rfl⟩:=hr
      refine dz.pure cx (u:=.tuple #[z,.bool false]) (bJ _ ?_) (by simp only [aj,ak,aL];exact ⟨_,rfl,_,_,rfl,z2,_,_,rfl,rfl,rfl⟩)
      rw [ex]
      cases d<;>simp [cU,Kd.plain] at OO<;>simp [Instr.typeAssert,aV h2,hne,z1]
   ·rename_i he
    rw [he] at hx
    have ex:ρ x=.nilIface:=hx
    cases ok with
    |false=>simp at hr
    |true=>
     simp only [cond_true,R.pure,osI,R.mk.injEq] at hr
     obtain ⟨_,rfl,rfl⟩:=hr
     refine dz.pure cx (u:=.tuple #[z,.bool false]) (bJ _ ?_) (by simp only [aj,ak,aL];exact ⟨_,rfl,_,_,rfl,z2,_,_,rfl,rfl,rfl⟩)
     rw [ex]
     cases d<;>simp [cU,Kd.plain] at OO<;>simp [Instr.typeAssert,aV h2,z1]
   simp at hr
  simp at hr
 ·
  rename_i x
  have hx:=hρ x (by simp [Op.operands])
  split at hr
  ·rename_i b' off he
   simp only [R.pure,osI,R.mk.injEq] at hr
   obtain ⟨_,rfl,rfl⟩:=hr
   rw [he] at hx
   have hx':=hx
   simp only [aj] at hx'
   exact dz.pure cx (u:=ρ x) (by simp [execOp,hx'.1]) hx
  ·rename_i b' s i j he
   simp only [R.pure,osI,R.mk.injEq] at hr
   obtain ⟨_,rfl,rfl⟩:=hr
   rw [he] at hx
   have hx':=hx
   simp only [aj] at hx'
   exact dz.pure cx (u:=ρ x) (by simp [execOp,hx'.1]) hx
  ·rename_i ds he
   simp only [R.pure,osI,R.mk.injEq] at hr
   obtain ⟨_,rfl,rfl⟩:=hr
   rw [he] at hx
   have hx':=hx
   simp only [aj] at hx'
   obtain ⟨blk,off,e,_⟩:=hx'
   exact dz.pure cx (u:=ρ x) (by simp [execOp,e]) hx
  ·rename_i f cs he
   simp only [R.pure,osI,R.mk.injEq] at hr
   obtain ⟨_,rfl,rfl⟩:=hr
   rw [he] at hx
   have hx':=hx
   simp only [aj] at hx'
   obtain ⟨vs,e,_⟩:=hx'
   obtain ⟨a1,a2,e2⟩:=Fu f vs
   rw [e2] at e
   exact dz.pure cx (u:=ρ x) (by simp [execOp,e]) hx
  simp at hr
 ·
  rename_i b' args ats
  obtain ⟨r,w',β',k1,k2,k3,k4⟩:=B5 (P:=P) hT cx (iC args.toList (fun y hy=>hρ y (by simp [Op.operands,Call.operands];exact by simpa using hy))) hr hc type
   (args.map fun|.const _=>true|_=>false)
  refine ⟨β',w',k2,k3,.inl ⟨r,?_,k4⟩⟩
  simp only [execOp,resolve,Sem.run_bind,Sem.run_pure,Result.andThen_ok,invoke,fP args ρ]
  exact k1
 simp at hr
end
end Dem
end
section
open Go
namespace Dem
section
variable {P:Program} {T:Nat→Option TI} {G:Nat→Option (List D)} {β:Nat→Nat} {bx:List az} {w:World} {X:Nat→Prop}
theorem pZ (zc:List Value):∀n:Nat,(Builtin.zeroCells ⟨zc⟩ n).toList=(List.replicate n zc).flatten
 |0=>by simp [Builtin.zeroCells]
 |n+1=>by
  have ih:=pZ zc n
  rw [List.replicate_succ',List.flatten_append,←ih]
  simp only [Builtin.zeroCells,Array.toList_map,Array.toList_range]
  have hs:(⟨zc⟩:Array Value).size=zc.length:=rfl
  rw [hs,Nat.add_mul,Nat.one_mul,List.range_add,List.map_append]
  congr 1
  apply List.ext_getElem?
  intro i
  simp only [List.map_map,List.getElem?_map,List.flatten_cons,List.flatten_nil,List.append_nil]
  by_cases hi:i<zc.length
  ·have hr:(List.range zc.length)[i]?=some i:=by rw [List.getElem?_range hi]
   rw [hr]
   simp only [Option.map_some,Function.comp]
   rw [Nat.mul_add_mod_self_right,Nat.mod_eq_of_lt hi]
   simp [hi]
  simp [List.getElem?_eq_none (Nat.le_of_not_lt hi)]
  omega
theorem wD (hT:kr P T) {e:Nat} {te:TI} (hte:T e=some te) {z:List D} (hz:mV te=some z) (hok:eN te=true) {ok:Nat→Prop}:
 ∃(ei:TypeInfo) (zv:Value) (zc:List Value),P.info? e=some ei∧ei.zero=some zv∧zv.cells=⟨zc⟩∧zc.length=ei.size∧z.length=te.size∧(∀u∈zc,ID u)∧
  ∀n,ak β bx w ok ((List.replicate n z).flatten.map .d) (Builtin.zeroCells ⟨zc⟩ n).toList:=by
 obtain ⟨ei,ed,g1,g2,g3,g4,g5,g6⟩:=aK (hT.ti _ _ hte)
 obtain ⟨za,hz1,RF,Y0,Y1⟩:=mg hok
 simp only [mV,hz1] at hz
 obtain ⟨zv,zc,k1,k2,k3,k4⟩:=uG (β:=β) (bx:=bx) (w:=w) (ok:=ok) (hT.ti _ _ hte) hz1
 have hzl:zc.length=ei.size:=by rw [ak.length k3,RF,g3]
 have yZ:ei.zero=some zv:=by
  cases hq:ei.zero with
  |none=>rw [g6,hq] at hz1;simp [AV.cells?] at hz1
  |some q=>have:=gL (P:=P) (w:=w) g1 hq;rw [k1] at this;simp at this;rw [this]
 have Mu:=rJ hz k3
 refine ⟨ei,zv,zc,g1,yZ,k2,hzl,?_,k4,?_⟩
 ·have:=ak.length Mu
  simp at this;omega
 intro n
 rw [pZ]
 induction n with
 |zero=>simp [ak]
 |succ n ih=>
  simp only [List.replicate_succ,List.flatten_cons,List.map_append]
  exact ak.append Mu ih
theorem sH {sz:Nat}:∀(n:Nat) (es:List (List D)),(∀r∈es,r.length=sz)→es.flatten.take (n*sz)=(es.take n).flatten
 |0,es,_=>by simp
 |n+1,[],_=>by simp
 |n+1,r::rs,h=>by
  have hr:r.length=sz:=h r (by simp)
  have ih:=sH n rs (fun x hx=>h x (by simp [hx]))
  simp only [List.flatten_cons,List.take_succ_cons]
  rw [show (n+1)*sz=r.length+n*sz by rw [hr,Nat.add_mul];omega,List.take_length_add_append,ih]
theorem sI {sz:Nat}:∀(n:Nat) (es:List (List D)),(∀r∈es,r.length=sz)→es.flatten.drop (n*sz)=(es.drop n).flatten
 |0,es,_=>by simp
 |n+1,[],_=>by simp
 |n+1,r::rs,h=>by
  have hr:r.length=sz:=h r (by simp)
  have ih:=sI n rs (fun x hx=>h x (by simp [hx]))
  simp only [List.flatten_cons,List.drop_succ_cons]
  rw [show (n+1)*sz=r.length+n*sz by rw [hr,Nat.add_mul];omega,List.drop_length_add_append,ih]
theorem Mv (cx:cJ G β bx w X) {b size off:Nat} {es xs:List (List D)} {c:Array Value} {e:TypeId} {us:List Value} (hb:bx[b]?=some (.row size es)) (hne:es≠[])
 (hh:w.heap[β b]?=some (.cells c e (0,0))) (ho:off≤es.length) (hl:∀r∈xs,r.length=size) (hu:ak β bx w (bg β bx w X) (xs.flatten.map .d) us) (RX:us.length=xs.length*size)
 (hfit:(off+xs.length)*size≤c.size):
 Ext β bx w β (bx.set b (.row size (wrote es off xs))) (dX w (β b) (.cells ⟨aZ c.toList (off*size) us⟩ e (0,0)))∧
  cJ G β (bx.set b (.row size (wrote es off xs))) (dX w (β b) (.cells ⟨aZ c.toList (off*size) us⟩ e (0,0))) X:=by
 have cz:(az.row size es).live=true:=by cases es<;>simp_all [az.live]
 have hsz:(⟨aZ c.toList (off*size) us⟩:Array Value).size=c.size:=by simp [dm]
 have ex:=l6 (B':=.row size (wrote es off xs)) (c':=⟨aZ c.toList (off*size) us⟩) hb cz hh hsz rfl
 refine ⟨ex,tg cx hb cz hh hsz rfl (.inr ⟨_,e,dQ hh,?_⟩)⟩
 rcases cx.box _ _ hb with h0|⟨c2,e2,j1,j2⟩
 ·exact absurd h0 hne
 rw [hh] at j1
 simp only [osI,Obj.cells.injEq] at j1
 obtain ⟨rfl,rfl,_⟩:=j1
 have xL:=ay.lens _ _ j2
 obtain ⟨DS,v1,v2,v3⟩:=j7 (β:=β) (bx:=bx) es 0 j2
 obtain ⟨rest,py⟩:=oD hh v2
 have hcs:c.size=DS.length+rest.length:=by have:=congrArg List.length py;simpa using this
 have hoff:off*size≤DS.length:=by rw [v1];exact Nat.mul_le_mul_right _ ho
 rw [Nat.add_mul] at hfit
 have hsp:aZ c.toList (off*size) us=DS.take (off*size)++us++DS.drop (off*size+us.length)++rest.drop (off*size+us.length-DS.length):=by
  rw [mc _ _ _ (by simp;omega),py,List.take_append_of_le_length hoff,List.drop_append]
  simp [List.append_assoc]
 have Mu:ak β bx w (bg β bx w X) ((wrote es off xs).flatten.map .d) (DS.take (off*size)++us++DS.drop (off*size+us.length)):=by
  unfold wrote
  rw [List.flatten_append,List.flatten_append,List.map_append,List.map_append]
  refine ak.append (ak.append ?_ hu) ?_
  ·rw [←sH off es xL,List.map_take];exact ak.take _ v3
  rw [←sI _ es xL,List.map_drop,Nat.add_mul,←RX];exact ak.drop _ v3
 refine mY (β:=β) (bx:=bx.set b (.row size (wrote es off xs))) _ 0 _ ?_ ?_ (ak.mono (ex.eY X) _ _ Mu)
 ·intro r hr
  unfold wrote at hr
  rcases List.mem_append.1 hr with hr|hr
  ·rcases List.mem_append.1 hr with hr|hr
   ·exact xL r (List.mem_of_mem_take hr)
   exact hl r hr
  exact xL r (List.mem_of_mem_drop hr)
 intro k u hk
 have hk':k<(DS.take (off*size)++us++DS.drop (off*size+us.length)).length:=by
  rcases Nat.lt_or_ge k (DS.take (off*size)++us++DS.drop (off*size+us.length)).length with h|h
  ·exact h
  rw [List.getElem?_eq_none h] at hk;simp at hk
 simp only [World.cell?,dQ hh,Nat.zero_add]
 have:(aZ c.toList (off*size) us)[k]?=some u:=by
  rw [hsp,List.getElem?_append_left hk'];exact hk
 simpa using this
theorem eP {t:Nat} {te:TI} (h:elemOf T t=some te):∃ti e,T t=some ti∧ti.kd=.slice e∧T e=some te:=by
 unfold elemOf at h
 split at h
 ·rename_i ti ht
  split at h
  ·rename_i e hk;exact ⟨ti,e,ht,hk,h⟩
  simp at h
 simp at h
theorem fQ (hT:kr P T) {t e:Nat} {ti:TI} (ht:T t=some ti) (hk:ti.kd=.slice e):P.underlying t=some (.slice e):=by
 obtain ⟨i,d,h1,h2,h3,h4,h5,h6⟩:=aK (hT.ti _ _ ht)
 rw [hk] at h5
 cases d<;>simp [cU] at h5
 subst h5;exact h2
theorem zV {ok:Nat→Prop} {x:AV} {b sz off n c:Nat} {ex:Bool} {u:Value} (hx:viewAt x=some (b,sz,off,n,c,ex)) (h:aj β bx w ok x u):
 ∃base cap,u=.slice base n cap∧n≤cap∧(cap=0∨base=some ⟨β b,off*sz,none⟩∧∃cs e f,w.heap[β b]?=some (.cells cs e f)∧(off+cap)*sz≤cs.size):=by
 cases x with
 |vw b' sz' off' n' c' sK=>
  simp only [viewAt,osI,Prod.mk.injEq] at hx
  obtain ⟨rfl,rfl,rfl,rfl,rfl,rfl⟩:=hx
  simp only [aj] at h
  obtain ⟨_,base,cap,cs,e,f,rfl,h1,_,_,h4⟩:=h
  exact ⟨base,cap,rfl,h1,h4.imp id fun ⟨k1,k2,k3⟩=>⟨k1,cs,e,f,k2,k3⟩⟩
 |ow b' sz' n'=>
  simp only [viewAt,osI,Prod.mk.injEq] at hx
  obtain ⟨rfl,rfl,rfl,rfl,rfl,rfl⟩:=hx
  simp only [aj] at h
  obtain ⟨_,⟨rfl,base,rfl⟩|⟨h0,cap,cs,e,f,rfl,h1,h2,h3⟩⟩:=h
  ·exact ⟨base,0,rfl,Nat.le_refl _,.inl rfl⟩
  exact ⟨_,cap,rfl,h1,.inr ⟨by simp,cs,e,f,h2,by simpa using h3⟩⟩
 |_=>simp [viewAt] at hx
theorem nR (cx:cJ G β bx w X) {y:AV} {uy:Value} {xs:List (List D)} (hx:aj β bx w (bg β bx w X) y uy) (hrows:y.rows bx=some xs):
 ∃base cap,uy=.slice base xs.length cap∧(xs=[]∨∃blk off sz,base=some ⟨blk,off,none⟩∧ay w (bg β bx w X) blk sz xs off):=by
 by_cases how:∃b sz n,y=.ow b sz n
 ·obtain ⟨b,sz,n,rfl⟩:=how
  obtain ⟨hn,base,cap,rfl,h1,h2⟩:=uB cx hrows hx
  refine ⟨base,cap,rfl,?_⟩
  rcases h2 with ⟨h2,_⟩|⟨_,rfl,h2,_⟩
  ·exact .inl h2
  exact .inr ⟨β b,0,sz,rfl,h2⟩
 cases hv:y.uu with
 |true=>
  cases y with
  |vw b sz off n c ex=>
   simp only [AV.rows] at hrows
   split at hrows
   ·rename_i s es' hb
    obtain ⟨rfl,hle,rfl⟩:=Cu hrows
    obtain ⟨base,cap,rfl,h1,h2⟩:=oC (IF:=bg β bx w X) hle ((cx.box b _ hb).imp id fun ⟨_,_,_,g⟩=>g) hx
    exact ⟨base,cap,rfl,h2.imp id fun ⟨a,c⟩=>⟨β b,off*s,s,a,c⟩⟩
   ·rename_i s es' hb
    obtain ⟨rfl,hle,rfl⟩:=Cu hrows
    obtain ⟨base,cap,rfl,h1,h2⟩:=oC (IF:=bg β bx w X) hle ((cx.box b _ hb).imp id fun ⟨_,g⟩=>g) hx
    exact ⟨base,cap,rfl,h2.imp id fun ⟨a,c⟩=>⟨β b,off*s,s,a,c⟩⟩
   simp at hrows
  |_=>simp [AV.uu] at hv
 |false=>
  obtain ⟨base,cap,rfl,h1,h2⟩:=zL (fun b sz n e=>how ⟨b,sz,n,e⟩) hv hrows hx
  exact ⟨base,cap,rfl,h2.imp id fun ⟨blk,off,sz,a,_,c⟩=>⟨blk,off,sz,a,c⟩⟩
theorem Lb {ok:Nat→Prop} {base:Option Addr} {zs:List (List D)} {k size:Nat} (h:zs=[]∨∃blk off sz,base=some ⟨blk,off,none⟩∧ay w ok blk sz zs off) (hs:∀r∈zs.take k,r.length=size) (hk:0<k):∀r∈zs,r.length=size:=by
 rcases h with rfl|⟨blk,off,sz,_,hr⟩
 ·simp
 cases zs with
 |nil=>simp
 |cons z zs=>
  have hl:=ay.lens _ _ hr
  have h1:z.length=size:=hs z (by cases k with|zero=>omega|succ k=>simp)
  have h2:=hl z (by simp)
  intro r hr'
  rw [hl r hr',←h2,h1]
theorem OP {b sz off n c m:Nat} {ex:Bool} {K6:List (List D)} {IF:Nat→Prop} {u:Value} {ok:Nat→Prop} (hm:m≤n) (hn:off+m≤K6.length) (hrows:K6=[]∨ay w IF (β b) sz K6 0) (h:aj β bx w ok (.vw b sz off n c ex) u):
 ∃base cap,u=.slice base n cap∧((K6.drop off).take m=[]∨base=some ⟨β b,off*sz,none⟩∧ay w IF (β b) sz ((K6.drop off).take m) (off*sz)):=by
 simp only [aj] at h
 obtain ⟨_,base,cap,cs,e,f,rfl,h1,h2,h3,h4⟩:=h
 refine ⟨base,cap,rfl,?_⟩
 by_cases hn0:m=0
 ·subst hn0;exact .inl (by simp)
 right
 rcases h4 with h4|⟨h4,_⟩
 ·omega
 refine ⟨h4,?_⟩
 rcases hrows with rfl|hrows
 ·simp at hn;omega
 have:=ay.Fx m _ _ (ay.Oy off _ _ hrows)
 simpa using this
theorem xQ (cx:cJ G β bx w X) {size:Nat} {x:AV} {ux:Value} {xs:List (List D)} (hx:aj β bx w (bg β bx w X) x ux) (hr:kD size x bx=some xs) (hs:∀r∈xs,r.length=size) {m:Nat} (hm:m≤xs.length):
 ∃us,(Builtin.lenOf ux).run P w=.ok xs.length w∧us.length=m*size∧(Builtin.firstCells size m ux).run P w=.ok ⟨us⟩ w∧ak β bx w (bg β bx w X) ((xs.take m).flatten.map .d) us:=by
 have W8:x.rows bx=some xs→∃us,(Builtin.lenOf ux).run P w=.ok xs.length w∧us.length=m*size∧(Builtin.firstCells size m ux).run P w=.ok ⟨us⟩ w∧ak β bx w (bg β bx w X) ((xs.take m).flatten.map .d) us:=by
  intro hrows
  obtain ⟨base,cap,rfl,h2⟩:=nR cx hx hrows
  have hml:(xs.take m).length=m:=by simp;omega
  have R9:xs.take m=[]∨∃blk off sz,base=some ⟨blk,off,none⟩∧ay w (bg β bx w X) blk sz (xs.take m) off:=by
   rcases h2 with rfl|⟨blk,off,sz,h3,h4⟩
   ·left;simp
   exact .inr ⟨blk,off,sz,h3,ay.take _ _ _ h4⟩
  obtain ⟨us,f1,f2⟩:=dN (P:=P) (β:=β) (bx:=bx) (cap:=cap) (base:=base) (es:=xs.take m) (ok:=bg β bx w X) (size:=size) (fun r hr=>hs r (List.mem_of_mem_take hr)) R9
  rw [hml] at f1
  have:=(f1.2.2 w (fun _ _=>rfl)).2
  refine ⟨us,dn,f1.2.1,?_,f2⟩
  cases base<;>exact this
 cases x with
 |d y=>
  cases y with
  |str s=>
   simp only [kD] at hr
   cases hb:Nat.beq size 1 with
   |false=>simp [hb] at hr
   |true=>
    have:=Nat.eq_of_beq_eq_true hb
    subst this
    simp only [hb,cond_true,osI] at hr
    subst hr
    simp only [aj,aL] at hx;subst hx
    simp only [lgM] at hm ⊢
    obtain ⟨us,f1,f2⟩:=sE (P:=P) (β:=β) (bx:=bx) (w:=w) (X:=X) (s.take m)
    have hml:(s.take m).length=m:=by simp;omega
    rw [hml] at f1
    have h3:=(f1.2.2 w (fun _ _=>rfl)).2
    refine ⟨us,by simp [Builtin.lenOf,ByteArray.size],f1.2.1,?_,by simpa [List.map_take] using f2⟩
    have e1:(⟨s.toArray⟩:ByteArray).extract 0 m=(⟨(s.take m).toArray⟩:ByteArray).extract 0 m:=by
     rw [Lib.extract_eq,Lib.extract_eq];simp [List.take_take]
    have e2:Builtin.firstCells 1 m (.string ⟨s.toArray⟩)=Builtin.firstCells 1 m (.string ⟨(s.take m).toArray⟩):=by
     simp only [Builtin.firstCells,e1]
    rw [e2];exact h3
  |_=>exact W8 hr
 |_=>exact W8 hr
theorem FM (cx:cJ G β bx w X) {size n m:Nat} {y:AV} {uy:Value} {cy:Prop} {xs:List (List D)} (hx:aj β bx w (bg β bx w X) y uy) (hr:uv size y n bx=some (cy,m,xs)) (hc:cy) (hs:∀r∈xs,r.length=size):
 ∃us l,(Builtin.lenOf uy).run P w=.ok l w∧Nat.min l n=m∧xs.length=m∧us.length=m*size∧(Builtin.firstCells size m uy).run P w=.ok ⟨us⟩ w∧ak β bx w (bg β bx w X) (xs.flatten.map .d) us:=by
 have gen:y.uu=false→(match kD size y bx with
  |some xs=>some (True,min xs.length n,xs.take (min xs.length n))
  |none=>none)=some (cy,m,xs)→∃us l,(Builtin.lenOf uy).run P w=.ok l w∧Nat.min l n=m∧xs.length=m∧us.length=m*size∧(Builtin.firstCells size m uy).run P w=.ok ⟨us⟩ w∧ak β bx w (bg β bx w X) (xs.flatten.map .d) us:=by
  intro hv hr
  have hs0:∀zs,kD size y bx=some zs→∃us l,(Builtin.lenOf uy).run P w=.ok l w∧Nat.min l n=m∧xs.length=m∧us.length=m*size∧(Builtin.firstCells size m uy).run P w=.ok ⟨us⟩ w∧ak β bx w (bg β bx w X) (xs.flatten.map .d) us:=by
   intro zs hzs
   simp only [hzs,osI,Prod.mk.injEq] at hr
   obtain ⟨_,rfl,rfl⟩:=hr
   have hml:(zs.take (min zs.length n)).length=min zs.length n:=by simp
   by_cases hm0:min zs.length n=0
   ·
    rw [hm0]
    have hl:∃l,(Builtin.lenOf uy).run P w=.ok l w∧l=zs.length∧(Builtin.firstCells size 0 uy).run P w=.ok ⟨[]⟩ w:=by
     cases y with
     |d q=>
      cases q with
      |str s=>
       simp only [aj,aL] at hx;subst hx
       simp only [kD] at hzs
       cases hb:Nat.beq size 1 with
       |false=>simp [hb] at hzs
       |true=>
        simp only [hb,cond_true,osI] at hzs
        subst hzs
        refine ⟨s.length,by simp [Builtin.lenOf,ByteArray.size],by simp,?_⟩
        have e:(⟨s.toArray⟩:ByteArray).extract 0 0=⟨#[]⟩:=by rw [Lib.extract_eq];simp
        simp [Builtin.firstCells]
      |_=>
       obtain ⟨base,cap,rfl,_⟩:=nR cx hx hzs
       exact ⟨_,dn,rfl,by cases base<;>simp [Builtin.firstCells,loadCells,loadCellsFrom]⟩
     |_=>
      obtain ⟨base,cap,rfl,_⟩:=nR cx hx hzs
      exact ⟨_,dn,rfl,by cases base<;>simp [Builtin.firstCells,loadCells,loadCellsFrom]⟩
    obtain ⟨l,h1,rfl,h2⟩:=hl
    exact ⟨[],_,h1,hm0,by simp,by simp,h2,by simp [ak]⟩
   have hall:∀r∈zs,r.length=size:=by
    cases y with
    |d q=>
     cases q with
     |str s=>
      simp only [kD] at hzs
      cases hb:Nat.beq size 1 with
      |false=>simp [hb] at hzs
      |true=>
       have:=Nat.eq_of_beq_eq_true hb
       simp only [hb,cond_true,osI] at hzs
       subst hzs
       intro r hr
       obtain ⟨b,_,rfl⟩:=List.mem_map.1 hr
       simp [ru,this]
     |_=>
      obtain ⟨base,cap,rfl,h2⟩:=nR cx hx hzs
      exact Lb h2 hs (by omega)
    |_=>
     obtain ⟨base,cap,rfl,h2⟩:=nR cx hx hzs
     exact Lb h2 hs (by omega)
   obtain ⟨us,k1,k2,k3,k4⟩:=xQ (P:=P) cx hx hzs hall (m:=min zs.length n) (by omega)
   exact ⟨us,_,k1,rfl,hml,k2,k3,k4⟩
  cases hz:kD size y bx with
  |none=>simp [hz] at hr
  |some zs=>exact hs0 zs hz
 have vw:∀(b sz off n2 c:Nat) (ex:Bool) (s:Nat) (es:List (List D)) (IF:Nat→Prop),y=.vw b sz off n2 c ex→(es=[]∨ay w (bg β bx w X) (β b) s es 0)→(bif Nat.beq s sz then some (off+min n2 n≤es.length,min n2 n,(es.drop off).take (min n2 n)) else none)=some (cy,m,xs)→
  ∃us l,(Builtin.lenOf uy).run P w=.ok l w∧Nat.min l n=m∧xs.length=m∧us.length=m*size∧(Builtin.firstCells size m uy).run P w=.ok ⟨us⟩ w∧ak β bx w (bg β bx w X) (xs.flatten.map .d) us:=by
  intro b sz off n2 c ex s es IF hy hrows hq
  subst hy
  cases hsz:Nat.beq s sz with
  |false=>simp [hsz] at hq
  |true=>
  have Sa:=Nat.eq_of_beq_eq_true hsz
  subst Sa
  simp only [hsz,cond_true,osI,Prod.mk.injEq] at hq
  obtain ⟨rfl,rfl,rfl⟩:=hq
  obtain ⟨base,cap,rfl,h2⟩:=OP (IF:=bg β bx w X) (m:=min n2 n) (by omega) hc hrows hx
  have hml:((es.drop off).take (min n2 n)).length=min n2 n:=by simp;omega
  obtain ⟨us,f1,f2⟩:=dN (P:=P) (β:=β) (bx:=bx) (cap:=cap) (base:=base) (es:=(es.drop off).take (min n2 n)) (ok:=bg β bx w X) (size:=size) hs (h2.imp id fun ⟨a,c⟩=>⟨β b,off*s,s,a,c⟩)
  rw [hml] at f1
  have:=(f1.2.2 w (fun _ _=>rfl)).2
  refine ⟨us,n2,dn,rfl,hml,f1.2.1,?_,f2⟩
  cases base<;>exact this
 unfold uv at hr
 split at hr
 ·rename_i b sz off n2 c ex
  split at hr
  ·rename_i s es hb
   exact vw b sz off n2 c ex s es (fun _=>True) rfl ((cx.box b _ hb).imp id fun ⟨_,_,_,g⟩=>g) hr
  ·rename_i s es hb
   exact vw b sz off n2 c ex s es (fun _=>True) rfl ((cx.box b _ hb).imp id fun ⟨_,g⟩=>g) hr
  simp at hr
 rename_i hnv
 refine gen ?_ hr
 cases y<;>first|rfl|exact absurd rfl (hnv _ _ _ _ _ _)
end
end Dem
end
section
open Go
namespace Dem
section
variable {P:Program} {T:Nat→Option TI} {G:Nat→Option (List D)} {β:Nat→Nat} {bx:List az} {w:World} {X:Nat→Prop}
theorem zW (cx:cJ G β bx w X) {b sz k:Nat} {es xs:List (List D)} {us:List Value} (hb:bx[b]?=some (.row sz es)) (hne:es≠[]) (hk:k≤es.length) (hl:∀r∈xs,r.length=sz)
 (hu:ak β bx w (bg β bx w X) (xs.flatten.map .d) us) (RX:us.length=xs.length*sz) {cs:Array Value} {e:TypeId} {f:Nat×Nat} (hh:w.heap[β b]?=some (.cells cs e f)) (hfit:(k+xs.length)*sz≤cs.size):
 ∃w',(storeCells ⟨β b,k*sz,none⟩ us 0).run P w=.ok () w'∧Ext β bx w β (bx.set b (.row sz (wrote es k xs))) w'∧cJ G β (bx.set b (.row sz (wrote es k xs))) w' X:=by
 have hh':w.heap[β b]?=some (.cells cs e (0,0)):=by
  rcases cx.box _ _ hb with h0|⟨c2,e2,j1,j2⟩
  ·exact absurd h0 hne
  rw [hh] at j1
  simp only [osI,Obj.cells.injEq] at j1
  obtain ⟨rfl,rfl,rfl⟩:=j1
  exact hh
 have hf:=hfit
 rw [Nat.add_mul] at hf
 have hrun:=jv (P:=P) (off:=k*sz) us 0 w cs hh' (ak.sc (K9 _) hu) (by omega)
 simp only [Nat.add_zero] at hrun
 exact ⟨_,hrun,Mv cx hb hne hh' hk hl hu RX hfit⟩
theorem wE {es:List (List D)} {k:Nat}:wrote es k []=es:=by simp [wrote]
theorem zX {b:Nat} {B:az} (h:bx[b]?=some B):bx.set b B=bx:=by
 apply List.ext_getElem?
 intro i
 rw [List.getElem?_set]
 split
 ·rename_i hi;subst hi
  split
  ·exact h.symm
  rename_i hlt;exact absurd (jw h) hlt
 rfl
theorem IJ (hT:kr P T) (cx:cJ G β bx w X) {t e:Nat} {te:TI} (ht:P.underlying t=some (.slice e)) (hte:T e=some te) {x y:AV} {ux uy:Value} (hx:aj β bx w (bg β bx w X) x ux) (hy:aj β bx w (bg β bx w X) y uy)
 {c:Prop} {v:AV} {b:Option (List az)} (hr:Cp te x y bx=some ⟨c,v,b⟩) (hc:c) (ats:List Nat) (ty:Nat):
 ∃r w',(Builtin.copy_ ⟨t::ats⟩ ty ⟨[ux,uy]⟩).run P w=.ok r w'∧Ext β bx w β (dF bx b) w'∧cJ G β (dF bx b) w' X∧aj β (dF bx b) w' (bg β (dF bx b) w' X) v r:=by
 obtain ⟨ei,ed,g1,g2,g3,g4,g5,g6⟩:=aK (hT.ti _ _ hte)
 unfold Cp at hr
 split at hr
 ·rename_i bb sz off n c0 so hv
  split at hr
  ·rename_i s es cy m xs hb hxs
   cases h1:Nat.beq s sz with
   |false=>simp [h1] at hr
   |true=>
   cases h2:Nat.beq sz te.size with
   |false=>simp [h1,h2] at hr
   |true=>
   have Lc:=Nat.eq_of_beq_eq_true h1
   have R9:=Nat.eq_of_beq_eq_true h2
   subst Lc R9
   simp only [h1,Bool.and_self,cond_true,osI,R.mk.injEq] at hr
   obtain ⟨rfl,rfl,rfl⟩:=hr
   obtain ⟨hcy,⟨hoff,DV⟩,hlen⟩:=hc
   obtain ⟨base,cap,rfl,hn,hcap⟩:=zV hv hx
   obtain ⟨us,l,k1,hmn,hml,k2,k3,k4⟩:=FM (P:=P) cx hy hxs hcy hlen
   have ab2:m≤n:=by rw [←hmn];exact Nat.min_le_right _ _
   rw [g3] at k3
   by_cases hm0:m=0
   ·have Xc:us=[]:=by rw [hm0] at k2;simpa using k2
    subst Xc
    have Zx:xs=[]:=by rw [hm0] at hml;simpa using hml
    have hw:bx.set bb (.row te.size (wrote es off xs))=bx:=by
     rw [Zx,wE];exact zX hb
    refine ⟨.int .i64 (m:Nat),w,?_,?_,?_,?_⟩
    ·cases base<;>simp [Builtin.copy_,aV ht,bP g1,k1,hmn,k3,storeCells,goInt]
    ·simp only [dF,hw];exact Ext.refl _ _ _
    ·simp only [dF,hw];exact cx
    simp only [aj,aL]
   have hne:es≠[]:=fun h=>hm0 (DV h)
   rcases hcap with hcap|⟨rfl,cs,ce,cf,j1,j2⟩
   ·omega
   have hfit:(off+xs.length)*te.size≤cs.size:=by
    rw [hml];exact Nat.le_trans (Nat.mul_le_mul_right _ (by omega)) j2
   obtain ⟨w',r1,r2,r3⟩:=zW (P:=P) cx hb hne hoff hlen k4 (by rw [hml];exact k2) j1 hfit
   refine ⟨.int .i64 (m:Nat),w',?_,r2,r3,by simp only [aj,aL]⟩
   simp [Builtin.copy_,aV ht,bP g1,k1,hmn,k3,r1,goInt]
  simp at hr
 simp at hr
theorem FN (hT:kr P T) (cx:cJ G β bx w X) {t e:Nat} {te:TI} (ht:P.underlying t=some (.slice e)) (hte:T e=some te) {x:AV} {ux:Value} (hx:aj β bx w (bg β bx w X) x ux)
 {c:Prop} {v:AV} {b:Option (List az)} (hr:DM te x bx=some ⟨c,v,b⟩) (hc:c) (ats:List Nat) (ty:Nat):
 ∃r w',(Builtin.clear_ ⟨t::ats⟩ ty ⟨[ux]⟩).run P w=.ok r w'∧Ext β bx w β (dF bx b) w'∧cJ G β (dF bx b) w' X∧aj β (dF bx b) w' (bg β (dF bx b) w' X) v r:=by
 unfold DM at hr
 split at hr
 ·rename_i bb sz off n c0 so hv
  split at hr
  ·rename_i s es z hb hz
   cases h1:Nat.beq s sz with
   |false=>simp [h1] at hr
   |true=>
   cases h2:Nat.beq sz te.size with
   |false=>simp [h1,h2] at hr
   |true=>
   cases h3:eN te with
   |false=>simp [h1,h2,h3] at hr
   |true=>
   have Lc:=Nat.eq_of_beq_eq_true h1
   have R9:=Nat.eq_of_beq_eq_true h2
   subst Lc R9
   simp only [h1,h3,Bool.and_self,cond_true,osI,R.mk.injEq] at hr
   obtain ⟨rfl,rfl,rfl⟩:=hr
   obtain ⟨hoff,DV⟩:=hc
   obtain ⟨base,cap,rfl,hn,hcap⟩:=zV hv hx
   obtain ⟨ei,zv,zc,g1,g2,g3,g4,g5,g6,g7⟩:=wD (P:=P) (β:=β) (bx:=bx) (w:=w) hT hte hz h3 (ok:=bg β bx w X)
   by_cases hm0:n=0
   ·subst hm0
    have hw:bx.set bb (.row te.size (wrote es off (List.replicate 0 z)))=bx:=by
     rw [List.replicate_zero,wE];exact zX hb
    refine ⟨.tuple #[],w,?_,?_,?_,?_⟩
    ·cases base<;>simp [Builtin.clear_,aV ht]
    ·simp only [dF,hw];exact Ext.refl _ _ _
    ·simp only [dF,hw];exact cx
    simp only [aj];exact ⟨[],rfl,by simp [ak]⟩
   have hne:es≠[]:=fun h=>hm0 (DV h)
   rcases hcap with hcap|⟨rfl,cs,ce,cf,j1,j2⟩
   ·omega
   have hfit:(off+(List.replicate n z).length)*te.size≤cs.size:=by
    rw [List.length_replicate];exact Nat.le_trans (Nat.mul_le_mul_right _ (by omega)) j2
   have hzl:(Builtin.zeroCells ⟨zc⟩ n).toList.length=(List.replicate n z).length*te.size:=by
    have:=ak.length (g7 n)
    rw [this]
    simp [g5]
   obtain ⟨w',r1,r2,r3⟩:=zW (P:=P) cx hb hne hoff (fun r hr=>by rw [List.eq_of_mem_replicate hr];exact g5) (g7 n) hzl j1 hfit
   refine ⟨.tuple #[],w',?_,r2,r3,by simp only [aj];exact ⟨[],rfl,by simp [ak]⟩⟩
   obtain ⟨n',rfl⟩:∃n',n=n'+1:=⟨n-1,by omega⟩
   simp [Builtin.clear_,aV ht,gL g1 g2,g3,r1]
  simp at hr
 simp at hr
theorem Sb (n:Int) (h:-9223372036854775808≤n∧n≤9223372036854775807):IntKind.i64.wrap n=n:=by
 simp [IntKind.wrap,IntKind.signed,IntKind.bits];omega
theorem DW {t u e sLen sCap:Nat} {m:Int} {k:IntKind} {base:Option Addr} {olds zc:List Value} {ei:TypeInfo} {zv:Value}
 (ht:P.underlying t=some (.slice e)) (hu:P.underlying u=some (.int k)) (hi:P.info? e=some ei) (hz:ei.zero=some zv) (U0:zv.cells=⟨zc⟩) (hzl:zc.length=ei.size)
 (hs:gx P w ei.size sLen (.slice base sLen sCap) olds) (hm:0≤m) (WG:sLen≤sCap) (hsz:0<ei.size)
 (hcap:sCap<sLen+m.toNat) (hb0:0<ei.bytes) (hb:(sLen+m.toNat)*ei.bytes≤140737488355328) (ty:Nat):
 ∃cap rest,sLen+m.toNat≤cap∧(cap*ei.size=m.toNat*ei.size+olds.length+rest)∧∃zs:List Value,zs.length=rest∧
  (Builtin.append_ #[t,u] ty #[.slice base sLen sCap,.int .i64 m]).run P w=.ok (.slice (some ⟨w.heap.size,0,none⟩) (sLen+m.toNat) cap)
   {w with drawn:=w.drawn+1,heap:=w.heap.push (.cells ⟨olds++(Builtin.zeroCells ⟨zc⟩ m.toNat).toList++zs⟩ e)}:=by
 obtain ⟨cap,uJ⟩:∃cap,cap=(Question.appendCap (sLen+m.toNat) sCap e).cut (w.tape w.drawn (Question.appendCap (sLen+m.toNat) sCap e)):=⟨_,rfl⟩
 have OK:sLen+m.toNat≤cap:=by rw [uJ];simp only [Question.cut];omega
 refine ⟨cap,(cap-(sLen+m.toNat))*ei.size,OK,?_,(Builtin.zeroCells ⟨zc⟩ (cap-(sLen+m.toNat))).toList,by simp [Builtin.zeroCells,hzl],?_⟩
 ·rw [hs.2.1]
  have:cap=sLen+m.toNat+(cap-(sLen+m.toNat)):=by omega
  conv=>lhs;rw [this]
  simp only [Nat.add_mul];omega
 have hnc:=uI hcap hb
 have U1:¬(281474976710656<Builtin.nextslicecap (sLen+m.toNat) sCap*ei.bytes):=by omega
 have U2:ei.bytes≠0:=by omega
 have hn:¬(sLen+m.toNat≤sCap):=by omega
 have h1:=(hs.2.2 w.drew (fun _ _=>rfl)).2
 have hle:(sLen+m.toNat)*1≤(sLen+m.toNat)*ei.bytes:=Nat.mul_le_mul_left _ hb0
 have hw:IntKind.i64.wrap m=m:=Sb m (by omega)
 have hl0:¬m<0:=by omega
 have hmb:m.toNat*ei.bytes≤(sLen+m.toNat)*ei.bytes:=Nat.mul_le_mul_right _ (by omega)
 have hl1:¬(281474976710656:Int)<m*(ei.bytes:Int):=by
  have:m*(ei.bytes:Int)=((m.toNat*ei.bytes:Nat):Int):=by rw [Int.natCast_mul,Int.toNat_of_nonneg hm]
  omega
 have Uf:¬(m.toNat=0∨ei.size=0):=by omega
 have hmx:IntKind.i64.max=9223372036854775807:=by decide
 have OQ:¬(IntKind.i64.max<((sLen+m.toNat:Nat):Int)):=by rw [hmx];omega
 have Xd:¬(9223372036854775807<(sLen:Int)+max m 0):=by omega
 have Zy:¬(m.toNat*ei.size=0):=by rw [Nat.mul_eq_zero];exact Uf
 simp [Builtin.append_,aV ht,aV hu,bP hi,l5 hi,gL hi hz,asInt,asIntOf,hw,hl0,hl1,hn,U1,U2,Zy,Xd,Question.forced,h1,U0,newRow,←uJ]
 have e1:(⟨olds⟩++(Builtin.zeroCells ⟨zc⟩ m.toNat++Builtin.zeroCells ⟨zc⟩ (cap-(sLen+m.toNat))):Array Value)=⟨olds++((Builtin.zeroCells ⟨zc⟩ m.toNat).toList++(Builtin.zeroCells ⟨zc⟩ (cap-(sLen+m.toNat))).toList)⟩:=by
  apply Array.ext'
  simp
 rw [e1]
 rfl
end
end Dem
end
section
open Go
namespace Dem
section
variable {P:Program} {T:Nat→Option TI} {G:Nat→Option (List D)} {β:Nat→Nat} {bx:List az} {w:World} {X:Nat→Prop}
theorem IK (hT:kr P T) (cx:cJ G β bx w X) {t u e:Nat} {k:IntKind} {te:TI} (ht:P.underlying t=some (.slice e)) (hu:P.underlying u=some (.int k)) (hte:T e=some te) {bb sz off n c0:Nat} {so:Bool} {ux:Value}
 (hx:aj β bx w (bg β bx w X) (.vw bb sz off n c0 so) ux) {m:Int} {c:Prop} {v:AV} {b:Option (List az)} (hr:KY te bb sz off n c0 so m bx=some ⟨c,v,b⟩) (hc:c) (ty:Nat):
 ∃r w' β',(Builtin.append_ #[t,u] ty #[ux,.int .i64 m]).run P w=.ok r w'∧Ext β bx w β' (dF bx b) w'∧cJ G β' (dF bx b) w' X∧aj β' (dF bx b) w' (bg β' (dF bx b) w' X) v r:=by
 unfold KY at hr
 split at hr
 ·rename_i s es z hb hz
  cases h1:Nat.beq s sz with
  |false=>simp [h1] at hr
  |true=>
  cases h2:Nat.beq sz te.size with
  |false=>simp [h1,h2] at hr
  |true=>
  cases h3:eN te with
  |false=>simp [h1,h2,h3] at hr
  |true=>
  cases h4:so with
  |false=>simp [h1,h2,h3,h4] at hr
  |true=>
  have Lc:=Nat.eq_of_beq_eq_true h1
  have R9:=Nat.eq_of_beq_eq_true h2
  subst Lc R9 h4
  simp only [h1,h3,Bool.and_self,cond_true,osI,R.mk.injEq] at hr
  obtain ⟨rfl,rfl,rfl⟩:=hr
  obtain ⟨hm,hcap,hoff,OQ⟩:=hc
  obtain ⟨ei,zv,zc,g1,g2,g3,g4,g5,g6,g7⟩:=wD (P:=P) (β:=β) (bx:=bx) (w:=w) hT hte hz h3 (ok:=bg β bx w X)
  obtain ⟨ei',ed,q1,q2,q3,q4,q5,q6⟩:=aK (hT.ti _ _ hte)
  rw [g1] at q1
  simp only [osI] at q1;subst q1
  obtain ⟨za,hz1,RF,Y0,Y1⟩:=mg h3
  have hrows:(AV.vw bb te.size off n c0 true).rows bx=some ((es.drop off).take n):=by
   have hle:Nat.ble (off+n) es.length=true:=Nat.ble_eq_true_of_le hoff
   simp [AV.rows,hb,hle]
  have hlen:((es.drop off).take n).length=n:=by simp;omega
  simp only [aj] at hx
  obtain ⟨DX,base,cap,cs,ce,cf,rfl,k1,k2,k3,k4⟩:=hx
  have k3':=k3 trv
  subst k3'
  have aD:∀r∈es,r.length=te.size:=by
   rcases cx.box _ _ hb with rfl|⟨_,_,_,j2⟩
   ·simp
   exact ay.lens _ _ j2
  have hpart:(es.drop off).take n=[]∨∃blk o sz,base=some ⟨blk,o,none⟩∧ay w (bg β bx w X) blk sz ((es.drop off).take n) o:=by
   have Oh:aj β bx w (bg β bx w X) (.vw bb te.size off n cap true) (.slice base n cap):=by
    simp only [aj];exact ⟨DX,base,cap,cs,ce,cf,rfl,k1,k2,k3,k4⟩
   obtain ⟨base',cap',e1,_,e3⟩:=oC (IF:=bg β bx w X) hoff ((cx.box bb _ hb).imp id fun ⟨_,_,_,g⟩=>g) Oh
   simp only [Value.slice.injEq] at e1
   obtain ⟨rfl,_,_⟩:=e1
   exact e3.imp id fun ⟨a,c⟩=>⟨β bb,off*te.size,te.size,a,c⟩
  obtain ⟨os,o1,o2⟩:=dN (P:=P) (β:=β) (bx:=bx) (cap:=cap) (base:=base) (es:=(es.drop off).take n) (ok:=bg β bx w X) (size:=te.size)
   (fun r hr=>aD r (List.mem_of_mem_drop (List.mem_of_mem_take hr))) hpart
  rw [hlen] at o1
  rw [q3] at o1
  obtain ⟨cap',rest,r1,r2,zs,r3,r4⟩:=DW (P:=P) ht hu g1 g2 g3 g4 o1 hm k1 (by omega) hcap (by omega) (by rw [←q4];exact OQ) ty
  have Zz:(Builtin.zeroCells ⟨zc⟩ m.toNat).toList.length=m.toNat*te.size:=by
   have:=ak.length (g7 m.toNat)
   rw [this];simp [g5]
  have hrl:((es.drop off).take n++List.replicate m.toNat z).length=n+m.toNat:=by rw [List.length_append,hlen,List.length_replicate]
  obtain ⟨p1,p2,p3⟩:=nQ (e:=e) (size:=te.size) (cap:=cap') (rows:=(es.drop off).take n++List.replicate m.toNat z) (vs:=os++(Builtin.zeroCells ⟨zc⟩ m.toNat).toList) (zs:=zs) cx
   (by
    intro r hr
    rcases List.mem_append.1 hr with hr|hr
    ·exact aD r (List.mem_of_mem_drop (List.mem_of_mem_take hr))
    rw [List.eq_of_mem_replicate hr];exact g5)
   (ak.flatten_append o2 (g7 m.toNat)) (by rw [List.length_append,Zz,r3,q3];omega) (by rw [hrl];exact r1) (by
    intro h0
    have:=congrArg List.length h0
    rw [hrl] at this
    simp at this;omega)
  rw [hrl] at p3
  refine ⟨_,_,_,r4,p1,p2,?_⟩
  simp only [aj] at p3 ⊢
  obtain ⟨y1,⟨y2,_⟩|⟨y2,Sc,y3,y4,y5,y6,y7,y8,y9⟩⟩:=p3
  ·omega
  simp only [Value.slice.injEq] at y6
  obtain ⟨y6,_,rfl⟩:=y6
  exact ⟨y1,_,_,y3,y4,y5,rfl,y7,y7,fun h=>by simp at h,.inr ⟨by rw [y6];simp,y8,by simpa using y9⟩⟩
 simp at hr
theorem DY (hT:kr P T) (cx:cJ G β bx w X) {t u e:Nat} {te:TI} {ud:TypeDesc} (ht:P.underlying t=some (.slice e)) (hu:P.underlying u=some ud) (R5:∀k,ud≠.int k) (hte:T e=some te) {bb sz off n c0:Nat} {so:Bool} {ux:Value}
 (hx:aj β bx w (bg β bx w X) (.vw bb sz off n c0 so) ux) {y:AV} {uy:Value} (hy:aj β bx w (bg β bx w X) y uy) {c:Prop} {v:AV} {b:Option (List az)} (hr:rB te bb sz off n c0 so y bx=some ⟨c,v,b⟩) (hc:c) (ty:Nat):
 ∃r w',(Builtin.append_ #[t,u] ty #[ux,uy]).run P w=.ok r w'∧Ext β bx w β (dF bx b) w'∧cJ G β (dF bx b) w' X∧aj β (dF bx b) w' (bg β (dF bx b) w' X) v r:=by
 obtain ⟨ei,ed,g1,g2,g3,g4,g5,g6⟩:=aK (hT.ti _ _ hte)
 unfold rB at hr
 split at hr
 ·rename_i s es xs hb hxs
  cases h1:Nat.beq s sz with
  |false=>simp [h1] at hr
  |true=>
  cases h2:Nat.beq sz te.size with
  |false=>simp [h1,h2] at hr
  |true=>
  have Lc:=Nat.eq_of_beq_eq_true h1
  have R9:=Nat.eq_of_beq_eq_true h2
  subst Lc R9
  simp only [h1,Bool.and_self,cond_true,osI,R.mk.injEq] at hr
  obtain ⟨rfl,rfl,rfl⟩:=hr
  obtain ⟨⟨hoff,DV⟩,hcap,hlen⟩:=hc
  have hx0:=hx
  simp only [aj] at hx
  obtain ⟨DX,base,cap,cs,ce,cf,rfl,k1,k2,k3,k4⟩:=hx
  obtain ⟨us,f1,f2,f3,f4⟩:=xQ (P:=P) cx hy hxs hlen (m:=xs.length) (Nat.le_refl _)
  rw [List.take_of_length_le (Nat.le_refl _)] at f4
  rw [g3] at f3
  have Ug:n+xs.length≤cap:=by omega
  by_cases hx0':xs=[]
  ·subst hx0'
   have Xc:us=[]:=by simpa using f2
   subst Xc
   have hw:bx.set bb (.row te.size (wrote es (off+n) []))=bx:=by rw [wE];exact zX hb
   refine ⟨.slice base n cap,w,?_,?_,?_,?_⟩
   ·have hn:n≤cap:=k1
    simp only [List.length_nil] at f1 f3
    cases base<;>simp [Builtin.append_,aV ht,aV hu,bP g1,f1,hn,f3,storeCells]
   ·simp only [dF,hw];exact Ext.refl _ _ _
   ·simp only [dF,hw];exact cx
   simp only [dF,hw];simpa using hx0
  have hne:es≠[]:=fun h=>hx0' (by simpa using DV h)
  have hxl:=List.length_pos_iff.2 hx0'
  rcases k4 with k4|⟨rfl,k5,k6⟩
  ·omega
  have hfit:(off+n+xs.length)*te.size≤cs.size:=Nat.le_trans (Nat.mul_le_mul_right _ (by omega)) k6
  obtain ⟨w',r1,r2,r3⟩:=zW (P:=P) cx hb hne hoff hlen f4 f2 k5 hfit
  have hst:(storeCells (Addr.add ⟨β bb,off*te.size,none⟩ (n*ei.size)) us 0).run P w=.ok () w':=by
   rw [fO,←g3,←Nat.add_mul];exact r1
  refine ⟨.slice (some ⟨β bb,off*te.size,none⟩) (n+xs.length) cap,w',?_,r2,r3,?_⟩
  ·simp [Builtin.append_,aV ht,aV hu,bP g1,f1,Ug,f3,hst]
  obtain ⟨c',q1,q2⟩:=r2.shape _ _ _ _ k5
  simp only [aj,dF]
  refine ⟨(r2.born bb DX).2,_,cap,c',ce,cf,rfl,Ug,k2,k3,.inr ⟨rfl,q1,by rw [q2];exact k6⟩⟩
 simp at hr
theorem OR {ok:Nat→Prop} {bb sz off n c:Nat} {ex:Bool} {es:List (List D)} {u:Value} (hw:whole es off n c ex) (h:aj β bx w ok (.vw bb sz off n c ex) u):aj β bx w ok (.ow bb sz n) u:=by
 obtain ⟨rfl,rfl,hw⟩:=hw
 simp only [aj] at h ⊢
 obtain ⟨DX,base,cap,cs,ce,cf,rfl,k1,k2,k3,k4⟩:=h
 refine ⟨DX,?_⟩
 by_cases aD:es=[]
 ·obtain ⟨rfl,rfl⟩:=hw aD
  subst aD
  exact .inl ⟨rfl,base,by rw [k3 rfl];rfl⟩
 right
 have:=List.length_pos_iff.2 aD
 refine ⟨by omega,?_⟩
 rcases k4 with k4|⟨rfl,k5,k6⟩
 ·omega
 exact ⟨cap,cs,ce,cf,by simp,k1,k5,by simpa using k6⟩
theorem IL {Ud:Bool} {n n' cap:Nat} {vl vm:Option Value} {xh:Value}:Instr.sliceBounds Ud n cap vl (some xh) vm=Instr.sliceBounds Ud n' cap vl (some xh) vm:=by
 cases vm<;>rfl
theorem FO {len cap:Nat} {lo:Option Int} {h m:Int} {vl:Option Value} {xh xm:Value} (hl:BV lo vl) (hh:BV (some h) (some xh)) (hm:BV (some m) (some xm)) (h0:0≤h) (hhm:h≤m) (hmc:m≤cap) (hlo:∀z,lo=some z→0≤z∧z≤h):
 (Instr.sliceBounds true len cap vl (some xh) (some xm)).run P w=.ok (aW lo,h.toNat,m.toNat) w:=by
 unfold Instr.sliceBounds
 simp only [Sem.run_bind]
 rw [iO hm (by omega) (by omega)]
 simp only [Result.andThen_ok]
 rw [iO hh h0 (by omega)]
 simp only [Result.andThen_ok]
 cases lo with
 |none=>cases vl<;>simp [BV] at hl;simp [aW]
 |some z=>
  cases vl with
  |none=>simp [BV] at hl
  |some x=>
   have hz:=hlo z rfl
   simp only [Sem.run_bind]
   rw [iO hl hz.1 (by omega)]
   simp [aW]
theorem OS {ok:Nat→Prop} {bb sz off n c n' cap lo hi cap' c':Nat} {ex sK:Bool} {base:Option Addr} (DX:bT bx bb) (hlo:lo≤hi) (hhc:hi≤lo+cap') (RH:lo+cap'≤cap) (wh:c'≤cap') (hex:sK=true→cap'=c')
 (k4:cap=0∨base=some ⟨β bb,off*sz,none⟩∧∃cs ce cf,w.heap[β bb]?=some (.cells cs ce cf)∧(off+cap)*sz≤cs.size) {m:Nat} (hm:m=lo+cap') (hn':n'=hi-lo):
 aj β bx w ok (.vw bb sz (off+lo) n' c' sK) (.slice (if m=lo then base else base.map (·.add (lo*sz))) n' cap'):=by
 subst hm hn'
 simp only [aj]
 by_cases h0:cap'=0
 ·exact ⟨DX,_,cap',#[],0,(0,0),rfl,by omega,wh,hex,.inl h0⟩
 rcases k4 with k4|⟨rfl,cs,ce,cf,k5,k6⟩
 ·omega
 refine ⟨DX,_,cap',cs,ce,cf,rfl,by omega,wh,hex,.inr ⟨?_,k5,?_⟩⟩
 ·rw [if_neg (by omega)];simp [fO,Nat.add_mul]
 exact Nat.le_trans (Nat.mul_le_mul_right _ (by omega)) k6
theorem IM (hT:kr P T) (cx:cJ G β bx w X) {ty e:Nat} {te:TI} (ht:P.underlying ty=some (.slice e)) (hte:T e=some te) {n m:Int} {c:Prop} {v:AV} {b:Option (List az)} (hr:Fo te n m bx=some ⟨c,v,b⟩) (hc:c):
 ∃r w' β',(Instr.makeSlice ty (.int .i64 n) (.int .i64 m)).run P w=.ok r w'∧Ext β bx w β' (dF bx b) w'∧cJ G β' (dF bx b) w' X∧aj β' (dF bx b) w' (bg β' (dF bx b) w' X) v r:=by
 unfold Fo at hr
 split at hr
 ·rename_i z hz
  cases h3:eN te with
  |false=>simp [h3] at hr
  |true=>
  simp only [h3,cond_true,osI,R.mk.injEq] at hr
  obtain ⟨rfl,rfl,rfl⟩:=hr
  obtain ⟨hn,rfl,OQ⟩:=hc
  obtain ⟨ei,zv,zc,g1,g2,g3,g4,g5,g6,g7⟩:=wD (P:=P) (β:=β) (bx:=bx) (w:=w) hT hte hz h3 (ok:=bg β bx w X)
  obtain ⟨ei',ed,q1,q2,q3,q4,q5,q6⟩:=aK (hT.ti _ _ hte)
  rw [g1] at q1
  simp only [osI] at q1;subst q1
  obtain ⟨za,hz1,RF,Y0,Y1⟩:=mg h3
  obtain ⟨N,rfl⟩:∃N:Nat,n=N:=⟨n.toNat,by omega⟩
  simp only [Int.toNat_natCast] at OQ ⊢
  have hN:N≤140737488355328:=Nat.le_trans (Nat.le_mul_of_pos_right N (by omega)) OQ
  have hw:IntKind.i64.wrap (N:Int)=N:=by simp [IntKind.wrap,IntKind.signed,IntKind.bits];omega
  have hroom:¬(N*ei.bytes>roomBytes):=by rw [←q4];simp only [roomBytes];omega
  have ZA:¬((ei.bytes:Int)*N>2^48):=by
   have e1:((ei.bytes:Int)*N)=((N*ei.bytes:Nat):Int):=by rw [Nat.mul_comm];simp
   rw [e1,←q4];omega
  have hneg:¬((N:Int)<0):=by omega
  have Ld:¬(281474976710656<(ei.bytes:Int)*N):=by omega
  have hcells:Array.map (fun x=>zc[x%zc.length]?.getD default) (Array.range (N*ei.size))=Builtin.zeroCells ⟨zc⟩ N:=by
   simp [Builtin.zeroCells,g4]
  refine ⟨.slice (some ⟨w.heap.size,0,none⟩) N N,{w with heap:=w.heap.push (.cells (Builtin.zeroCells ⟨zc⟩ N) e)},kZ β bx.length w.heap.size,?_,gk _ _,?_,?_⟩
  ·by_cases h0:N*ei.size=0
   ·have Uf:Builtin.zeroCells ⟨zc⟩ N=#[]:=by rw [←hcells,h0];simp
    simp [Instr.makeSlice,aV ht,asInt,asIntOf,l5 g1,bP g1,hw,hneg,Ld,askRoom,h0,newRow,newObj,Sem.run,Uf]
    congr 2
    apply Array.eq_empty_of_size_eq_zero
    simp
   simp [Instr.makeSlice,aV ht,asInt,asIntOf,l5 g1,bP g1,hw,hneg,Ld,askRoom,h0,gL g1 g2,newRow,newObj,Sem.run,g3,hcells]
  ·refine kF cx _ _ ?_
   cases N with
   |zero=>exact .inl rfl
   |succ N=>
    refine .inr ⟨_,e,jk w _,?_⟩
    refine mY (β:=kZ β bx.length w.heap.size) (bx:=bx++[.row te.size (List.replicate (N+1) z)]) (List.replicate (N+1) z) 0 (Builtin.zeroCells ⟨zc⟩ (N+1)).toList (fun r hr=>by rw [List.eq_of_mem_replicate hr];exact g5) ?_ (ak.mono ((gk _ _).eY X) _ _ (g7 (N+1)))
    intro k u hk
    simp only [World.cell?,jk w _]
    simpa using hk
  simp only [aj,dF]
  refine ⟨⟨.row te.size (List.replicate N z),by simp,rfl⟩,?_⟩
  cases N with
  |zero=>exact .inl ⟨rfl,_,rfl⟩
  |succ N=>
   refine .inr ⟨by omega,N+1,_,e,(0,0),by rw [bq],Nat.le_refl _,by rw [bq];exact jk w _,?_⟩
   have:(Builtin.zeroCells ⟨zc⟩ (N+1)).size=(N+1)*ei.size:=by simp [Builtin.zeroCells,g4]
   rw [this,q3];exact Nat.le_refl _
 simp at hr
theorem IN (hT:kr P T) (cx:cJ G β bx w X) {ev:Operand→AV} {ρ:Operand→Value} {o:Oper} (hρ:∀x∈o.op.operands.toList,aj β bx w (bg β bx w X) (ev x) (ρ x))
 {c:Prop} {v:AV} {b:Option (List az)} (hr:mW T ev o.op bx=some ⟨c,v,b⟩) (hc:c):dz G β bx w X ((execOp ρ o).run P w) v (dF bx b):=by
 obtain ⟨dst,op,type,pos,after,guard⟩:=o
 simp only at hρ hr
 unfold mW at hr
 split at hr
 ·
  rename_i ty x lo hi mx
  have hx:=hρ x (by simp [Op.operands])
  split at hr
  ·rename_i bb sz off n c0 so te l h he hte hl hh hm
   obtain ⟨ti,e,t1,t2,t3⟩:=eP hte
   have kQ:=fQ hT t1 t2
   obtain ⟨ei,ed,g1,g2,g3,g4,g5,g6⟩:=aK (hT.ti _ _ t3)
   have bl:=oE hl (fun y hy=>hρ y (by simp [Op.operands,hy]))
   have bh:=oE hh (fun y hy=>hρ y (by simp [Op.operands,hy]))
   have bm:=oE hm (fun y hy=>hρ y (by simp [Op.operands,hy]))
   cases hs:Nat.beq te.size sz with
   |false=>simp [hs] at hr
   |true=>
   have hs':=Nat.eq_of_beq_eq_true hs
   subst hs'
   simp only [hs,cond_true,osI,R.mk.injEq] at hr
   obtain ⟨rfl,rfl,rfl⟩:=hr
   rw [he] at hx
   simp only [aj] at hx
   obtain ⟨DX,base,cap,cs,ce,cf,hu,k1,k2,k3,k4⟩:=hx
   have hmn:mx.map ρ=none:=by
    cases mx with
    |none=>rfl
    |some q=>simp [BT] at hm;split at hm<;>simp at hm
   have ZB:cap=0∨base=some ⟨β bb,off*te.size,none⟩∧∃cs ce cf,w.heap[β bb]?=some (.cells cs ce cf)∧(off+cap)*te.size≤cs.size:=k4.imp id fun ⟨a,b,c⟩=>⟨a,cs,ce,cf,b,c⟩
   have hb:(Instr.sliceBounds true n cap (lo.map ρ) (hi.map ρ) none).run P w=.ok (aW l,aT n h,cap) w∧aW l≤aT n h∧aT n h≤cap∧(aT n h≤c0∨aT n h=n)∧aW l≤cap:=by
    cases h with
    |none=>
     have RH:bO n l none:=hc
     have hle:=mZ RH
     exact ⟨oF bl bh RH k1,hle.1,by simp only [aT];omega,.inr rfl,by have:=hle.1;simp only [aT] at this ⊢;omega⟩
    |some h=>
     have RH:bO c0 l (some h):=hc
     have hle:=mZ RH
     cases hi with
     |none=>simp [BT] at hh
     |some q=>
      simp only [Option.map_some] at bh ⊢
      rw [IL (n:=n) (n':=c0)]
      refine ⟨?_,hle.1,by have:=hle.2;simp only [aT] at this ⊢;omega,.inl hle.2,by have:=hle.1;have:=hle.2;simp only [aT] at*;omega⟩
      have:=oF (P:=P) (w:=w) (Ud:=true) bl bh RH k2
      simpa only [aT] using this
   obtain ⟨wj,um,WH,ZC,hb5⟩:=hb
   refine dz.pure cx (u:=.slice (if cap=aW l then base else base.map (·.add (aW l*te.size))) (aT n h-aW l) (cap-aW l)) (bJ _ ?_) ?_
   ·rw [hu,hmn]
    simp [Instr.sliceAt,aV kQ,Instr.slice,wj,bP g1,g3]
   exact OS (ex:=so) (c:=c0) (n:=n) (cap:=cap) DX um (by omega) (by omega) (by omega) (fun hex=>by rw [k3 hex]) ZB (by omega) rfl
  ·rename_i bb sz off n c0 so te l h m he hte hl hh hm
   obtain ⟨ti,e,t1,t2,t3⟩:=eP hte
   have kQ:=fQ hT t1 t2
   obtain ⟨ei,ed,g1,g2,g3,g4,g5,g6⟩:=aK (hT.ti _ _ t3)
   have bl:=oE hl (fun y hy=>hρ y (by simp [Op.operands,hy]))
   have bh:=oE hh (fun y hy=>hρ y (by simp [Op.operands,hy]))
   have bm:=oE hm (fun y hy=>hρ y (by simp [Op.operands,hy]))
   cases hs:Nat.beq te.size sz with
   |false=>simp [hs] at hr
   |true=>
   have hs':=Nat.eq_of_beq_eq_true hs
   subst hs'
   simp only [hs,cond_true,osI,R.mk.injEq] at hr
   obtain ⟨rfl,rfl,rfl⟩:=hr
   obtain ⟨RH,hhm,hmc⟩:=hc
   have hle:=mZ RH
   rw [he] at hx
   simp only [aj] at hx
   obtain ⟨DX,base,cap,cs,ce,cf,hu,k1,k2,k3,k4⟩:=hx
   have ZB:cap=0∨base=some ⟨β bb,off*te.size,none⟩∧∃cs ce cf,w.heap[β bb]?=some (.cells cs ce cf)∧(off+cap)*te.size≤cs.size:=k4.imp id fun ⟨a,b,c⟩=>⟨a,cs,ce,cf,b,c⟩
   cases hi with
   |none=>simp [BT] at hh
   |some qh=>
   cases mx with
   |none=>simp [BT] at hm
   |some qm=>
   simp only [Option.map_some] at bh bm
   have h0:0≤h:=by cases l<;>simp [bO] at RH<;>omega
   have wj:=FO (P:=P) (w:=w) (len:=n) (cap:=cap) bl bh bm h0 hhm (by omega) (fun z hz=>by subst hz;simp [bO] at RH;omega)
   have um:=hle.1
   simp only [aT] at um
   refine dz.pure cx (u:=.slice (if m.toNat=aW l then base else base.map (·.add (aW l*te.size))) (h.toNat-aW l) (m.toNat-aW l)) (bJ _ ?_) ?_
   ·rw [hu]
    simp [Instr.sliceAt,aV kQ,Instr.slice,wj,bP g1,g3]
   exact OS (ex:=so) (c:=c0) (n:=n) (cap:=cap) DX um (by omega) (by omega) (by omega) (fun _=>rfl) ZB (by omega) rfl
  simp at hr
 ·
  rename_i ty x i
  have hx:=hρ x (by simp [Op.operands])
  have hi:=hρ i (by simp [Op.operands])
  split at hr
  ·rename_i bb sz off n c0 so te k z he hte hz
   obtain ⟨ti,e,t1,t2,t3⟩:=eP hte
   have kQ:=fQ hT t1 t2
   obtain ⟨ei,ed,g1,g2,g3,g4,g5,g6⟩:=aK (hT.ti _ _ t3)
   rw [hz] at hi;simp only [aj,aL] at hi
   cases hs:Nat.beq te.size sz with
   |false=>simp [hs] at hr
   |true=>
   have hs':=Nat.eq_of_beq_eq_true hs
   subst hs'
   simp only [hs,cond_true,osI,R.mk.injEq] at hr
   obtain ⟨rfl,rfl,rfl⟩:=hr
   rw [he] at hx;simp only [aj] at hx
   obtain ⟨DX,base,cap,cs,ce,cf,hu,k1,k2,k3,k4⟩:=hx
   rcases k4 with k4|⟨rfl,k5,k6⟩
   ·omega
   refine dz.pure cx (u:=.pointer (some ⟨β bb,off*te.size+z.toNat*te.size,none⟩)) (bJ _ ?_) ?_
   ·rw [hu];simp [Instr.indexAt,hi,asIntOf,aV kQ,hc.1,hc.2,bP g1,fO,g3]
   simp only [aj];exact ⟨by simp [Nat.add_mul],DX⟩
  simp at hr
 ·
  rename_i ty x y
  have hx:=hρ x (by simp [Op.operands])
  have hy:=hρ y (by simp [Op.operands])
  split at hr
  ·rename_i te n m hte he hm
   obtain ⟨ti,e,t1,t2,t3⟩:=eP hte
   have kQ:=fQ hT t1 t2
   rw [he] at hx;rw [hm] at hy
   simp only [aj,aL] at hx hy
   obtain ⟨r,w',β',k1,k2,k3,k4⟩:=IM (P:=P) hT cx kQ t3 hr hc
   exact ⟨β',w',k2,k3,.inl ⟨r,bJ _ (by rw [hx,hy];exact k1),k4⟩⟩
  simp at hr
 ·
  rename_i bn args ats
  have hxs:ak β bx w (bg β bx w X) (args.toList.map ev) (args.toList.map ρ):=iC args.toList (fun y hy=>hρ y (by simp [Op.operands,Call.operands];exact by simpa using hy))
  have fin:∀(r:Value) (w':World) (β':Nat→Nat) (aR:List az) (v':AV),(Go.builtin bn ⟨ats.toList⟩ type (args.map fun|.const _=>true|_=>false) ⟨args.toList.map ρ⟩).run P w=.ok (.value r) w'→
   Ext β bx w β' aR w'→cJ G β' aR w' X→aj β' aR w' (bg β' aR w' X) v' r→dz G β bx w X ((execOp ρ ⟨dst,.call {callee:=.builtin bn,args:=args,argTypes:=ats},type,pos,after,guard⟩).run P w) v' aR:=by
   intro r w' β' aR v' h1 h2 h3 h4
   refine ⟨β',w',h2,h3,.inl ⟨r,?_,h4⟩⟩
   simp only [execOp,resolve,Sem.run_bind,Sem.run_pure,Result.andThen_ok,invoke,fP args ρ]
   exact h1
  generalize args.toList.map ρ=vs at hxs fin
  generalize U6:ats.toList=al at hr fin
  generalize args.toList.map ev=gJ at hr hxs
  generalize (args.map fun|.const _=>true|_=>false)=cs at fin
  split at hr
  ·
   rename_i bb sz off n c0 so ty
   simp only [ak] at hxs
   obtain ⟨u,us,rfl,hx,rfl⟩:=hxs
   split at hr
   ·rename_i te hte
    obtain ⟨ti,e,t1,t2,t3⟩:=eP hte
    have kQ:=fQ hT t1 t2
    simp only [R.pure,osI,R.mk.injEq] at hr
    obtain ⟨_,rfl,rfl⟩:=hr
    simp only [aj] at hx
    obtain ⟨DX,base,cap,_,_,_,rfl,_⟩:=hx
    exact fin (.int .i64 n) w β bx _ (bJ _ (by simp [Builtin.len_,aV kQ,goInt])) (Ext.refl _ _ _) cx (by simp only [aj,aL])
   simp at hr
  ·
   rename_i bb sz off n c0 ty
   simp only [ak] at hxs
   obtain ⟨u,us,rfl,hx,rfl⟩:=hxs
   split at hr
   ·rename_i te hte
    obtain ⟨ti,e,t1,t2,t3⟩:=eP hte
    have kQ:=fQ hT t1 t2
    simp only [R.pure,osI,R.mk.injEq] at hr
    obtain ⟨_,rfl,rfl⟩:=hr
    simp only [aj] at hx
    obtain ⟨DX,base,cap,_,_,_,rfl,_,_,k3,_⟩:=hx
    have:=k3 trv
    subst this
    exact fin (.int .i64 cap) w β bx _ (bJ _ (by simp [Builtin.cap_,aV kQ,goInt])) (Ext.refl _ _ _) cx (by simp only [aj,aL])
   simp at hr
  ·
   rename_i x y ty rest
   simp only [ak] at hxs
   obtain ⟨ux,us,rfl,hx,uy,OI,rfl,hy,rfl⟩:=hxs
   split at hr
   ·rename_i te hte
    obtain ⟨ti,e,t1,t2,t3⟩:=eP hte
    have kQ:=fQ hT t1 t2
    obtain ⟨r,w',k1,k2,k3,k4⟩:=IJ (P:=P) hT cx kQ t3 hx hy hr hc rest type
    exact fin r w' β _ _ (bJ _ k1) k2 k3 k4
   simp at hr
  ·
   rename_i x ty rest
   simp only [ak] at hxs
   obtain ⟨ux,us,rfl,hx,rfl⟩:=hxs
   split at hr
   ·rename_i te hte
    obtain ⟨ti,e,t1,t2,t3⟩:=eP hte
    have kQ:=fQ hT t1 t2
    obtain ⟨r,w',k1,k2,k3,k4⟩:=FN (P:=P) hT cx kQ t3 hx hr hc rest type
    exact fin r w' β _ _ (bJ _ k1) k2 k3 k4
   simp at hr
  ·
   rename_i bb sz off n c0 so y ty u
   simp only [ak] at hxs
   obtain ⟨ux,us,rfl,hx,uy,OI,rfl,hy,rfl⟩:=hxs
   split at hr
   ·rename_i te hte hi
    obtain ⟨ti,e,t1,t2,t3⟩:=eP hte
    have kQ:=fQ hT t1 t2
    split at hr
    ·rename_i m
     simp only [DL] at hi
     split at hi
     ·rename_i tu htu
      split at hi
      ·rename_i k hk
       obtain ⟨ui,ud,q1,q2,q3,q4,q5,q6⟩:=aK (hT.ti _ _ htu)
       rw [hk] at q5
       cases ud<;>simp [cU] at q5
       subst q5
       simp only [aj,aL] at hy;subst hy
       obtain ⟨r,w',β',k1,k2,k3,k4⟩:=IK (P:=P) hT cx kQ q2 t3 hx hr hc type
       exact fin r w' β' _ _ (bJ _ k1) k2 k3 k4
      simp at hi
     simp at hi
    simp at hr
   ·rename_i te hte hi
    obtain ⟨ti,e,t1,t2,t3⟩:=eP hte
    have kQ:=fQ hT t1 t2
    simp only [DL] at hi
    split at hi
    ·rename_i tu htu
     split at hi
     ·simp at hi
     rename_i hk
     obtain ⟨ui,ud,q1,q2,q3,q4,q5,q6⟩:=aK (hT.ti _ _ htu)
     have R5:∀k,ud≠.int k:=by rintro k rfl;exact hk k (by rw [q5];rfl)
     cases II:sameBox bb y with
     |true=>
      simp only [II,cond_true] at hr
      obtain ⟨r,w',k1,k2,k3,k4⟩:=DY (P:=P) hT cx kQ q2 R5 t3 hx hy hr hc type
      exact fin r w' β _ _ (bJ _ k1) k2 k3 k4
     |false=>
      simp only [II,cond_false] at hr
      split at hr
      ·rename_i s es c1 v1 pS hb hap
       simp only [osI,R.mk.injEq] at hr
       obtain ⟨rfl,rfl,rfl⟩:=hr
       obtain ⟨r,w',β',aR,rfl,k1,k2,k3,k4⟩:=uK (P:=P) hT cx htu (fun k hk'=>hk k hk') (OR hc.2 hx) hy hap hc.1 type
       exact fin r w' β' _ _ (bJ _ k1) k2 k3 k4
      simp at hr
    simp at hi
   simp at hr
  simp at hr
 simp at hr
theorem zY (hT:kr P T) (cx:cJ G β bx w X) {ev:Operand→AV} {ρ:Operand→Value} {o:Oper} (hρ:∀x∈o.op.operands.toList,aj β bx w (bg β bx w X) (ev x) (ρ x))
 {c:Prop} {v:AV} {b:Option (List az)} (hr:Ff T ev o.op bx=some ⟨c,v,b⟩) (hc:c):dz G β bx w X ((execOp ρ o).run P w) v (dF bx b):=by
 unfold Ff at hr
 cases hv:iZ ev o.op with
 |true=>rw [hv,cond_true] at hr;exact IN hT cx hρ hr hc
 |false=>rw [hv,cond_false] at hr;exact Mt hT cx hρ hr hc
end
end Dem
end
