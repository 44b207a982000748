/- Parts of a proof, joined. -/
import Derived.Test.YtihohjnkkalgiaaGreatDoorP06
import Derived.ChangeSame
import Derived.ChangeArms
import Derived.OpenShut
import Derived.WideShapes
import Derived.Deep.Slices
import Derived.Orders
set_option linter.all false
set_option maxRecDepth 100000
set_option maxHeartbeats 4000000
section
open Go Go.Deep
namespace Dem
inductive PT where
 |bool
 |int (k:IntKind)
 |str
 |sl (es:List PT)
def LU (r:TypeId→Option (List PT)) (sz:TypeId→Nat):List Field→Nat→Option (List PT)
 |[],_=>some []
 |f::fs,off=>if f.offset=off then match r f.type,LU r sz fs (off+sz f.type) with
  |some a,some b=>if a.length=sz f.type then some (a++b) else none
  |_,_=>none else none
def DM (P:Program):Nat→TypeId→Option (List PT)
 |0,_=>none
 |n+1,t=>match P.underlying t with
  |some .bool=>some [.bool]
  |some (.int k)=>some [.int k]
  |some .string=>some [.str]
  |some (.slice e)=>match DM P n e with
   |some ps=>if ps.length=P.cellsOf e∧0<ps.length then some [.sl ps] else none
   |none=>none
  |some (.struct fs)=>match LU (DM P n) P.cellsOf fs.toList 0 with
   |some ps=>if ps.length=P.cellsOf t then some ps else none
   |none=>none
  |some (.array k e)=>match DM P n e with
   |some ps=>if ps.length=P.cellsOf e∧k*ps.length=P.cellsOf t then some (List.replicate k ps).flatten else none
   |none=>none
  |_=>none
mutual
def vF:PT→D→Prop
 |.bool,d=>∃b,d=.bool b
 |.int k,d=>∃n,d=.int k n∧(Lit.int k n).wf=true
 |.str,d=>∃s:List UInt8,d=.str s∧s.length≤maxLen
 |.sl ps,d=>∃es:List (List D),d=.sl es∧es.length≤maxLen∧∀r∈es,cW ps r
def cW:List PT→List D→Prop
 |[],ds=>ds=[]
 |p::ps,ds=>∃d r,ds=d::r∧vF p d∧cW ps r
end
theorem cW.length:∀{ps:List PT} {ds:List D},cW ps ds→ds.length=ps.length
 |[],ds,h=>by simp only [cW] at h;subst h;rfl
 |p::ps,ds,h=>by
  simp only [cW] at h
  obtain ⟨d,r,rfl,_,h2⟩:=h
  simp [cW.length h2]
theorem cW.append:∀{ps qs:List PT} {ds es:List D},cW ps ds→cW qs es→cW (ps++qs) (ds++es)
 |[],qs,ds,es,h,g=>by simp only [cW] at h;subst h;exact g
 |p::ps,qs,ds,es,h,g=>by
  simp only [cW] at h
  obtain ⟨d,r,rfl,h1,h2⟩:=h
  simp only [List.cons_append,cW]
  exact ⟨d,r++es,rfl,h1,h2.append g⟩
theorem ct.append {w:World} {ok:Nat→Prop}:∀{ds es:List D} {vs us:List Value},ct w ok ds vs→ct w ok es us→ct w ok (ds++es) (vs++us)
 |[],es,vs,us,h,g=>by simp only [ct] at h;subst h;exact g
 |d::ds,es,vs,us,h,g=>by
  simp only [ct] at h
  obtain ⟨v,r,rfl,h1,h2⟩:=h
  simp only [List.cons_append,ct]
  exact ⟨v,r++us,rfl,h1,h2.append g⟩
theorem ct.row {w:World} {ok:Nat→Prop} {blk:Nat}:∀{ds:List D} {vs:List Value} {off:Nat},ct w ok ds vs→(∀i,i<vs.length→w.cell? ⟨blk,off+i,none⟩=vs[i]?)→aT w ok blk ds off
 |[],_,_,_,_=>by simp [aT]
 |d::ds,vs,off,h,hc=>by
  simp only [ct] at h
  obtain ⟨v,r,rfl,h1,h2⟩:=h
  simp only [aT]
  refine ⟨⟨v,by simpa using hc 0 (by simp),h1⟩,h2.row fun i hi=>?_⟩
  have:=hc (i+1) (by simp;omega)
  simpa [Nat.add_assoc,Nat.add_comm 1 i] using this
mutual
def fA {H:Type}:DataW H→List D
 |.lit (.bool b)=>[.bool b]
 |.lit (.int k n)=>[.int k n]
 |.lit (.string s)=>[.str s]
 |.nil=>[.sl []]
 |.slice elems _=>[.sl (sQ elems)]
 |.agg parts=>gP parts
 |_=>[]
def sQ {H:Type}:List (DataW H)→List (List D)
 |[]=>[]
 |d::r=>fA d::sQ r
def gP {H:Type}:List (DataW H)→List D
 |[]=>[]
 |d::r=>fA d++gP r
end
theorem sR {H:Type}:∀l:List (DataW H),sQ l=l.map fA
 |[]=>rfl
 |d::r=>by simp [sQ,sR r]
theorem AI {w:World} {ok:Nat→Prop} {blk sz:Nat}:∀(n off:Nat) (f:Nat→List D),(∀i,i<n→aT w ok blk (f i) (off+i*sz)∧(f i).length=sz)→ap w ok blk sz ((List.range n).map f) off
 |0,off,_,_=>by simp [ap]
 |n+1,off,f,h=>by
  obtain ⟨h1,h2⟩:=h 0 (by omega)
  rw [List.range_succ_eq_map,List.map_cons,List.map_map]
  simp only [ap]
  refine ⟨h2,by simpa using h1,AI n (off+sz) _ fun i hi=>?_⟩
  obtain ⟨k1,k2⟩:=h (i+1) (by omega)
  rw [show off+sz+i*sz=off+(i+1)*sz by rw [Nat.succ_mul];omega]
  exact ⟨k1,k2⟩
theorem Jz {w:World} {a:Addr} {v:Value} (h:w.cell? a=some v):a.spot=none:=by
 unfold World.cell? at h
 split at h
 ·split at h
  ·cases h
  rename_i hs;simpa using hs
 cases h
theorem add_eq {a:Addr} (h:a.spot=none) (n:Nat):a.add n=⟨a.block,a.off+n,none⟩:=by
 unfold Addr.add
 split
 ·rename_i h0;subst h0;cases a;simp_all
 rfl
theorem xV {α:Type} (cs:List α) (off a b:Nat):(cs.drop off).take (a+b)=(cs.drop off).take a++(cs.drop (off+a)).take b:=by
 rw [List.take_add,List.drop_drop]
section
variable {H:Type} {enc:TypeId×Value→H} {P:Program} {w:World} {spare:Nat→Bool} {held:Bool} {ok:Nat→Prop}
theorem xW {r:TypeId→Option (List PT)} {n:Nat} {cs:List Value} (hr:∀t cs x ps,DataW.trod enc P w 0 spare held n t cs=some x→r t=some ps→ct w ok (fA x.1) cs∧cW ps (fA x.1)):
 ∀(fs:List Field) (xs:List (DataW H×List MemPlace)) (off:Nat) (ps:List PT),LU r P.cellsOf fs off=some ps→xs.length=fs.length→
  (∀(i:Nat) (f:Field),fs[i]?=some f→DataW.trod enc P w 0 spare held n f.type ((cs.drop f.offset).take (P.cellsOf f.type))=xs[i]?)→
  ct w ok (gP (xs.map (·.1))) ((cs.drop off).take ps.length)∧cW ps (gP (xs.map (·.1)))
 |[],xs,off,ps,h,hl,_=>by
  simp only [LU,osI] at h;subst h
  obtain rfl:xs=[]:=by simpa using hl
  exact ⟨by simp [ct,gP],by simp [cW,gP]⟩
 |f::fs,[],off,ps,h,hl,hx=>by simp at hl
 |f::fs,x::xs,off,ps,h,hl,hx=>by
  simp only [LU] at h
  split at h
  ·rename_i ho
   split at h
   ·rename_i a b ha hb
    split at h
    ·rename_i hla
     simp only [osI] at h;subst h
     have hx0:=hx 0 f rfl
     obtain ⟨g1,g2⟩:=hr _ _ _ _ (by simpa using hx0) ha
     obtain ⟨k1,k2⟩:=xW hr fs xs _ b hb (by simpa using hl) (fun i f hf=>by simpa using hx (i+1) f (by simpa using hf))
     rw [List.length_append,xV]
     rw [ho,←hla] at g1
     rw [←hla] at k1
     simp only [List.map_cons,gP]
     exact ⟨g1.append k1,g2.append k2⟩
    cases h
   cases h
  cases h
theorem AJ {r:List PT} {cs:List Value}:∀(k off:Nat) (xs:List (DataW H×List MemPlace)),xs.length=k→(∀i x,xs[i]?=some x→ct w ok (fA x.1) ((cs.drop (off+i*r.length)).take r.length)∧cW r (fA x.1))→
 ct w ok (gP (xs.map (·.1))) ((cs.drop off).take (k*r.length))∧cW (List.replicate k r).flatten (gP (xs.map (·.1)))
 |0,off,xs,hl,_=>by
  obtain rfl:xs=[]:=by simpa using hl
  exact ⟨by simp [ct,gP],by simp [cW,gP]⟩
 |k+1,off,[],hl,h=>by simp at hl
 |k+1,off,x::xs,hl,h=>by
  obtain ⟨g1,g2⟩:=h 0 x rfl
  obtain ⟨k1,k2⟩:=AJ (r:=r) (cs:=cs) k (off+r.length) xs (by simpa using hl) (fun i x hx=>by
   obtain ⟨k1,k2⟩:=h (i+1) x (by simpa using hx)
   rw [show off+r.length+i*r.length=off+(i+1)*r.length by rw [Nat.succ_mul];omega]
   exact ⟨k1,k2⟩)
  rw [show (k+1)*r.length=r.length+k*r.length by rw [Nat.succ_mul];omega,xV,List.replicate_succ,List.flatten_cons]
  simp only [List.map_cons,gP]
  exact ⟨ct.append (by simpa using g1) k1,g2.append k2⟩
theorem sS (hok:∀blk,blk<w.heap.size→ok blk):
 ∀(n m:Nat) (t:TypeId) (cs:List Value) (x:DataW H×List MemPlace) (ps:List PT),DataW.trod enc P w 0 spare held m t cs=some x→DM P n t=some ps→ct w ok (fA x.1) cs∧cW ps (fA x.1)
 |0,_,_,_,_,_,_,h=>by simp [DM] at h
 |n+1,m,t,cs,x,ps,h,hp=>by
  have ih:=sS hok n
  rw [DM] at hp
  cases hu:P.underlying t with
  |none=>simp [hu] at hp
  |some d=>
   simp only [hu] at hp
   cases d<;>(try (cases hp;done))<;>simp only at hp
   case bool=>
    simp only [osI] at hp;subst hp
    obtain ⟨b,rfl,rfl⟩:=DataW.trod_bool hu h
    exact ⟨by simp [ct,aF,fA],by simp [cW,vF,fA]⟩
   case int k=>
    simp only [osI] at hp;subst hp
    obtain ⟨z,rfl,rfl,hw⟩:=DataW.trod_int hu h
    exact ⟨by simp [ct,aF,fA],by simpa [cW,vF,fA] using hw⟩
   case string=>
    simp only [osI] at hp;subst hp
    obtain ⟨s,rfl,rfl,hs⟩:=DataW.trod_string hu h
    refine ⟨by simp [ct,aF,fA],?_⟩
    simp only [cW,vF,fA]
    exact ⟨_,_,rfl,⟨_,rfl,by rw [Array.length_toList];exact hs⟩,rfl⟩
   case slice e=>
    split at hp
    ·rename_i qs hq
     split at hp
     ·rename_i hl
      simp only [osI] at hp;subst hp
      rcases open_slice hu h with ⟨rfl,rfl⟩|⟨a,len,cap,mm,n',Dd,Pl,rfl,hb,hlc,hm,Wd,rfl,hx⟩
      ·exact ⟨by simp [ct,aF,fA],by simp [cW,vF,fA]⟩
      have hlen:len≤mm:=by rw [Wd];split<;>omega
      have hel:∀i,i<len→∃cs',w.cells? 0 (a.add (i*P.cellsOf e)) (P.cellsOf e)=some cs'∧ct w ok (fA (Dd i)) cs'∧cW qs (fA (Dd i)):=by
       intro i hi
       obtain ⟨cs',hc,htr⟩:=hx i (by omega)
       exact ⟨cs',hc,ih _ _ _ _ _ htr hq⟩
      have hfl:fA (.slice ((List.range len).map Dd) ((List.range (mm-len)).map fun j=>Dd (len+j)))=[.sl ((List.range len).map fun i=>fA (Dd i))]:=by
       simp [fA,sR,List.map_map,Function.comp_def]
      simp only [hfl]
      have Wc:cW [.sl qs] [.sl ((List.range len).map fun i=>fA (Dd i))]:=by
       simp only [cW,vF]
       refine ⟨_,_,rfl,⟨_,rfl,by simp;omega,?_⟩,rfl⟩
       intro r hr
       obtain ⟨i,hi,rfl⟩:=List.mem_map.1 hr
       obtain ⟨cs',_,_,g⟩:=hel i (by simpa using hi)
       exact g
      refine ⟨?_,Wc⟩
      cases len with
      |zero=>simp [ct,aF]
      |succ len=>
       have hsp:a.spot=none:=by
        obtain ⟨cs',hc,htr⟩:=hel 0 (by omega)
        obtain ⟨_,hl',hcell⟩:=World.cells?_some hc
        have h0:=hcell 0 (by omega)
        rw [List.getElem?_eq_getElem (by omega)] at h0
        have:=Jz h0
        simpa [Addr.add] using this
       have We:a.block<w.heap.size:=by
        obtain ⟨cs',hc,htr⟩:=hel 0 (by omega)
        have:=World.cells?_block hc (by omega)
        simpa [Addr.add] using this
       have g:=AI (w:=w) (ok:=ok) (blk:=a.block) (sz:=P.cellsOf e) (len+1) a.off (fun i=>fA (Dd i)) (fun i hi=>by
        obtain ⟨cs',hc,g1,g2⟩:=hel i hi
        obtain ⟨_,hl',hcell⟩:=World.cells?_some hc
        refine ⟨g1.row (fun j hj=>?_),by rw [g2.length];exact hl.1⟩
        have:=hcell j (by omega)
        rw [add_eq hsp,add_eq rfl] at this
        exact this)
       simp only [ct,aF]
       exact ⟨_,_,rfl,⟨some a,cap,by simp,by simp;omega,.inr ⟨a.block,a.off,P.cellsOf e,by cases a;simp_all,hok _ We,g⟩⟩,rfl⟩
     cases hp
    cases hp
   case struct fs=>
    split at hp
    ·rename_i qs hq
     split at hp
     ·rename_i hl
      simp only [osI] at hp;subst hp
      obtain ⟨xs,m',hm,rfl,Oy,hxl,hxs⟩:=DataW.trod_struct hu h
      have hf:∀(i:Nat) (f:Field),fs.toList[i]?=some f→DataW.trod enc P w 0 spare held m' f.type ((cs.drop f.offset).take (P.cellsOf f.type))=xs[i]?:=by
       intro i f hf
       exact hxs i f (by simpa using hf)
      obtain ⟨g1,g2⟩:=xW (ok:=ok) (fun t cs x ps=>ih m' t cs x ps) fs.toList xs 0 _ hq (by simpa using hxl) hf
      simp only [fA]
      refine ⟨?_,g2⟩
      have e:(cs.drop 0).take qs.length=cs:=by rw [List.drop_zero,hl,←Oy,List.take_length]
      rwa [e] at g1
     cases hp
    cases hp
   case array k e=>
    split at hp
    ·rename_i qs hq
     split at hp
     ·rename_i hl
      simp only [osI] at hp;subst hp
      obtain ⟨xs,m',hm,rfl,Oy,hxl,hxs⟩:=DataW.trod_array hu h
      obtain ⟨g1,g2⟩:=AJ (w:=w) (ok:=ok) (r:=qs) (cs:=cs) k 0 xs hxl (fun i x hi=>by
       have hi3:i<xs.length:=(List.getElem?_eq_some_iff.1 hi).1
       have:=hxs i (by omega)
       rw [hl.1,Nat.zero_add]
       rw [hi] at this
       exact ih _ _ _ _ _ this hq)
      simp only [fA]
      refine ⟨?_,g2⟩
      have e:(cs.drop 0).take (k*qs.length)=cs:=by rw [List.drop_zero,hl.2,←Oy,List.take_length]
      rwa [e] at g1
     cases hp
    cases hp
end
end Dem
end
section
open Go
namespace Dem
section
variable {T:Nat→Option TI} {G:Nat→Option (List D)} {bx aP:List ay}
def kE (bx aP:List ay):Prop:=∀(i:Nat) (b:ay),bx[i]?=some b→b.born=true→aP[i]?=some b
theorem kE.refl (bx:List ay):kE bx bx:=fun _ _ h _=>h
theorem LV (h:kE bx aP) {x:AV} {y:D} (hx:x.qy bx=some y):x.qy aP=some y:=by
 cases x with
 |ow b sz n=>
  simp only [AV.qy] at hx ⊢
  split at hx
  ·rename_i s es hb
   rw [h _ _ hb rfl];exact hx
  ·rename_i s es hb
   rw [h _ _ hb rfl];exact hx
  simp at hx
 |fn f cs=>cases cs with
  |nil=>exact hx
  |cons c cs=>exact hx
 |_=>exact hx
theorem Ik (h:kE bx aP):∀{xs:List AV} {ys:List D},iw bx xs=some ys→iw aP xs=some ys
 |[],ys,hx=>hx
 |x::xs,ys,hx=>by
  simp only [iw] at hx ⊢
  split at hx
  ·rename_i y ys' hy hys
   rw [LV h hy,Ik h hys];exact hx
  simp at hx
theorem qb (h:kE bx aP) {x:AV} {es:List (List D)} (hx:x.rows bx=some es):x.rows aP=some es:=by
 cases x with
 |d y=>cases y<;>exact hx
 |ow b sz n=>
  simp only [AV.rows] at hx ⊢
  split at hx
  ·rename_i s es hb
   rw [h _ _ hb rfl];exact hx
  ·rename_i s es hb
   rw [h _ _ hb rfl];exact hx
  simp at hx
 |vw b sz off n c ex=>
  simp only [AV.rows] at hx ⊢
  split at hx
  ·rename_i s es hb
   rw [h _ _ hb rfl];exact hx
  ·rename_i s es hb
   rw [h _ _ hb rfl];exact hx
  simp at hx
 |_=>exact hx
theorem QK (h:kE bx aP) {x y:AV} (hx:fz bx x=some y):fz aP x=some y:=by
 cases x with
 |ow b sz n=>
  simp only [fz,Option.map_eq_some_iff] at hx ⊢
  obtain ⟨q,h1,h2⟩:=hx
  exact ⟨q,LV h h1,h2⟩
 |vw b sz off n c ex=>
  simp only [fz,Option.map_eq_some_iff] at hx ⊢
  obtain ⟨q,h1,h2⟩:=hx
  exact ⟨q,qb h h1,h2⟩
 |_=>exact hx
theorem LW (h:kE bx aP):∀{xs ys:List AV},FH bx xs=some ys→FH aP xs=some ys
 |[],ys,hx=>hx
 |x::xs,ys,hx=>by
  simp only [FH] at hx ⊢
  split at hx
  ·rename_i y ys' hy hys
   rw [QK h hy,LW h hys];exact hx
  simp at hx
theorem BW (h:kE bx aP):∀{xs ys:List AV},eL bx xs=some ys→eL aP xs=some ys
 |[],ys,hx=>hx
 |x::xs,ys,hx=>by
  simp only [eL] at hx ⊢
  split at hx
  ·rename_i y ys' hy hys
   have:oy aP x=some y:=by
    cases x with
    |agg cs=>
     simp only [oy,Option.map_eq_some_iff] at hy ⊢
     obtain ⟨q,h1,h2⟩:=hy
     exact ⟨q,LW h h1,h2⟩
    |_=>simp only [oy] at hy ⊢;exact QK h hy
   rw [this,BW h hys];exact hx
  simp at hx
theorem LX (h:kE bx aP) {ti:TI} {a:AV} {r:R} (hx:n8 ti a bx=some r):n8 ti a aP=some r:=by
 cases a with
 |ptr b off=>
  simp only [n8] at hx ⊢
  split at hx
  ·rename_i cs hb
   rw [h _ _ hb rfl];exact hx
  simp at hx
 |rp b sz i j=>
  simp only [n8] at hx ⊢
  split at hx
  ·rename_i s es hb
   rw [h _ _ hb rfl];exact hx
  ·rename_i s es hb
   rw [h _ _ hb rfl];exact hx
  simp at hx
 |_=>exact hx
theorem OP (h:kE bx aP) {x v:AV} (hx:xe x bx=some v):xe x aP=some v:=by
 cases x with
 |d y=>cases y<;>exact hx
 |ow b sz n=>
  simp only [xe] at hx ⊢
  split at hx
  ·rename_i es hr
   rw [qb h hr];exact hx
  simp at hx
 |vw b sz off n c ex=>
  simp only [xe] at hx ⊢
  split at hx
  ·rename_i es hr
   rw [qb h hr];exact hx
  simp at hx
 |_=>exact hx
theorem AK (h:kE bx aP) {size:Nat}:∀{ps:List (Nat×AV)} {rs:List (List D)},rowsOf bx size ps=some rs→rowsOf aP size ps=some rs
 |[],rs,hx=>hx
 |(i,v)::r,rs,hx=>by
  simp only [rowsOf] at hx ⊢
  split at hx
  ·rename_i vs hv
   split at hx
   ·rename_i ds TE hd hr
    simp only [Ik h hd,AK h hr];exact hx
   simp at hx
  simp at hx
theorem JA (h:kE bx aP) {t:Nat} {x:AV} {lo hi mx:Option Int} {c:Prop} {v:AV} (hx:ou T t x lo hi mx bx=some ⟨c,v,none⟩):ou T t x lo hi mx aP=some ⟨c,v,none⟩:=by
 unfold ou at hx ⊢
 split at hx
 ·split at hx
  ·exact hx
  ·split at hx
   ·rename_i es te hr hte
    simp only [qb h hr,hte]
    simp only [osI,R.mk.injEq] at hx ⊢
    refine ⟨hx.1,hx.2.1,?_⟩
    have h3:=hx.2.2
    generalize cr _=q at h3 ⊢
    cases q<;>simp at h3 ⊢
   simp at hx
  ·split at hx
   ·have hr:=‹AV.rows bx _=some _›
    have hte:=‹T _=some _›
    simp only [qb h hr,hte]
    simp only [osI,R.mk.injEq] at hx ⊢
    refine ⟨hx.1,hx.2.1,?_⟩
    have h3:=hx.2.2
    generalize cr _=q at h3 ⊢
    cases q<;>simp at h3 ⊢
   simp at hx
  ·exact hx
  ·split at hx
   ·split at hx
    ·simp at hx
    simp at hx
   simp at hx
  simp at hx
 simp at hx
theorem xX (h:kE bx aP) {t n:Nat} {ps:List (Nat×AV)} {c:Prop} {v:AV} (hx:fw T t n ps bx=some ⟨c,v,none⟩):fw T t n ps aP=some ⟨c,v,none⟩:=by
 unfold fw at hx ⊢
 split at hx
 ·split at hx
  ·split at hx
   ·rename_i te hte
    generalize (Nat.beq ps.length n&&lV 0 ps&&Nat.ble (n*te.size) 16777216&&te.zero.cells?.isSome)=q at hx ⊢
    cases q with
    |false=>simp at hx
    |true=>
     simp only [cond_true] at hx ⊢
     split at hx
     ·rename_i rs hr
      simp only [AK h hr]
      simp only [osI,R.mk.injEq] at hx ⊢
      refine ⟨hx.1,hx.2.1,?_⟩
      have h3:=hx.2.2
      generalize C0 _=q at h3 ⊢
      cases q<;>simp at h3 ⊢
     simp at hx
   simp at hx
  simp at hx
 simp at hx
theorem LY (h:kE bx aP) {s d:Nat} {x:AV} {r:R} (hx:vg T s d x bx=some r):vg T s d x aP=some r:=by
 unfold vg at hx ⊢
 split at hx
 ·split at hx
  ·exact hx
  ·split at hx
   ·rename_i te es hte hr
    simp only [qb h hr,hte];exact hx
   simp at hx
  ·exact hx
  simp at hx
 simp at hx
theorem sU {t:Nat} {s x:AV} {r:R} (hx:kw T t s x bx=some r):r.bx≠none:=by
 unfold kw at hx
 split at hx
 ·split at hx
  ·split at hx
   ·rename_i te hte
    cases hz:eA te with
    |false=>simp [hz] at hx
    |true=>
    simp only [hz,cond_true] at hx
    split at hx
    ·split at hx
     ·simp only [osI] at hx;subst hx;simp
     ·split at hx
      ·simp at hx
      simp only [osI] at hx;subst hx;simp
     ·split at hx
      ·rename_i b _ _ _ _ _ _
       generalize sameBox _ x=q at hx
       cases q with
       |true=>simp at hx
       |false=>simp only [cond_false,osI] at hx;subst hx;simp
      simp at hx
     simp at hx
    simp at hx
   simp at hx
  simp at hx
 simp at hx
theorem DN {ti:TI} {a v:AV} {r:R} (hx:qV ti a v bx=some r):r.bx≠none:=by
 unfold qV at hx
 split at hx
 ·simp at hx
 generalize Nat.beq _ _=q at hx
 cases q with
 |false=>simp at hx
 |true=>
 simp only [cond_true] at hx
 split at hx
 ·split at hx
  ·generalize Nat.ble _ _=q at hx
   cases q with
   |false=>simp at hx
   |true=>simp only [cond_true,osI] at hx;subst hx;simp
  simp at hx
 ·split at hx
  ·split at hx
   ·simp only [osI] at hx;subst hx;simp
   simp at hx
  simp at hx
 simp at hx
theorem DO (h:kE bx aP) {b:Builtin} {args:List AV} {ats:List Nat} {c:Prop} {v:AV} (hx:iz T b args ats bx=some ⟨c,v,none⟩):iz T b args ats aP=some ⟨c,v,none⟩:=by
 unfold iz at hx ⊢
 split at hx
 ·split at hx
  ·split at hx
   ·exact hx
   ·exact hx
   ·split at hx
    ·rename_i v' hl
     simp only [OP h hl];exact hx
    simp at hx
   simp at hx
  simp at hx
 ·exact hx
 ·exact hx
 ·split at hx
  ·split at hx
   ·simp at hx
   exact absurd rfl (sU hx)
  simp at hx
 simp at hx
theorem Ga {te:TI} {n m:Int} {bx:List ay} {c:Prop} {v:AV} {b:Option (List ay)} (h:C1 te n m bx=some ⟨c,v,b⟩):b≠none:=by
 unfold C1 at h
 split at h
 ·cases hz:eA te with
  |false=>simp [hz] at h
  |true=>simp only [hz,cond_true,osI,R.mk.injEq] at h;obtain ⟨_,_,rfl⟩:=h;simp
 simp at h
theorem LZ (h:kE bx aP) {ev:Operand→AV} {op:Op} {c:Prop} {v:AV} (hx:lX T ev op bx=some ⟨c,v,none⟩):lX T ev op aP=some ⟨c,v,none⟩:=by
 unfold lX at hx ⊢
 split at hx
 ·exact hx
 ·exact hx
 ·split at hx
  ·exact absurd rfl (Ga hx)
  simp at hx
 ·split at hx
  ·exact hx
  ·exact hx
  ·split at hx
   ·simp only [Aq] at hx
    split at hx
    ·split at hx
     ·generalize (Nat.beq _ _&&Nat.beq _ _)=q at hx
      cases q<;>simp at hx
     simp at hx
    simp at hx
   simp at hx
  ·split at hx
   ·simp only [BC] at hx
    split at hx
    ·split at hx
     ·rename_i te _ _ _ _ _ _ _ _ _ _ _ _ _ _ _
      cases hq:(Nat.beq _ _&&Nat.beq _ _&&eA _:Bool)<;>rw [hq] at hx<;>simp at hx
     simp at hx
    simp at hx
   simp at hx
  ·split at hx
   ·split at hx
    ·simp only [HT] at hx
     split at hx
     ·generalize (Nat.beq _ _&&Nat.beq _ _&&eA _&&_)=q at hx
      cases q<;>simp at hx
     simp at hx
    simp at hx
   ·generalize sameBox _ _=q at hx
    cases q with
    |true=>
     simp only [cond_true,pV] at hx
     split at hx
     ·generalize (Nat.beq _ _&&Nat.beq _ _)=q at hx
      cases q<;>simp at hx
     simp at hx
    |false=>
     simp only [cond_false] at hx
     split at hx
     ·rename_i hap
      simp only [osI,R.mk.injEq] at hx
      obtain ⟨_,_,rfl⟩:=hx
      exact absurd rfl (sU hap)
     simp at hx
   simp at hx
  simp at hx
 simp at hx
theorem OQ (h:kE bx aP) {ev:Operand→AV} {op:Op} {c:Prop} {v:AV} (hx:kx T ev op bx=some ⟨c,v,none⟩):kx T ev op aP=some ⟨c,v,none⟩:=by
 unfold kx at hx ⊢
 split at hx
 ·exact hx
 ·exact hx
 ·split at hx
  ·split at hx<;>simp at hx
  simp at hx
 ·split at hx<;>simp at hx
 ·split at hx
  ·exact LX h hx
  simp at hx
 ·split at hx
  ·exact absurd rfl (DN hx)
  simp at hx
 ·exact hx
 ·exact xX h hx
 ·exact hx
 ·exact hx
 ·exact hx
 ·exact hx
 ·exact hx
 ·exact hx
 ·exact hx
 ·exact LY h hx
 ·split at hx
  ·exact JA h hx
  simp at hx
 ·exact hx
 ·exact hx
 ·exact hx
 ·exact hx
 ·exact DO h hx
 exact hx
theorem Rx (h:kE bx aP) {ev:Operand→AV} {op:Op} {c:Prop} {v:AV} (hx:CW T ev op bx=some ⟨c,v,none⟩):CW T ev op aP=some ⟨c,v,none⟩:=by
 unfold CW at hx ⊢
 cases hv:iA ev op with
 |true=>rw [hv,cond_true] at hx;rw [cond_true];exact LZ h hx
 |false=>rw [hv,cond_false] at hx;rw [cond_false];exact OQ h hx
theorem kR {ev qc:Operand→AV} {x:Option Operand} (h:∀y,x=some y→ev y=qc y):zR ev x=zR qc x:=by
 cases x with
 |none=>rfl
 |some y=>simp only [zR,h y rfl]
theorem Gb {ev qc:Operand→AV} {op:Op} (h:∀x∈op.operands.toList,ev x=qc x):kx T ev op bx=kx T qc op bx:=by
 have pairs:∀ps:Array (Nat×Operand),(∀x∈(ps.toList.map (·.2)).toArray.toList,ev x=qc x)→(ps.toList.map fun p=>(p.1,ev p.2))=(ps.toList.map fun p=>(p.1,qc p.2)):=by
  intro ps hp
  refine List.map_congr_left fun p hm=>?_
  rw [hp p.2 (by simp only [List.mem_map];exact ⟨p,hm,rfl⟩)]
 cases op<;>simp only [Op.operands] at h
 case build t ps=>simp only [kx,pairs ps h]
 case buildSlice t n ps=>simp only [kx,pairs ps h]
 case makeFunc fn first captured=>
  cases fn<;>simp only [kx]
  rw [List.map_congr_left (l:=captured.toList) (f:=ev) (g:=qc) fun x hx=>h x (by simp;exact .inr (by simpa using hx)),List.map_congr_left (l:=first.toList) (f:=ev) (g:=qc) fun x hx=>h x (by simp;exact .inl (by simpa using hx))]
 case slice t x lo hi mx=>
  simp only [kx,h x (by simp),kR (x:=lo) (fun y hy=>h y (by simp [hy])),kR (x:=hi) (fun y hy=>h y (by simp [hy])),kR (x:=mx) (fun y hy=>h y (by simp [hy]))]
 case call c=>
  obtain ⟨callee,args,ats⟩:=c
  cases callee<;>simp only [kx]
  rw [List.map_congr_left (f:=ev) (g:=qc) fun x hx=>h x (by simp [Call.operands];exact by simpa using hx)]
 all_goals (first|rfl|(simp only [kx];simp_all;done)|(simp_all [kx];done))
theorem vG {ev qc:Operand→AV} {op:Op} (h:∀x∈op.operands.toList,ev x=qc x):iA ev op=iA qc op∧lX T ev op bx=lX T qc op bx:=by
 cases op<;>simp only [Op.operands] at h
 case slice t x lo hi mx=>
  simp only [iA,lX,h x (by simp),kR (x:=lo) (fun y hy=>h y (by simp [hy])),kR (x:=hi) (fun y hy=>h y (by simp [hy])),kR (x:=mx) (fun y hy=>h y (by simp [hy])),and_self]
 case indexAddr t x i=>simp only [iA,lX,h x (by simp),h i (by simp),and_self]
 case makeSlice t x i=>simp only [iA,lX,h x (by simp),h i (by simp),and_self]
 case call c=>
  obtain ⟨callee,args,ats⟩:=c
  cases callee
  case builtin b=>
   have hm:args.toList.map ev=args.toList.map qc:=List.map_congr_left (f:=ev) (g:=qc) fun x hx=>h x (by simp [Call.operands];exact by simpa using hx)
   have hs:∀x∈args.toList,ev x=qc x:=fun x hx=>h x (by simp [Call.operands];exact by simpa using hx)
   refine ⟨?_,by simp only [lX,hm]⟩
   simp only [iA]
   generalize args.toList=l at hs
   split<;>first|rfl|(rw [hs _ (by simp)])
  all_goals exact ⟨rfl,rfl⟩
 all_goals exact ⟨rfl,rfl⟩
theorem JB {ev qc:Operand→AV} {op:Op} (h:∀x∈op.operands.toList,ev x=qc x):CW T ev op bx=CW T qc op bx:=by
 unfold CW
 rw [(vG (T:=T) (bx:=bx) h).1,(vG (T:=T) (bx:=bx) h).2,Gb h]
end
end Dem
end
section
open Go
namespace Dem
section
variable {P:Program} {T:Nat→Option TI} {G:Nat→Option (List D)} {N:Nat} {ds:List Deferred} {β:Nat→Nat} {bx aP:List ay} {w:World} {X:Nat→Prop} {s:St} {a:Act}
def L0 (ev:Operand→AV) (xs:List Operand):Prop:=∀x∈xs,(ev x).ok
theorem lZ.le {FC:Nat→List AV→List ay→iy→List ay→Prop} {f:Nat} {args:List AV} {v:AV} (h:lZ FC f args bx v) (hb:kE bx aP):lZ FC f args aP v:=by
 obtain ⟨args',iY,k1,k2,k3,k4,k5⟩:=h
 refine ⟨args',iY,BW hb k1,k2,k3,?_,k5⟩
 intro i b hi dG
 obtain ⟨b',h1,h2,h3⟩:=k4 i b hi dG
 exact ⟨b',hb i b' h1 h2,h2,h3⟩
theorem Gc {ev qc:Operand→AV} {op:Op} (h:∀x∈op.operands.toList,ev x=qc x):zW T ev op=zW T qc op:=by
 unfold zW
 split
 ·rename_i b args ats
  split
  ·rename_i x y t u ha Rs
   have mx:x∈args.toList:=by rw [ha];simp
   have my:y∈args.toList:=by rw [ha];simp
   rw [h x (by simp [Op.operands,Call.operands];exact by simpa using mx),h y (by simp [Op.operands,Call.operands];exact by simpa using my)]
  rfl
 rfl
inductive YG (FC:Nat→List AV→List ay→iy→List ay→Prop) (T:Nat→Option TI) (g:Bool) (ev:Operand→AV) (bx:List ay):Op→AV→Prop
 |pick (c a b:Operand) (p:Bool) (hc:(ev c).aL=.d (.bool p)) (hg:g=true→(ev c).ok∧(p=true→(ev a).ok)∧(p=false→(ev b).ok)):YG FC T g ev bx (.pick c a b) (w9 p (ev a).aL (ev b).aL)
 |call (f:Operand) (args:Array Operand) (ats:Array TypeId) (i:Nat) (as:List AV) (v:AV) (hf:kU (ev f).aL (args.toList.map fun x=>(ev x).aL)=some (i,as))
  (hg:g=true→((ev f).ok∧L0 ev args.toList)∧lZ FC i as bx v):
  YG FC T g ev bx (.call {callee:=.value f,args:=args,argTypes:=ats}) v
 |inv (f:Operand) (nm:String) (args:Array Operand) (ats:Array TypeId) (i:Nat) (as:List AV) (v:AV) (hf:Ar T (ev f).aL nm (args.toList.map fun x=>(ev x).aL)=some (i,as))
  (hg:g=true→((ev f).ok∧L0 ev args.toList)∧lZ FC i as bx v):
  YG FC T g ev bx (.call {callee:=.invoke f nm,args:=args,argTypes:=ats}) v
 |idx (t:Nat) (x i:Operand) (c:Prop) (ds ds':List D) (hi:xj T t (ev x).aL (ev i).aL=some (c,ds)) (hg:g=true→(L0 ev [x,i]∧c)∧ds=ds'):YG FC T g ev bx (.indexAddr t x i) (.ep ds')
 |no (op:Op) (v:AV) (hg:g=false):YG FC T g ev bx op v
 |app (op:Op) (c:Prop) (es:List (List D)) (hr:zW T (fun x=>(ev x).aL) op=some (c,es)) (hg:g=true→L0 ev op.operands.toList∧c):YG FC T g ev bx op (.d (.sl es))
 |op (op:Op) (c:Prop) (v:AV) (hr:CW T (fun x=>(ev x).aL) op bx=some ⟨c,v,none⟩) (hg:g=true→L0 ev op.operands.toList∧c):YG FC T g ev bx op v
variable {FC:Nat→List AV→List ay→iy→List ay→Prop}
theorem sV {g:Bool} {o:Oper} {K:AV→Prop} (h:stepG FC T G g o s K):∃v,YG FC T g (bU G s.sl) s.bx o.op v∧K v:=by
 rcases h with ⟨hg,v,hK⟩|h|⟨c,es,hr,hg,hK⟩
 ·exact ⟨v,.no _ v hg,hK⟩
 rotate_left
 ·exact ⟨_,.app _ c es hr (fun h=>⟨fun x hx=>dh (hg h).1 x hx,(hg h).2⟩),hK⟩
 unfold uh at h
 split at h
 ·rename_i c x y ho
  split at h
  ·rename_i p hc
   rw [ho]
   exact ⟨_,.pick c x y p hc h.1,h.2⟩
  exact h.elim
 ·rename_i f args ats ho
  split at h
  ·rename_i i as DC
   obtain ⟨v,hg,hK⟩:=h
   rw [ho]
   exact ⟨v,.call f args ats i as v DC (fun hg'=>⟨⟨(hg hg').1.1,fun x hx=>dh (hg hg').1.2 x hx⟩,(hg hg').2⟩),hK⟩
  exact h.elim
 ·rename_i f nm args ats ho
  split at h
  ·rename_i i as DC
   obtain ⟨v,hg,hK⟩:=h
   rw [ho]
   exact ⟨v,.inv f nm args ats i as v DC (fun hg'=>⟨⟨(hg hg').1.1,fun x hx=>dh (hg hg').1.2 x hx⟩,(hg hg').2⟩),hK⟩
  exact h.elim
 split at h
 ·rename_i c ds hi
  obtain ⟨ds',hg,hK⟩:=h
  split at hi
  ·rename_i t x i ho
   rw [ho] at hg ⊢
   exact ⟨_,.idx t x i c ds ds' hi (fun hg'=>⟨⟨fun y hy=>dh (hg hg').1.1 y (by simpa [Op.operands] using hy),(hg hg').1.2⟩,(hg hg').2⟩),hK⟩
  simp at hi
 split at h
 ·rename_i c v hr
  exact ⟨v,.op _ c v hr (fun hg=>⟨fun x hx=>dh (h.1 hg).1 x hx,(h.1 hg).2⟩),h.2⟩
 exact h.elim
theorem YG.z6 {g:Bool} {ev qc:Operand→AV} {op:Op} {v:AV} (h:YG FC T g ev bx op v) (gY:∀x∈op.operands.toList,ev x=qc x) (hb:kE bx aP):YG FC T g qc aP op v:=by
 cases h with
 |pick c x y p hc hg=>
  have e1:=gY c (by simp [Op.operands]);have e2:=gY x (by simp [Op.operands]);have e3:=gY y (by simp [Op.operands])
  rw [e1] at hc hg;rw [e2] at hg ⊢;rw [e3] at hg ⊢
  exact .pick c x y p hc hg
 |call f args ats i as v hf hg=>
  have e1:=gY f (by simp [Op.operands,Call.operands])
  have e2:∀x∈args.toList,ev x=qc x:=fun x hx=>gY x (by simp [Op.operands,Call.operands];exact .inr (by simpa using hx))
  rw [e1,List.map_congr_left (g:=fun x=>(qc x).aL) fun x hx=>by rw [e2 x hx]] at hf
  refine .call f args ats i as v hf (fun hg'=>?_)
  obtain ⟨⟨k1,k2⟩,k3⟩:=hg hg'
  exact ⟨⟨e1▸k1,fun x hx=>e2 x hx▸k2 x hx⟩,k3.le hb⟩
 |inv f nm args ats i as v hf hg=>
  have e1:=gY f (by simp [Op.operands,Call.operands])
  have e2:∀x∈args.toList,ev x=qc x:=fun x hx=>gY x (by simp [Op.operands,Call.operands];exact .inr (by simpa using hx))
  rw [e1,List.map_congr_left (g:=fun x=>(qc x).aL) fun x hx=>by rw [e2 x hx]] at hf
  refine .inv f nm args ats i as v hf (fun hg'=>?_)
  obtain ⟨⟨k1,k2⟩,k3⟩:=hg hg'
  exact ⟨⟨e1▸k1,fun x hx=>e2 x hx▸k2 x hx⟩,k3.le hb⟩
 |idx t x i c ds ds' hi hg=>
  have e1:=gY x (by simp [Op.operands]);have e2:=gY i (by simp [Op.operands])
  rw [e1,e2] at hi
  refine .idx t x i c ds ds' hi (fun hg'=>⟨⟨fun y hy=>?_,(hg hg').1.2⟩,(hg hg').2⟩)
  have:=(hg hg').1.1 y hy
  rw [gY y (by simpa [Op.operands] using hy)] at this
  exact this
 |no _ v hg=>exact .no _ v hg
 |app _ c es hr hg=>
  refine .app _ c es ?_ (fun hg'=>⟨fun x hx=>gY x hx▸(hg hg').1 x hx,(hg hg').2⟩)
  rw [←Gc (ev:=fun x=>(ev x).aL) (qc:=fun x=>(qc x).aL) (fun x hx=>by rw [gY x hx])]
  exact hr
 |op _ c v hr hg=>
  refine .op _ c v ?_ (fun hg'=>⟨fun x hx=>gY x hx▸(hg hg').1 x hx,(hg hg').2⟩)
  rw [←JB (ev:=fun x=>(ev x).aL) (qc:=fun x=>(qc x).aL) (fun x hx=>by rw [gY x hx])]
  exact Rx hb hr
theorem DP (hT:jL P T) (hF:Fr G N ds β w X s a) {o:Oper} {v:AV} {next:Act→World→Prop} {Qc:Exit→Act→World→Prop}
 (h:YG (bA P G) T true (bU G s.sl) s.bx o.op v) (hn:xQ G β s.bx w X a o.dst (fun v' bx=>v'=v∧bx=s.bx) next):o.wp P a w next Qc:=by
 have gY:∀x,(bU G s.sl x).ok→aj β s.bx w (bc β s.bx w X) (bU G s.sl x).aL (a.eval x):=fun x hx=>jB (hF.eval x) hx
 unfold Oper.wp
 generalize ho:o.op=op at h
 cases h with
 |pick c x y p hc hg=>
  obtain ⟨h1,h2,h3⟩:=hg rfl
  have uc:=gY c h1
  rw [hc] at uc;simp only [aj,aF] at uc
  refine cH (v:=_) (aP:=s.bx) (dj.pure (u:=if p then a.eval x else a.eval y) hF.cx ?_ (xS (fun hp=>gY x (h2 hp)) (fun hp=>gY y (h3 hp)))) ⟨rfl,rfl⟩ hn
  simp [execOp,ho,uc,asBool]
 |call f args ats i as v DC hg=>
  obtain ⟨⟨h1,h2⟩,hq⟩:=hg rfl
  obtain ⟨fs,cs,e1,e2⟩:=lA DC (gY f h1) (gM args.toList (fun y hy=>gY y (h2 y hy)))
  rw [jS ho e1]
  refine fW (kC (K:=fun v' bx=>v'=v∧bx=s.bx) hF.cx e2 hq ⟨rfl,rfl⟩) ?_ ?_ ?_
  ·rintro v w' ⟨β',aP,v',u,e,ex,cx,hv,hK⟩
   cases e
   exact hn β' aP w' v' v ex cx hv hK
  ·rintro ch w' ⟨_,_,_,_,e,_⟩;cases e
  rintro w' ⟨_,_,_,_,e,_⟩;cases e
 |inv f nm args ats i as v DC hg=>
  obtain ⟨⟨h1,h2⟩,hq⟩:=hg rfl
  obtain ⟨t,ti,u,k1,k2,k3,e2⟩:=AF hT DC (gY f h1) (gM args.toList (fun y hy=>gY y (h2 y hy)))
  rw [vD hT ho k1 k2 k3]
  refine fW (kC (K:=fun v' bx=>v'=v∧bx=s.bx) hF.cx e2 hq ⟨rfl,rfl⟩) ?_ ?_ ?_
  ·rintro v w' ⟨β',aP,v',u,e,ex,cx,hv,hK⟩
   cases e
   exact hn β' aP w' v' v ex cx hv hK
  ·rintro ch w' ⟨_,_,_,_,e,_⟩;cases e
  rintro w' ⟨_,_,_,_,e,_⟩;cases e
 |idx t x i c ds ds' hi hg=>
  obtain ⟨⟨hk,hc⟩,rfl⟩:=hg rfl
  obtain ⟨r,k1,k2⟩:=xR (P:=P) (w:=w) hT hF.cx hi hc (gY x (hk x (by simp))) (gY i (hk i (by simp)))
  refine cH (v:=_) (aP:=s.bx) (dj.pure hF.cx ?_ k2) ⟨rfl,rfl⟩ hn
  simp only [execOp,ho]
  exact bK _ k1
 |no _ v hg=>cases hg
 |app _ c es hr hg=>
  obtain ⟨h1,hc⟩:=hg rfl
  subst ho
  exact cH (AE (P:=P) hT hF.cx (ρ:=a.eval) (fun x hx=>gY x (h1 x hx)) hr hc) ⟨rfl,rfl⟩ hn
 |op _ c v hr hg=>
  obtain ⟨h1,hc⟩:=hg rfl
  subst ho
  exact cH (xL (P:=P) hT hF.cx (ρ:=a.eval) (fun x hx=>gY x (h1 x hx)) hr hc) ⟨rfl,rfl⟩ hn
theorem DQ {k:Nat} (h:bx[k]?=some .bt) (B:ay) {i:Nat} (hi:bT bx i):i≠k∧bT (bx.set k B) i:=by
 obtain ⟨b,h1,h2⟩:=hi
 have hne:i≠k:=by rintro rfl;rw [h] at h1;simp at h1;subst h1;simp [ay.born] at h2
 exact ⟨hne,b,by rw [List.getElem?_set_ne (Ne.symm hne)];exact h1,h2⟩
theorem oP {k:Nat} (h:bx[k]?=some .bt) (o:Obj) (B:ay):Ext β bx w (ko β k w.heap.size) (bx.set k B) {w with heap:=w.heap.push o}:=by
 refine ⟨rfl,rfl,rfl,by simp,fun j hj _=>iE w o j hj,fun j c e f hj=>⟨c,by rw [iE w o j (eO hj)];exact hj,rfl⟩,?_,?_⟩
 ·intro i hi
  obtain ⟨h1,h2⟩:=DQ h B hi
  exact ⟨cV _ _ h1,h2⟩
 intro i b hb hl
 rcases aH hb with ⟨rfl,_,_⟩|⟨hne,hb'⟩
 ·exact .inl (by rw [bq];exact Nat.le_refl _)
 exact .inr ⟨i,b,hb',hl,(cV _ _ hne).symm⟩
theorem DR (cx:cz G β bx w X) {k:Nat} (h:bx[k]?=some .bt) (o:Obj) (B:ay)
 (hB:c6 (ko β k w.heap.size) (bx.set k B) {w with heap:=w.heap.push o} (bc (ko β k w.heap.size) (bx.set k B) {w with heap:=w.heap.push o} X) B w.heap.size):
 cz G (ko β k w.heap.size) (bx.set k B) {w with heap:=w.heap.push o} X:=by
 refine cx.step (oP h o B) ?_ ?_
 ·intro i b hb
  rcases aH hb with ⟨rfl,rfl,_⟩|⟨hne,hb'⟩
  ·exact .inr (by rw [bq];exact hB)
  exact .inl ⟨hb',fun hl=>iE w o _ ((cx.box i b hb').eY hl)⟩
 intro i j bi bj h1 h2 l1 l2 he
 rcases aH h1 with ⟨rfl,rfl,_⟩|⟨hi,h3⟩<;>rcases aH h2 with ⟨rfl,rfl,_⟩|⟨hj,h4⟩
 ·rfl
 ·rw [bq,cV _ _ hj] at he
  have:=(cx.box j bj h4).eY l2;omega
 ·rw [bq,cV _ _ hi] at he
  have:=(cx.box i bi h3).eY l1;omega
 rw [cV _ _ hi,cV _ _ hj] at he
 exact cx.inj i j bi bj h3 h4 l1 l2 he
theorem vH (cx:cz G β bx w X) {k:Nat} (hk:bx[k]?=some .bt) (t:Nat) {x:AV} {u:Value} {cs:List AV} (hx:x.cells?=some cs) (h:aj β bx w (bc β bx w X) x u):
 ∃β' w',(newVar t u).run P w=.ok ⟨β' k,0,none⟩ w'∧Ext β bx w β' (bx.set k (.var cs)) w'∧cz G β' (bx.set k (.var cs)) w' X:=by
 obtain ⟨vs,h1,h2,h3⟩:=mL hx h
 refine ⟨ko β k w.heap.size,{w with heap:=w.heap.push (.cells ⟨vs⟩ t)},?_,oP hk _ _,DR cx hk _ _ ?_⟩
 ·simp [newVar,newRow,newObj,Sem.run,h1,bq]
 refine ⟨⟨vs⟩,t,iF _ _,?_⟩
 exact ak.mono ((oP (β:=β) (bx:=bx) (w:=w) hk (.cells ⟨vs⟩ t) (.var cs)).eN X) _ _ h2
theorem BX {sl qB:List (Nat×AV)} {o:Oper} (h:∀x∈o.op.operands.toList,bU G sl x=bU G qB x):gL T G sl o=gL T G qB o:=by
 obtain ⟨dst,op,type,pos,after,guard⟩:=o
 unfold gL
 cases guard with
 |some g=>rfl
 |none=>
  cases op<;>simp only []
  rename_i t x
  rw [h x (by simp [Op.operands])]
theorem DS (hT:jL P T) (hF:Fr G N ds β w X s a) {o:Oper} {cs:List AV} (hb:gL T G s.sl o=some cs) {k:Nat} (hk:s.bx[k]?=some .bt) {next:Act→World→Prop} {Qc:Exit→Act→World→Prop}
 (hn:xQ G β s.bx w X a o.dst (fun v bx=>v=.ptr k 0∧bx=s.bx.set k (.var cs)) next):o.wp P a w next Qc:=by
 obtain ⟨dst,op,type,pos,after,guard⟩:=o
 have hlt:k<s.bx.length:=iH hk
 have dG:bT (s.bx.set k (.var cs)) k:=⟨.var cs,iI hk,rfl⟩
 unfold gL at hb
 unfold Oper.wp
 cases guard with
 |some g=>simp at hb
 |none=>
  simp only at hb
  split at hb
  ·rename_i t
   cases ht:T t with
   |none=>simp [ht] at hb
   |some ti=>
   simp only [ht] at hb
   obtain ⟨i,d,h1,h2,h3,h4,h5,h6⟩:=aE (hT.ti _ _ ht)
   cases wL:i.zero with
   |none=>rw [h6,wL] at hb;simp [AV.cells?] at hb
   |some z=>
   rw [h6,wL] at hb
   obtain ⟨β',w',k1,k2,k3⟩:=vH (P:=P) hF.cx hk t hb (sF z)
   have hr:(execOp a.eval {dst:=dst,op:=.alloc t,type:=type,pos:=pos,after:=after,guard:=none}).run P w=.ok (.value (.pointer (some ⟨β' k,0,none⟩))) w':=
    bK _ (by simp [Instr.alloc,fV h1 wL,k1])
   rw [hr]
   exact hn β' _ w' (.ptr k 0) _ k2 k3 (by simp only [aj];exact ⟨trv,dG⟩) ⟨rfl,rfl⟩
  ·rename_i t x
   obtain ⟨β',w',k1,k2,k3⟩:=vH (P:=P) hF.cx hk t hb (hF.eval x)
   have hr:(execOp a.eval {dst:=dst,op:=.box t x,type:=type,pos:=pos,after:=after,guard:=none}).run P w=.ok (.value (.pointer (some ⟨β' k,0,none⟩))) w':=
    bK _ (by simp [Instr.box,k1])
   rw [hr]
   exact hn β' _ w' (.ptr k 0) _ k2 k3 (by simp only [aj];exact ⟨trv,dG⟩) ⟨rfl,rfl⟩
  simp at hb
theorem Gd {β':Nat→Nat} {w':World} {sz n k:Nat} {es:List (List D)} {oA:List ay} {u:Value} (cx:cz G β bx w X) (hk:bx[k]?=some .bt) (ex:Ext β [] w β' [.row sz es] w') (lQ:cz G β' [.row sz es] w' (oL β oA X))
 (hv:(∀r∈es,∀x∈r,x.flat=true)∨oA=bx) (hr:aj β' [.row sz es] w' (bc β' [.row sz es] w' (oL β oA X)) (.ow 0 sz n) u):
 Ext β bx w (ko β k (β' 0)) (bx.set k (.row sz es)) w'∧cz G (ko β k (β' 0)) (bx.set k (.row sz es)) w' X∧
  aj (ko β k (β' 0)) (bx.set k (.row sz es)) w' (bc (ko β k (β' 0)) (bx.set k (.row sz es)) w' X) (.ow k sz n) u:=by
 have e0:=sO (bx:=bx) ex
 have hlk:k<bx.length:=iH hk
 have hnew:ay.live (.row sz es)=true→w.heap.size≤β' 0:=by
  intro hl
  rcases ex.live 0 (.row sz es) rfl hl with h|⟨j,b',h1,_⟩
  ·exact h
  simp at h1
 have e1:Ext β bx w (ko β k (β' 0)) (bx.set k (.row sz es)) w':=by
  refine ⟨e0.os,e0.tape,e0.output,e0.size,e0.block,e0.shape,?_,?_⟩
  ·intro i hi
   obtain ⟨h1,h2⟩:=DQ hk (.row sz es) hi
   exact ⟨cV _ _ h1,h2⟩
  intro i b h hl
  rcases aH h with ⟨rfl,rfl,_⟩|⟨hne,h1⟩
  ·exact .inl (by rw [bq];exact hnew hl)
  exact .inr ⟨i,b,h1,hl,(cV _ _ hne).symm⟩
 have hlt:∀i b,bx[i]?=some b→b.live=true→β i<w.heap.size:=fun i b h hl=>c6.eY (cx.box i b h) hl
 have hok:oA=bx→∀blk,bc β' [.row sz es] w' (oL β oA X) blk→bc (ko β k (β' 0)) (bx.set k (.row sz es)) w' X blk:=by
  rintro rfl blk ⟨k1,k2,k3⟩
  refine ⟨k1,fun hX=>k2 (.inl hX),?_⟩
  intro i b h hl
  rcases aH h with ⟨rfl,rfl,_⟩|⟨hne,h1⟩
  ·rw [bq];exact k3 0 _ rfl hl
  rw [cV _ _ hne];exact fun he=>k2 (.inr ⟨i,b,h1,hl,he⟩)
 refine ⟨e1,cx.step e1 ?_ ?_,?_⟩
 ·intro i b h
  rcases aH h with ⟨rfl,rfl,_⟩|⟨hne,h1⟩
  ·refine .inr ?_
   have:=lQ.box 0 _ rfl
   rw [bq]
   simp only [c6] at this ⊢
   refine this.imp id ?_
   rintro ⟨c,e,h1,h2⟩
   refine ⟨c,e,h1,?_⟩
   rcases hv with hfl|hb
   ·exact nD _ _ hfl h2
   exact ap.mono (fun blk hb'=>⟨hok hb blk hb',rfl⟩) _ _ (fun _=>rfl) _ _ h2
  exact .inl ⟨h1,fun hl=>ex.block _ (hlt i b h1 hl) (by simp)⟩
 ·intro i j bi bj hi hj lR nE he
  rcases aH hi with ⟨rfl,rfl,_⟩|⟨hni,h1⟩<;>rcases aH hj with ⟨rfl,rfl,_⟩|⟨Ye,h2⟩
  ·rfl
  ·rw [bq,cV _ _ Ye] at he
   have:=hlt j bj h2 nE;have:=hnew lR;omega
  ·rw [bq,cV _ _ hni] at he
   have:=hlt i bi h1 lR;have:=hnew nE;omega
  rw [cV _ _ hni,cV _ _ Ye] at he
  exact cx.inj i j bi bj h1 h2 lR nE he
 simp only [aj] at hr ⊢
 obtain ⟨_,h2⟩:=hr
 refine ⟨⟨_,iI hk,rfl⟩,?_⟩
 rw [bq];exact h2
theorem xY (hT:jL P T) (hF:Fr G N ds β w X s a) {o:Oper} {k:Nat} {v0:AV} {B0:ay} (h:kV (bA P G) G o s.sl s.bx k (fun v B=>v=v0∧B=B0)) {next:Act→World→Prop} {Qc:Exit→Act→World→Prop}
 (hn:xQ G β s.bx w X a o.dst (fun v bx=>v=v0∧bx=s.bx.set k B0) next):o.wp P a w next Qc:=by
 obtain ⟨f,args,ats,i,as,args',sz,n,es,ho,DC,⟨h1,h2⟩,h3,h4,h5,h6,hk,rfl,rfl⟩:=h
 have gY:∀x,(bU G s.sl x).ok→aj β s.bx w (bc β s.bx w X) (bU G s.sl x).aL (a.eval x):=fun x hx=>jB (hF.eval x) hx
 obtain ⟨fs,cs,e1,e2⟩:=lA DC (gY f h1) (gM args.toList (fun y hy=>gY y (dh h2 y hy)))
 unfold Oper.wp
 rw [jS ho e1]
 obtain ⟨x1,c1,r1⟩:=kQ as s.bx _ _ hF.cx h3 e2
 have cn:=Dx c1
 have Yf:ak β [] w (bc β [] w (oL β (eV s.bx as) X)) _ _:=kP (fun blk hb=>Dy blk hb) _ _ h4 r1
 refine fW (h5 β w _ _ cn Yf) ?_ ?_ ?_
 ·rintro u w' ⟨β',ex,lQ,hr⟩
  simp only [lm] at hr
  obtain ⟨y1,y2,y3⟩:=Gd hF.cx hk ex lQ (by
   rcases h6 with hfl|Ld
   ·exact .inl hfl
   refine .inr ?_
   rw [jA s.bx Ld]) hr
  exact hn _ _ w' _ u y1 y2 y3 ⟨rfl,rfl⟩
 ·rintro ch w' ⟨_,_,_,hr⟩;exact hr.elim
 rintro w' ⟨_,_,_,hr⟩;exact hr.elim
end
end Dem
end
section
open Go
namespace Dem
structure It where
 dst:Option Nat
 v:AV
 bi:Option (Nat×ay)
def dn (m:Nat→Bool):Nat→List It→List (Nat×AV)→List (Nat×AV)
 |_,[],sl=>sl
 |i,t::r,sl=>dn m (i+1) r (bif m i then ej t.dst t.v sl else sl)
def oQ (t:It) (bx:List ay):List ay:=
 match t.bi with
 |some (k,B)=>bx.set k B
 |none=>bx
def eR (m:Nat→Bool):Nat→List It→List ay→List ay
 |_,[],bx=>bx
 |i,t::r,bx=>eR m (i+1) r (bif m i then oQ t bx else bx)
theorem mQ (t:Nat) (dst:Option Nat) (v:AV) (sl:List (Nat×AV)):fU t (ej dst v sl)=if dst=some t then v else fU t sl:=by
 cases dst with
 |none=>simp [ej]
 |some d=>
  simp only [ej,nF,osI]
  by_cases h:t=d
  ·subst h;simp
  have:d≠t:=fun e=>h e.symm
  simp [h,this]
theorem oR {t:Nat} {m m':Nat→Bool}:∀(cA:List It) (i:Nat) (sl qB:List (Nat×AV)),fU t sl=fU t qB→
 (∀j it,cA[j]?=some it→it.dst=some t→m (i+j)=m' (i+j))→fU t (dn m i cA sl)=fU t (dn m' i cA qB)
 |[],_,_,_,h,_=>h
 |it::r,i,sl,qB,h,hm=>by
  simp only [dn]
  refine oR r (i+1) _ _ ?_ (fun j it' hj hd=>by have:=hm (j+1) it' (by simpa using hj) hd;simpa [Nat.add_assoc,Nat.add_comm 1 j] using this)
  by_cases hd:it.dst=some t
  ·have:=hm 0 it rfl hd
   rw [Nat.add_zero] at this
   rw [this]
   cases m' i<;>simp [mQ,hd,h]
  cases m i<;>cases m' i<;>simp [mQ,hd,h]
theorem xZ {t:Nat} {m:Nat→Bool}:∀(cA:List It) (i:Nat) (sl:List (Nat×AV)),(∀j it,cA[j]?=some it→it.dst=some t→m (i+j)=false)→fU t (dn m i cA sl)=fU t sl
 |[],_,_,_=>rfl
 |it::r,i,sl,hm=>by
  simp only [dn]
  rw [xZ r (i+1) _ (fun j it' hj hd=>by have:=hm (j+1) it' (by simpa using hj) hd;simpa [Nat.add_assoc,Nat.add_comm 1 j] using this)]
  by_cases hd:it.dst=some t
  ·have:=hm 0 it rfl hd
   rw [Nat.add_zero] at this
   simp [this]
  cases m i<;>simp [mQ,hd]
theorem jU {m m':Nat→Bool}:∀(cA:List It) (i:Nat) (sl:List (Nat×AV)),(∀j,j<cA.length→m (i+j)=m' (i+j))→dn m i cA sl=dn m' i cA sl
 |[],_,_,_=>rfl
 |it::r,i,sl,hm=>by
  simp only [dn]
  have h0:=hm 0 (by simp)
  rw [Nat.add_zero] at h0
  rw [h0]
  exact jU r (i+1) _ (fun j hj=>by have:=hm (j+1) (by simpa using hj);simpa [Nat.add_assoc,Nat.add_comm 1 j] using this)
theorem mc {m m':Nat→Bool}:∀(cA:List It) (i:Nat) (bx:List ay),(∀j,j<cA.length→m (i+j)=m' (i+j))→eR m i cA bx=eR m' i cA bx
 |[],_,_,_=>rfl
 |it::r,i,bx,hm=>by
  simp only [eR]
  have h0:=hm 0 (by simp)
  rw [Nat.add_zero] at h0
  rw [h0]
  exact mc r (i+1) _ (fun j hj=>by have:=hm (j+1) (by simpa using hj);simpa [Nat.add_assoc,Nat.add_comm 1 j] using this)
theorem x5:∀(cA:List It) (i j:Nat) (sl:List (Nat×AV)),dn (fun _=>true) i (cA.take j) sl=dn (fun x=>decide (x<i+j)) i cA sl
 |[],i,j,sl=>by simp [dn]
 |it::r,i,0,sl=>by
  simp only [List.take_zero,dn,Nat.add_zero,Nat.lt_irrefl,decide_false,cond_false]
  have:∀(r:List It) (k:Nat),i≤k→dn (fun x=>decide (x<i)) k r sl=sl:=by
   intro r
   induction r with
   |nil=>intro k _;rfl
   |cons t r ih=>
    intro k hk
    simp only [dn,show ¬k<i by omega,decide_false,cond_false]
    exact ih (k+1) (by omega)
  exact (this r (i+1) (by omega)).symm
 |it::r,i,j+1,sl=>by
  simp only [List.take_succ_cons,dn,cond_true,show i<i+(j+1) by omega,decide_true]
  rw [x5 r (i+1) j]
  exact jU r (i+1) _ (fun k _=>by simp only [show i+1+j=i+(j+1) by omega])
theorem x6 {t:Nat} {m m':Nat→Bool}:∀(cA:List It) (i j0:Nat) (Il:It) (sl:List (Nat×AV)),cA[j0]?=some Il→m (i+j0)=false→m' (i+j0)=true→(∀x,x≠i+j0→m' x=m x)→
 (∀j it,cA[j]?=some it→j0<j→m (i+j)=true→∀d,Il.dst=some d→it.dst≠some d)→fU t (dn m' i cA sl)=fU t (ej Il.dst Il.v (dn m i cA sl))
 |[],_,_,_,_,h,_,_,_,_=>by simp at h
 |it::r,i,0,Il,sl,h,h1,h2,h3,h4=>by
  simp at h;subst h
  simp only [Nat.add_zero] at h1 h2
  simp only [dn,h1,h2,cond_true,cond_false]
  rw [jU (m:=m') (m':=m) r (i+1) _ (fun j _=>h3 _ (by omega)),mQ]
  by_cases hd:it.dst=some t
  ·rw [if_pos hd,xZ r (i+1) _ (fun j it' hj Rw=>?_),mQ,if_pos hd]
   cases hq:m (i+1+j) with
   |false=>rfl
   |true=>exact absurd Rw (h4 (j+1) it' (by simpa using hj) (by omega) (by rw [show i+(j+1)=i+1+j by omega];exact hq) t hd)
  rw [if_neg hd]
  exact oR r (i+1) _ _ (by rw [mQ,if_neg hd]) (fun _ _ _ _=>rfl)
 |it::r,i,j0+1,Il,sl,h,h1,h2,h3,h4=>by
  simp only [dn]
  rw [h3 i (by omega)]
  exact x6 r (i+1) j0 Il _ (by simpa using h) (by rw [show i+1+j0=i+(j0+1) by omega];exact h1) (by rw [show i+1+j0=i+(j0+1) by omega];exact h2)
   (fun x hx=>h3 x (by omega)) (fun j it' hj hlt hm=>h4 (j+1) it' (by simpa using hj) (by omega) (by rw [show i+(j+1)=i+1+j by omega];exact hm))
def jV:Nat→List It→Prop
 |_,[]=>True
 |k,t::r=>match t.bi with
  |some (x,_)=>x=k∧jV (k+1) r
  |none=>jV k r
theorem jV.ge:∀{cA:List It} {k:Nat},jV k cA→∀{j:Nat} {it:It} {x:Nat} {cs:ay},cA[j]?=some it→it.bi=some (x,cs)→k≤x
 |[],_,_,_,_,_,_,h,_=>by simp at h
 |t::r,k,hk,0,it,x,cs,h,hb=>by
  simp at h;subst h
  simp only [jV,hb] at hk
  omega
 |t::r,k,hk,j+1,it,x,cs,h,hb=>by
  simp only [jV] at hk
  split at hk
  ·have:=hk.2.ge (j:=j) (by simpa using h) hb;omega
  exact jV.ge hk (j:=j) (by simpa using h) hb
theorem jV.apart:∀{cA:List It} {k:Nat},jV k cA→∀{j j':Nat} {it it':It} {x x':Nat} {cs cs':ay},cA[j]?=some it→it.bi=some (x,cs)→cA[j']?=some it'→it'.bi=some (x',cs')→j≠j'→x≠x'
 |[],_,_,_,_,_,_,_,_,_,_,h,_,_,_,_=>by simp at h
 |t::r,k,hk,0,0,_,_,_,_,_,_,_,_,_,_,hne=>absurd rfl hne
 |t::r,k,hk,0,j'+1,it,it',x,x',cs,cs',h,hb,h',hb',_=>by
  simp at h;subst h
  simp only [jV,hb] at hk
  have:=hk.2.ge (j:=j') (by simpa using h') hb';omega
 |t::r,k,hk,j+1,0,it,it',x,x',cs,cs',h,hb,h',hb',_=>by
  simp at h';subst h'
  simp only [jV,hb'] at hk
  have:=hk.2.ge (j:=j) (by simpa using h) hb;omega
 |t::r,k,hk,j+1,j'+1,it,it',x,x',cs,cs',h,hb,h',hb',hne=>by
  have hk':∃k',jV k' r:=by
   simp only [jV] at hk
   split at hk
   ·exact ⟨_,hk.2⟩
   exact ⟨_,hk⟩
  obtain ⟨k',hk'⟩:=hk'
  exact jV.apart hk' (j:=j) (j':=j') (by simpa using h) hb (by simpa using h') hb' (by omega)
theorem AL {m:Nat→Bool} {x:Nat}:∀(cA:List It) (i:Nat) (bx:List ay),(∀j it y cs,cA[j]?=some it→m (i+j)=true→it.bi=some (y,cs)→y≠x)→(eR m i cA bx)[x]?=bx[x]?
 |[],_,_,_=>rfl
 |t::r,i,bx,h=>by
  simp only [eR]
  rw [AL r (i+1) _ (fun j it y cs hj hm hb=>h (j+1) it y cs (by simpa using hj) (by rw [show i+(j+1)=i+1+j by omega];exact hm) hb)]
  cases hm:m i with
  |false=>rfl
  |true=>
   simp only [cond_true,oQ]
   split
   ·rename_i k cs hb
    have:=h 0 t k cs rfl (by simpa using hm) hb
    rw [List.getElem?_set_ne this]
   rfl
theorem AM {m:Nat→Bool} {x:Nat} {B:ay}:∀(cA:List It) (i:Nat) (bx:List ay),(∀j it y cs,cA[j]?=some it→m (i+j)=true→it.bi=some (y,cs)→y≠x)→eR m i cA (bx.set x B)=(eR m i cA bx).set x B
 |[],_,_,_=>rfl
 |t::r,i,bx,h=>by
  simp only [eR]
  rw [←AM r (i+1) _ (fun j it y cs hj hm hb=>h (j+1) it y cs (by simpa using hj) (by rw [show i+(j+1)=i+1+j by omega];exact hm) hb)]
  congr 1
  cases hm:m i with
  |false=>rfl
  |true=>
   simp only [cond_true,oQ]
   split
   ·rename_i k cs hb
    have:=h 0 t k cs rfl (by simpa using hm) hb
    rw [List.set_comm _ _ (Ne.symm this)]
   rfl
theorem x7 {m m':Nat→Bool}:∀(cA:List It) (i j0:Nat) (Il:It) (bx:List ay),cA[j0]?=some Il→m (i+j0)=false→m' (i+j0)=true→(∀x,x≠i+j0→m' x=m x)→
 (∀j it y cs x cs0,cA[j]?=some it→j≠j0→it.bi=some (y,cs)→Il.bi=some (x,cs0)→y≠x)→eR m' i cA bx=oQ Il (eR m i cA bx)
 |[],_,_,_,_,h,_,_,_,_=>by simp at h
 |t::r,i,0,Il,bx,h,h1,h2,h3,h4=>by
  simp at h;subst h
  simp only [Nat.add_zero] at h1 h2
  simp only [eR,h1,h2,cond_true,cond_false]
  rw [mc (m:=m') (m':=m) r (i+1) _ (fun j _=>h3 _ (by omega))]
  unfold oQ
  split
  ·rename_i k cs hb
   exact AM r (i+1) bx (fun j it y cs' hj _ hb'=>h4 (j+1) it y cs' k cs (by simpa using hj) (by omega) hb' hb)
  rfl
 |t::r,i,j0+1,Il,bx,h,h1,h2,h3,h4=>by
  simp only [eR]
  rw [h3 i (by omega)]
  exact x7 r (i+1) j0 Il _ (by simpa using h) (by rw [show i+1+j0=i+(j0+1) by omega];exact h1) (by rw [show i+1+j0=i+(j0+1) by omega];exact h2)
   (fun x hx=>h3 x (by omega)) (fun j it y cs x cs0 hj hne=>h4 (j+1) it y cs x cs0 (by simpa using hj) (by omega))
theorem DT {m:Nat→Bool} {aI:List ay}:∀(cA:List It) (i:Nat) (bx:List ay),kE aI bx→(∀(j:Nat) (it:It) (y:Nat) (cs:ay),cA[j]?=some it→it.bi=some (y,cs)→aI[y]?=some .bt)→kE aI (eR m i cA bx)
 |[],_,_,h,_=>h
 |t::r,i,bx,h,hu=>by
  simp only [eR]
  refine DT r (i+1) _ ?_ (fun j it y cs hj=>hu (j+1) it y cs (by simpa using hj))
  cases m i with
  |false=>exact h
  |true=>
   simp only [cond_true,oQ]
   split
   ·rename_i k cs hb
    have h0:=hu 0 t k cs rfl hb
    intro x b hx dG
    by_cases Yg:k=x
    ·subst Yg;rw [h0] at hx;simp at hx;subst hx;simp [ay.born] at dG
    rw [List.getElem?_set_ne Yg];exact h x b hx dG
   exact h
end Dem
end
section
open Go
namespace Dem
theorem sW:∀(l:List Oper) (acc:List Nat),(cD l acc).take acc.length=acc
 |[],acc=>by simp [cD]
 |o::r,acc=>by
  have h:=sW r (acc++[pW acc o])
  simp only [cD]
  have:=congrArg (List.take acc.length) h
  simpa [List.take_take] using this
theorem vI:∀(l:List Oper) (acc:List Nat) (j:Nat) (o:Oper),l[j]?=some o→(cD l acc)[acc.length+j]?=some (pW ((cD l acc).take (acc.length+j)) o)
 |[],_,_,_,h=>by simp at h
 |p::r,acc,0,o,h=>by
  simp at h;subst h
  simp only [cD,Nat.add_zero]
  have h1:=sW r (acc++[pW acc p])
  have h2:=congrArg (List.take acc.length) h1
  have h3:=congrArg (fun l=>l[acc.length]?) h1
  simp only [List.take_take,List.length_append,List.length_cons,List.length_nil,Nat.zero_add] at h2 h3
  rw [Nat.min_eq_left (by omega)] at h2
  rw [List.getElem?_take,if_pos (by omega)] at h3
  rw [h3,h2]
  simp
 |p::r,acc,j+1,o,h=>by
  have:=vI r (acc++[pW acc p]) j o (by simpa using h)
  simp only [List.length_append,List.length_cons,List.length_nil,Nat.zero_add] at this
  simp only [cD]
  rw [show acc.length+(j+1)=acc.length+1+j by omega]
  exact this
theorem vJ {acc:List Nat} {i:Nat}:∀(es:List Edge) (s:Nat),(es.foldl (fun s e=>bif Region.binds .any e then s ||| 2^e.on ||| acc.getD e.on 0 else s) s).testBit i=true→
 s.testBit i=true∨∃e∈es,Region.binds .any e=true∧(e.on=i∨(acc.getD e.on 0).testBit i=true)
 |[],s,h=>.inl h
 |e::es,s,h=>by
  rw [List.foldl_cons] at h
  rcases vJ es _ h with h1|⟨e',h1,h2⟩
  ·cases hb:Region.binds .any e with
   |false=>rw [hb] at h1;exact .inl h1
   |true=>
    rw [hb] at h1
    simp only [cond_true,Nat.testBit_or,Bool.or_eq_true] at h1
    rcases h1 with (h1|h1)|h1
    ·exact .inl h1
    ·refine .inr ⟨e,by simp,hb,.inl ?_⟩
     rw [Nat.testBit_two_pow] at h1
     simpa using h1
    exact .inr ⟨e,by simp,hb,.inr h1⟩
  exact .inr ⟨e',by simp [h1],h2⟩
section
variable {ops:Array Oper}
def Down (ops:Array Oper) (m:Nat→Bool):Prop:=∀x o,ops[x]?=some o→m x=true→∀e∈o.after,Region.binds .any e=true→m e.on=true
theorem closed {m:Nat→Bool} (hd:Down ops m):∀(j:Nat) (o:Oper),ops[j]?=some o→(∀e∈o.after,Region.binds .any e=true→m e.on=true)→∀i,((cD ops.toList []).getD j 0).testBit i=true→m i=true:=by
 intro j
 induction j using Nat.strongRecOn with
 |_ j ih=>
  intro o ho hp i hi
  have uw:=vI ops.toList [] j o (by simpa using ho)
  simp only [List.length_nil,Nat.zero_add] at uw
  rw [List.getD_eq_getElem?_getD,uw] at hi
  simp only [Option.getD_some,pW] at hi
  rcases vJ _ _ hi with h|⟨e,he,hb,h|h⟩
  ·simp at h
  ·subst h;exact hp e (by simpa using he) hb
  have hlt:e.on<j:=by
   rcases Nat.lt_or_ge e.on j with h'|h'
   ·exact h'
   rw [List.getD_eq_getElem?_getD,List.getElem?_take,if_neg (by omega)] at h
   simp at h
  have hh:((cD ops.toList []).getD e.on 0).testBit i=true:=by
   rw [List.getD_eq_getElem?_getD,List.getElem?_take,if_pos hlt] at h
   rw [List.getD_eq_getElem?_getD];exact h
  have hj:j<ops.size:=(Array.getElem?_eq_some_iff.1 ho).1
  have ho':ops[e.on]?=some ops[e.on]:=by simp [show e.on<ops.size by omega]
  exact ih e.on hlt _ ho' (hd _ _ ho' (hp e (by simpa using he) hb)) i hh
theorem oS {m:Nat} {o:Oper}:∀{n:Nat},gr.pX ops m o n=true→∀j,j<n→m.testBit j=true∨∃p,ops[j]?=some p∧p.apart ops o=true
 |0,_,j,hj=>by omega
 |n+1,h,j,hj=>by
  simp only [gr.pX,Bool.and_eq_true,Bool.or_eq_true] at h
  by_cases hjn:j=n
  ·subst hjn
   refine h.1.imp id (fun h1=>?_)
   split at h1
   ·rename_i p hp;exact ⟨p,hp,h1⟩
   simp at h1
  exact oS h.2 j (by omega)
theorem kF {b:List Nat}:∀{l:List Oper} {i:Nat},gr ops b i l=true→∀j o,l[j]?=some o→
 (∀e∈o.after,Region.binds .any e=true→e.on<i+j)∧∀k,k<i+j→(b.getD (i+j) 0).testBit k=true∨∃p,ops[k]?=some p∧p.apart ops o=true
 |[],_,_,j,o,ho=>by simp at ho
 |q::r,i,h,0,o,ho=>by
  simp at ho;subst ho
  simp only [gr,Bool.and_eq_true] at h
  refine ⟨fun e he hb=>?_,fun k hk=>oS h.1.2 k hk⟩
  have:=List.all_eq_true.1 h.1.1 e (by simpa using he)
  simpa [hb,Nat.blt_eq] using this
 |q::r,i,h,j+1,o,ho=>by
  simp only [gr,Bool.and_eq_true] at h
  have:=kF h.2 j o (by simpa using ho)
  rw [show i+(j+1)=i+1+j by omega]
  exact this
theorem BY {b:List Nat} {q:Nat} (h:barrier b q=true):(∀i,i<q→(b.getD q 0).testBit i=true)∧∀i,q<i→i<b.length→(b.getD i 0).testBit q=true:=by
 simp only [barrier,Bool.and_eq_true] at h
 obtain ⟨h1,h2⟩:=h
 refine ⟨fun i hi=>?_,fun i hi hl=>?_⟩
 ·rw [Nat.eq_of_beq_eq_true h1]
  simpa using hi
 refine List.all_eq_true.1 h2 _ ?_
 rw [List.getD_eq_getElem?_getD,List.getElem?_eq_getElem hl,Option.getD_some]
 rw [List.mem_iff_getElem?]
 refine ⟨i-(q+1),?_⟩
 rw [List.getElem?_drop,show q+1+(i-(q+1))=i by omega,List.getElem?_eq_getElem hl]
theorem oT:∀(l:List Oper) (acc:List Nat),(cD l acc).length=acc.length+l.length
 |[],acc=>by simp [cD]
 |o::r,acc=>by simp only [cD];rw [oT r];simp;omega
end
end Dem
end
