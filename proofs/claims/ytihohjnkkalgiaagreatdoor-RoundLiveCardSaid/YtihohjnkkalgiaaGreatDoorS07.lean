/- Parts of a proof, joined. -/
import Derived.Test.YtihohjnkkalgiaaGreatDoorS06
import Derived.ChangeSame
import Derived.ChangeArms
import Derived.OpenShut
import Derived.WideShapes
import Derived.Deep.Slices
import Derived.Orders
set_option linter.all false
set_option maxRecDepth 100000
set_option maxHeartbeats 4000000
section
open Go Go.Deep
namespace Dem
inductive PT where
 |bool
 |int (k:IntKind)
 |str
 |sl (es:List PT)
def OM (r:TypeId→Option (List PT)) (sz:TypeId→Nat):List Field→Nat→Option (List PT)
 |[],_=>some []
 |f::fs,off=>if f.offset=off then match r f.type,OM r sz fs (off+sz f.type) with
  |some a,some b=>if a.length=sz f.type then some (a++b) else none
  |_,_=>none else none
def F4 (P:Program):Nat→TypeId→Option (List PT)
 |0,_=>none
 |n+1,t=>match P.underlying t with
  |some .bool=>some [.bool]
  |some (.int k)=>some [.int k]
  |some .string=>some [.str]
  |some (.slice e)=>match F4 P n e with
   |some ps=>if ps.length=P.cellsOf e∧0<ps.length then some [.sl ps] else none
   |none=>none
  |some (.struct fs)=>match OM (F4 P n) P.cellsOf fs.toList 0 with
   |some ps=>if ps.length=P.cellsOf t then some ps else none
   |none=>none
  |some (.array k e)=>match F4 P n e with
   |some ps=>if ps.length=P.cellsOf e∧k*ps.length=P.cellsOf t then some (List.replicate k ps).flatten else none
   |none=>none
  |_=>none
mutual
def xI:PT→D→Prop
 |.bool,d=>∃b,d=.bool b
 |.int k,d=>∃n,d=.int k n∧(Lit.int k n).wf=true
 |.str,d=>∃s:List UInt8,d=.str s∧s.length≤maxLen
 |.sl ps,d=>∃es:List (List D),d=.sl es∧es.length≤maxLen∧∀r∈es,dn ps r
def dn:List PT→List D→Prop
 |[],ds=>ds=[]
 |p::ps,ds=>∃d r,ds=d::r∧xI p d∧dn ps r
end
theorem dn.length:∀{ps:List PT} {ds:List D},dn ps ds→ds.length=ps.length
 |[],ds,h=>by simp only [dn] at h;subst h;rfl
 |p::ps,ds,h=>by
  simp only [dn] at h
  obtain ⟨d,r,rfl,_,h2⟩:=h
  simp [dn.length h2]
theorem dn.append:∀{ps qs:List PT} {ds es:List D},dn ps ds→dn qs es→dn (ps++qs) (ds++es)
 |[],qs,ds,es,h,g=>by simp only [dn] at h;subst h;exact g
 |p::ps,qs,ds,es,h,g=>by
  simp only [dn] at h
  obtain ⟨d,r,rfl,h1,h2⟩:=h
  simp only [List.cons_append,dn]
  exact ⟨d,r++es,rfl,h1,h2.append g⟩
theorem cN.append {w:World} {ok:Nat→Prop}:∀{ds es:List D} {vs us:List Value},cN w ok ds vs→cN w ok es us→cN w ok (ds++es) (vs++us)
 |[],es,vs,us,h,g=>by simp only [cN] at h;subst h;exact g
 |d::ds,es,vs,us,h,g=>by
  simp only [cN] at h
  obtain ⟨v,r,rfl,h1,h2⟩:=h
  simp only [List.cons_append,cN]
  exact ⟨v,r++us,rfl,h1,h2.append g⟩
theorem cN.row {w:World} {ok:Nat→Prop} {blk:Nat}:∀{ds:List D} {vs:List Value} {off:Nat},cN w ok ds vs→(∀i,i<vs.length→w.cell? ⟨blk,off+i,none⟩=vs[i]?)→aY w ok blk ds off
 |[],_,_,_,_=>by simp [aY]
 |d::ds,vs,off,h,hc=>by
  simp only [cN] at h
  obtain ⟨v,r,rfl,h1,h2⟩:=h
  simp only [aY]
  refine ⟨⟨v,by simpa using hc 0 (by simp),h1⟩,h2.row fun i hi=>?_⟩
  have:=hc (i+1) (by simp;omega)
  simpa [Nat.add_assoc,Nat.add_comm 1 i] using this
mutual
def gi {H:Type}:DataW H→List D
 |.lit (.bool b)=>[.bool b]
 |.lit (.int k n)=>[.int k n]
 |.lit (.string s)=>[.str s]
 |.nil=>[.sl []]
 |.slice elems _=>[.sl (uJ elems)]
 |.agg parts=>iB parts
 |_=>[]
def uJ {H:Type}:List (DataW H)→List (List D)
 |[]=>[]
 |d::r=>gi d::uJ r
def iB {H:Type}:List (DataW H)→List D
 |[]=>[]
 |d::r=>gi d++iB r
end
theorem uK {H:Type}:∀l:List (DataW H),uJ l=l.map gi
 |[]=>rfl
 |d::r=>by simp [uJ,uK r]
theorem CH {w:World} {ok:Nat→Prop} {blk sz:Nat}:∀(n off:Nat) (f:Nat→List D),(∀i,i<n→aY w ok blk (f i) (off+i*sz)∧(f i).length=sz)→ay w ok blk sz ((List.range n).map f) off
 |0,off,_,_=>by simp [ay]
 |n+1,off,f,h=>by
  obtain ⟨h1,h2⟩:=h 0 (by omega)
  rw [List.range_succ_eq_map,List.map_cons,List.map_map]
  simp only [ay]
  refine ⟨h2,by simpa using h1,CH n (off+sz) _ fun i hi=>?_⟩
  obtain ⟨k1,k2⟩:=h (i+1) (by omega)
  rw [show off+sz+i*sz=off+(i+1)*sz by rw [Nat.succ_mul];omega]
  exact ⟨k1,k2⟩
theorem Mt {w:World} {a:Addr} {v:Value} (h:w.cell? a=some v):a.spot=none:=by
 unfold World.cell? at h
 split at h
 ·split at h
  ·cases h
  rename_i hs;simpa using hs
 cases h
theorem add_eq {a:Addr} (h:a.spot=none) (n:Nat):a.add n=⟨a.block,a.off+n,none⟩:=by
 unfold Addr.add
 split
 ·rename_i h0;subst h0;cases a;simp_all
 rfl
theorem z6 {α:Type} (cs:List α) (off a b:Nat):(cs.drop off).take (a+b)=(cs.drop off).take a++(cs.drop (off+a)).take b:=by
 rw [List.take_add,List.drop_drop]
section
variable {H:Type} {enc:TypeId×Value→H} {P:Program} {w:World} {spare:Nat→Bool} {held:Bool} {ok:Nat→Prop}
theorem z7 {r:TypeId→Option (List PT)} {n:Nat} {cs:List Value} (hr:∀t cs x ps,DataW.trod enc P w 0 spare held n t cs=some x→r t=some ps→cN w ok (gi x.1) cs∧dn ps (gi x.1)):
 ∀(fs:List Field) (xs:List (DataW H×List MemPlace)) (off:Nat) (ps:List PT),OM r P.cellsOf fs off=some ps→xs.length=fs.length→
  (∀(i:Nat) (f:Field),fs[i]?=some f→DataW.trod enc P w 0 spare held n f.type ((cs.drop f.offset).take (P.cellsOf f.type))=xs[i]?)→
  cN w ok (iB (xs.map (·.1))) ((cs.drop off).take ps.length)∧dn ps (iB (xs.map (·.1)))
 |[],xs,off,ps,h,hl,_=>by
  simp only [OM,osI] at h;subst h
  obtain rfl:xs=[]:=by simpa using hl
  exact ⟨by simp [cN,iB],by simp [dn,iB]⟩
 |f::fs,[],off,ps,h,hl,hx=>by simp at hl
 |f::fs,x::xs,off,ps,h,hl,hx=>by
  simp only [OM] at h
  split at h
  ·rename_i ho
   split at h
   ·rename_i a b ha hb
    split at h
    ·rename_i hla
     simp only [osI] at h;subst h
     have hx0:=hx 0 f rfl
     obtain ⟨g1,g2⟩:=hr _ _ _ _ (by simpa using hx0) ha
     obtain ⟨k1,k2⟩:=z7 hr fs xs _ b hb (by simpa using hl) (fun i f hf=>by simpa using hx (i+1) f (by simpa using hf))
     rw [List.length_append,z6]
     rw [ho,←hla] at g1
     rw [←hla] at k1
     simp only [List.map_cons,iB]
     exact ⟨g1.append k1,g2.append k2⟩
    cases h
   cases h
  cases h
theorem CI {r:List PT} {cs:List Value}:∀(k off:Nat) (xs:List (DataW H×List MemPlace)),xs.length=k→(∀i x,xs[i]?=some x→cN w ok (gi x.1) ((cs.drop (off+i*r.length)).take r.length)∧dn r (gi x.1))→
 cN w ok (iB (xs.map (·.1))) ((cs.drop off).take (k*r.length))∧dn (List.replicate k r).flatten (iB (xs.map (·.1)))
 |0,off,xs,hl,_=>by
  obtain rfl:xs=[]:=by simpa using hl
  exact ⟨by simp [cN,iB],by simp [dn,iB]⟩
 |k+1,off,[],hl,h=>by simp at hl
 |k+1,off,x::xs,hl,h=>by
  obtain ⟨g1,g2⟩:=h 0 x rfl
  obtain ⟨k1,k2⟩:=CI (r:=r) (cs:=cs) k (off+r.length) xs (by simpa using hl) (fun i x hx=>by
   obtain ⟨k1,k2⟩:=h (i+1) x (by simpa using hx)
   rw [show off+r.length+i*r.length=off+(i+1)*r.length by rw [Nat.succ_mul];omega]
   exact ⟨k1,k2⟩)
  rw [show (k+1)*r.length=r.length+k*r.length by rw [Nat.succ_mul];omega,z6,List.replicate_succ,List.flatten_cons]
  simp only [List.map_cons,iB]
  exact ⟨cN.append (by simpa using g1) k1,g2.append k2⟩
theorem uL (hok:∀blk,blk<w.heap.size→ok blk):
 ∀(n m:Nat) (t:TypeId) (cs:List Value) (x:DataW H×List MemPlace) (ps:List PT),DataW.trod enc P w 0 spare held m t cs=some x→F4 P n t=some ps→cN w ok (gi x.1) cs∧dn ps (gi x.1)
 |0,_,_,_,_,_,_,h=>by simp [F4] at h
 |n+1,m,t,cs,x,ps,h,hp=>by
  have ih:=uL hok n
  rw [F4] at hp
  cases hu:P.underlying t with
  |none=>simp [hu] at hp
  |some d=>
   simp only [hu] at hp
   cases d<;>(try (cases hp;done))<;>simp only at hp
   case bool=>
    simp only [osI] at hp;subst hp
    obtain ⟨b,rfl,rfl⟩:=DataW.trod_bool hu h
    exact ⟨by simp [cN,aL,gi],by simp [dn,xI,gi]⟩
   case int k=>
    simp only [osI] at hp;subst hp
    obtain ⟨z,rfl,rfl,hw⟩:=DataW.trod_int hu h
    exact ⟨by simp [cN,aL,gi],by simpa [dn,xI,gi] using hw⟩
   case string=>
    simp only [osI] at hp;subst hp
    obtain ⟨s,rfl,rfl,hs⟩:=DataW.trod_string hu h
    refine ⟨by simp [cN,aL,gi],?_⟩
    simp only [dn,xI,gi]
    exact ⟨_,_,rfl,⟨_,rfl,by rw [Array.length_toList];exact hs⟩,rfl⟩
   case slice e=>
    split at hp
    ·rename_i qs hq
     split at hp
     ·rename_i hl
      simp only [osI] at hp;subst hp
      rcases open_slice hu h with ⟨rfl,rfl⟩|⟨a,len,cap,mm,n',Dd,Pl,rfl,hb,hlc,hm,Zo,rfl,hx⟩
      ·exact ⟨by simp [cN,aL,gi],by simp [dn,xI,gi]⟩
      have hlen:len≤mm:=by rw [Zo];split<;>omega
      have hel:∀i,i<len→∃cs',w.cells? 0 (a.add (i*P.cellsOf e)) (P.cellsOf e)=some cs'∧cN w ok (gi (Dd i)) cs'∧dn qs (gi (Dd i)):=by
       intro i hi
       obtain ⟨cs',hc,htr⟩:=hx i (by omega)
       exact ⟨cs',hc,ih _ _ _ _ _ htr hq⟩
      have hfl:gi (.slice ((List.range len).map Dd) ((List.range (mm-len)).map fun j=>Dd (len+j)))=[.sl ((List.range len).map fun i=>gi (Dd i))]:=by
       simp [gi,uK,List.map_map,Function.comp_def]
      simp only [hfl]
      have Zn:dn [.sl qs] [.sl ((List.range len).map fun i=>gi (Dd i))]:=by
       simp only [dn,xI]
       refine ⟨_,_,rfl,⟨_,rfl,by simp;omega,?_⟩,rfl⟩
       intro r hr
       obtain ⟨i,hi,rfl⟩:=List.mem_map.1 hr
       obtain ⟨cs',_,_,g⟩:=hel i (by simpa using hi)
       exact g
      refine ⟨?_,Zn⟩
      cases len with
      |zero=>simp [cN,aL]
      |succ len=>
       have hsp:a.spot=none:=by
        obtain ⟨cs',hc,htr⟩:=hel 0 (by omega)
        obtain ⟨_,hl',hcell⟩:=World.cells?_some hc
        have h0:=hcell 0 (by omega)
        rw [List.getElem?_eq_getElem (by omega)] at h0
        have:=Mt h0
        simpa [Addr.add] using this
       have Zp:a.block<w.heap.size:=by
        obtain ⟨cs',hc,htr⟩:=hel 0 (by omega)
        have:=World.cells?_block hc (by omega)
        simpa [Addr.add] using this
       have g:=CH (w:=w) (ok:=ok) (blk:=a.block) (sz:=P.cellsOf e) (len+1) a.off (fun i=>gi (Dd i)) (fun i hi=>by
        obtain ⟨cs',hc,g1,g2⟩:=hel i hi
        obtain ⟨_,hl',hcell⟩:=World.cells?_some hc
        refine ⟨g1.row (fun j hj=>?_),by rw [g2.length];exact hl.1⟩
        have:=hcell j (by omega)
        rw [add_eq hsp,add_eq rfl] at this
        exact this)
       simp only [cN,aL]
       exact ⟨_,_,rfl,⟨some a,cap,by simp,by simp;omega,.inr ⟨a.block,a.off,P.cellsOf e,by cases a;simp_all,hok _ Zp,g⟩⟩,rfl⟩
     cases hp
    cases hp
   case struct fs=>
    split at hp
    ·rename_i qs hq
     split at hp
     ·rename_i hl
      simp only [osI] at hp;subst hp
      obtain ⟨xs,m',hm,rfl,RL,hxl,hxs⟩:=DataW.trod_struct hu h
      have hf:∀(i:Nat) (f:Field),fs.toList[i]?=some f→DataW.trod enc P w 0 spare held m' f.type ((cs.drop f.offset).take (P.cellsOf f.type))=xs[i]?:=by
       intro i f hf
       exact hxs i f (by simpa using hf)
      obtain ⟨g1,g2⟩:=z7 (ok:=ok) (fun t cs x ps=>ih m' t cs x ps) fs.toList xs 0 _ hq (by simpa using hxl) hf
      simp only [gi]
      refine ⟨?_,g2⟩
      have e:(cs.drop 0).take qs.length=cs:=by rw [List.drop_zero,hl,←RL,List.take_length]
      rwa [e] at g1
     cases hp
    cases hp
   case array k e=>
    split at hp
    ·rename_i qs hq
     split at hp
     ·rename_i hl
      simp only [osI] at hp;subst hp
      obtain ⟨xs,m',hm,rfl,RL,hxl,hxs⟩:=DataW.trod_array hu h
      obtain ⟨g1,g2⟩:=CI (w:=w) (ok:=ok) (r:=qs) (cs:=cs) k 0 xs hxl (fun i x hi=>by
       have hi3:i<xs.length:=(List.getElem?_eq_some_iff.1 hi).1
       have:=hxs i (by omega)
       rw [hl.1,Nat.zero_add]
       rw [hi] at this
       exact ih _ _ _ _ _ this hq)
      simp only [gi]
      refine ⟨?_,g2⟩
      have e:(cs.drop 0).take (k*qs.length)=cs:=by rw [List.drop_zero,hl.2,←RL,List.take_length]
      rwa [e] at g1
     cases hp
    cases hp
end
end Dem
end
section
open Go
namespace Dem
section
variable {T:Nat→Option TI} {G:Nat→Option (List D)} {bx aU:List aA}
def lE (bx aU:List aA):Prop:=∀(i:Nat) (b:aA),bx[i]?=some b→b.born=true→aU[i]?=some b
theorem lE.refl (bx:List aA):lE bx bx:=fun _ _ h _=>h
theorem ON (h:lE bx aU) {x:AV} {y:D} (hx:x.rm bx=some y):x.rm aU=some y:=by
 cases x with
 |ow b sz n=>
  simp only [AV.rm] at hx ⊢
  split at hx
  ·rename_i s es hb
   rw [h _ _ hb rfl];exact hx
  ·rename_i s es hb
   rw [h _ _ hb rfl];exact hx
  simp at hx
 |fn f cs=>cases cs with
  |nil=>exact hx
  |cons c cs=>exact hx
 |_=>exact hx
theorem Lf (h:lE bx aU):∀{xs:List AV} {ys:List D},iV bx xs=some ys→iV aU xs=some ys
 |[],ys,hx=>hx
 |x::xs,ys,hx=>by
  simp only [iV] at hx ⊢
  split at hx
  ·rename_i y ys' hy hys
   rw [ON h hy,Lf h hys];exact hx
  simp at hx
theorem rJ (h:lE bx aU) {x:AV} {es:List (List D)} (hx:x.rows bx=some es):x.rows aU=some es:=by
 cases x with
 |d y=>cases y<;>exact hx
 |ow b sz n=>
  simp only [AV.rows] at hx ⊢
  split at hx
  ·rename_i s es hb
   rw [h _ _ hb rfl];exact hx
  ·rename_i s es hb
   rw [h _ _ hb rfl];exact hx
  simp at hx
 |vw b sz off n c ex=>
  simp only [AV.rows] at hx ⊢
  split at hx
  ·rename_i s es hb
   rw [h _ _ hb rfl];exact hx
  ·rename_i s es hb
   rw [h _ _ hb rfl];exact hx
  simp at hx
 |_=>exact hx
theorem T3 (h:lE bx aU) {x y:AV} (hx:fz bx x=some y):fz aU x=some y:=by
 cases x with
 |ow b sz n=>
  simp only [fz,Option.map_eq_some_iff] at hx ⊢
  obtain ⟨q,h1,h2⟩:=hx
  exact ⟨q,ON h h1,h2⟩
 |vw b sz off n c ex=>
  simp only [fz,Option.map_eq_some_iff] at hx ⊢
  obtain ⟨q,h1,h2⟩:=hx
  exact ⟨q,rJ h h1,h2⟩
 |_=>exact hx
theorem OO (h:lE bx aU):∀{xs ys:List AV},Ir bx xs=some ys→Ir aU xs=some ys
 |[],ys,hx=>hx
 |x::xs,ys,hx=>by
  simp only [Ir] at hx ⊢
  split at hx
  ·rename_i y ys' hy hys
   rw [T3 h hy,OO h hys];exact hx
  simp at hx
theorem D5 (h:lE bx aU):∀{xs ys:List AV},fe bx xs=some ys→fe aU xs=some ys
 |[],ys,hx=>hx
 |x::xs,ys,hx=>by
  simp only [fe] at hx ⊢
  split at hx
  ·rename_i y ys' hy hys
   have:pM aU x=some y:=by
    cases x with
    |agg cs=>
     simp only [pM,Option.map_eq_some_iff] at hy ⊢
     obtain ⟨q,h1,h2⟩:=hy
     exact ⟨q,OO h h1,h2⟩
    |_=>simp only [pM] at hy ⊢;exact T3 h hy
   rw [this,D5 h hys];exact hx
  simp at hx
theorem OP (h:lE bx aU) {ti:TI} {a:AV} {r:R} (hx:o9 ti a bx=some r):o9 ti a aU=some r:=by
 cases a with
 |ptr b off=>
  simp only [o9] at hx ⊢
  split at hx
  ·rename_i cs hb
   rw [h _ _ hb rfl];exact hx
  simp at hx
 |rp b sz i j=>
  simp only [o9] at hx ⊢
  split at hx
  ·rename_i s es hb
   rw [h _ _ hb rfl];exact hx
  ·rename_i s es hb
   rw [h _ _ hb rfl];exact hx
  simp at hx
 |_=>exact hx
theorem R5 (h:lE bx aU) {x v:AV} (hx:zu x bx=some v):zu x aU=some v:=by
 cases x with
 |d y=>cases y<;>exact hx
 |ow b sz n=>
  simp only [zu] at hx ⊢
  split at hx
  ·rename_i es hr
   rw [rJ h hr];exact hx
  simp at hx
 |vw b sz off n c ex=>
  simp only [zu] at hx ⊢
  split at hx
  ·rename_i es hr
   rw [rJ h hr];exact hx
  simp at hx
 |_=>exact hx
theorem CJ (h:lE bx aU) {size:Nat}:∀{ps:List (Nat×AV)} {rs:List (List D)},rowsOf bx size ps=some rs→rowsOf aU size ps=some rs
 |[],rs,hx=>hx
 |(i,v)::r,rs,hx=>by
  simp only [rowsOf] at hx ⊢
  split at hx
  ·rename_i vs hv
   split at hx
   ·rename_i ds WI hd hr
    simp only [Lf h hd,CJ h hr];exact hx
   simp at hx
  simp at hx
theorem Mu (h:lE bx aU) {t:Nat} {x:AV} {lo hi mx:Option Int} {c:Prop} {v:AV} (hx:pL T t x lo hi mx bx=some ⟨c,v,none⟩):pL T t x lo hi mx aU=some ⟨c,v,none⟩:=by
 unfold pL at hx ⊢
 split at hx
 ·split at hx
  ·exact hx
  ·split at hx
   ·rename_i es te hr hte
    simp only [rJ h hr,hte]
    simp only [osI,R.mk.injEq] at hx ⊢
    refine ⟨hx.1,hx.2.1,?_⟩
    have h3:=hx.2.2
    generalize cM _=q at h3 ⊢
    cases q<;>simp at h3 ⊢
   simp at hx
  ·split at hx
   ·have hr:=‹AV.rows bx _=some _›
    have hte:=‹T _=some _›
    simp only [rJ h hr,hte]
    simp only [osI,R.mk.injEq] at hx ⊢
    refine ⟨hx.1,hx.2.1,?_⟩
    have h3:=hx.2.2
    generalize cM _=q at h3 ⊢
    cases q<;>simp at h3 ⊢
   simp at hx
  ·exact hx
  ·split at hx
   ·split at hx
    ·simp at hx
    simp at hx
   simp at hx
  simp at hx
 simp at hx
theorem z8 (h:lE bx aU) {t n:Nat} {ps:List (Nat×AV)} {c:Prop} {v:AV} (hx:fY T t n ps bx=some ⟨c,v,none⟩):fY T t n ps aU=some ⟨c,v,none⟩:=by
 unfold fY at hx ⊢
 split at hx
 ·split at hx
  ·split at hx
   ·rename_i te hte
    generalize (Nat.beq ps.length n&&mS 0 ps&&Nat.ble (n*te.size) 16777216&&te.zero.cells?.isSome)=q at hx ⊢
    cases q with
    |false=>simp at hx
    |true=>
     simp only [cond_true] at hx ⊢
     split at hx
     ·rename_i rs hr
      simp only [CJ h hr]
      simp only [osI,R.mk.injEq] at hx ⊢
      refine ⟨hx.1,hx.2.1,?_⟩
      have h3:=hx.2.2
      generalize Fh _=q at h3 ⊢
      cases q<;>simp at h3 ⊢
     simp at hx
   simp at hx
  simp at hx
 simp at hx
theorem OQ (h:lE bx aU) {s d:Nat} {x:AV} {r:R} (hx:xj T s d x bx=some r):xj T s d x aU=some r:=by
 unfold xj at hx ⊢
 split at hx
 ·split at hx
  ·exact hx
  ·split at hx
   ·rename_i te es hte hr
    simp only [rJ h hr,hte];exact hx
   simp at hx
  ·exact hx
  simp at hx
 simp at hx
theorem uM {t:Nat} {s x:AV} {r:R} (hx:lz T t s x bx=some r):r.bx≠none:=by
 unfold lz at hx
 split at hx
 ·split at hx
  ·split at hx
   ·rename_i te hte
    cases hz:eO te with
    |false=>simp [hz] at hx
    |true=>
    simp only [hz,cond_true] at hx
    split at hx
    ·split at hx
     ·simp only [osI] at hx;subst hx;simp
     ·split at hx
      ·simp at hx
      simp only [osI] at hx;subst hx;simp
     ·split at hx
      ·rename_i b _ _ _ _ _ _
       generalize sameBox _ x=q at hx
       cases q with
       |true=>simp at hx
       |false=>simp only [cond_false,osI] at hx;subst hx;simp
      simp at hx
     simp at hx
    simp at hx
   simp at hx
  simp at hx
 simp at hx
theorem F5 {ti:TI} {a v:AV} {r:R} (hx:sR ti a v bx=some r):r.bx≠none:=by
 unfold sR at hx
 split at hx
 ·simp at hx
 generalize Nat.beq _ _=q at hx
 cases q with
 |false=>simp at hx
 |true=>
 simp only [cond_true] at hx
 split at hx
 ·split at hx
  ·generalize Nat.ble _ _=q at hx
   cases q with
   |false=>simp at hx
   |true=>simp only [cond_true,osI] at hx;subst hx;simp
  simp at hx
 ·split at hx
  ·split at hx
   ·simp only [osI] at hx;subst hx;simp
   simp at hx
  simp at hx
 simp at hx
theorem F6 (h:lE bx aU) {b:Builtin} {args:List AV} {ats:List Nat} {c:Prop} {v:AV} (hx:iY T b args ats bx=some ⟨c,v,none⟩):iY T b args ats aU=some ⟨c,v,none⟩:=by
 unfold iY at hx ⊢
 split at hx
 ·split at hx
  ·split at hx
   ·exact hx
   ·exact hx
   ·split at hx
    ·rename_i v' hl
     simp only [R5 h hl];exact hx
    simp at hx
   simp at hx
  simp at hx
 ·exact hx
 ·exact hx
 ·split at hx
  ·split at hx
   ·simp at hx
   exact absurd rfl (uM hx)
  simp at hx
 simp at hx
theorem IW {te:TI} {n m:Int} {bx:List aA} {c:Prop} {v:AV} {b:Option (List aA)} (h:Fi te n m bx=some ⟨c,v,b⟩):b≠none:=by
 unfold Fi at h
 split at h
 ·cases hz:eO te with
  |false=>simp [hz] at h
  |true=>simp only [hz,cond_true,osI,R.mk.injEq] at h;obtain ⟨_,_,rfl⟩:=h;simp
 simp at h
theorem OR (h:lE bx aU) {ev:Operand→AV} {op:Op} {c:Prop} {v:AV} (hx:mU T ev op bx=some ⟨c,v,none⟩):mU T ev op aU=some ⟨c,v,none⟩:=by
 unfold mU at hx ⊢
 split at hx
 ·exact hx
 ·exact hx
 ·split at hx
  ·exact absurd rfl (IW hx)
  simp at hx
 ·split at hx
  ·exact hx
  ·exact hx
  ·split at hx
   ·simp only [Cp] at hx
    split at hx
    ·split at hx
     ·generalize (Nat.beq _ _&&Nat.beq _ _)=q at hx
      cases q<;>simp at hx
     simp at hx
    simp at hx
   simp at hx
  ·split at hx
   ·simp only [DO] at hx
    split at hx
    ·split at hx
     ·rename_i te _ _ _ _ _ _ _ _ _ _ _ _ _ _ _
      cases hq:(Nat.beq _ _&&Nat.beq _ _&&eO _:Bool)<;>rw [hq] at hx<;>simp at hx
     simp at hx
    simp at hx
   simp at hx
  ·split at hx
   ·split at hx
    ·simp only [KW] at hx
     split at hx
     ·generalize (Nat.beq _ _&&Nat.beq _ _&&eO _&&_)=q at hx
      cases q<;>simp at hx
     simp at hx
    simp at hx
   ·generalize sameBox _ _=q at hx
    cases q with
    |true=>
     simp only [cond_true,rA] at hx
     split at hx
     ·generalize (Nat.beq _ _&&Nat.beq _ _)=q at hx
      cases q<;>simp at hx
     simp at hx
    |false=>
     simp only [cond_false] at hx
     split at hx
     ·rename_i hap
      simp only [osI,R.mk.injEq] at hx
      obtain ⟨_,_,rfl⟩:=hx
      exact absurd rfl (uM hap)
     simp at hx
   simp at hx
  simp at hx
 simp at hx
theorem R6 (h:lE bx aU) {ev:Operand→AV} {op:Op} {c:Prop} {v:AV} (hx:lA T ev op bx=some ⟨c,v,none⟩):lA T ev op aU=some ⟨c,v,none⟩:=by
 unfold lA at hx ⊢
 split at hx
 ·exact hx
 ·exact hx
 ·split at hx
  ·split at hx<;>simp at hx
  simp at hx
 ·split at hx<;>simp at hx
 ·split at hx
  ·exact OP h hx
  simp at hx
 ·split at hx
  ·exact absurd rfl (F5 hx)
  simp at hx
 ·exact hx
 ·exact z8 h hx
 ·exact hx
 ·exact hx
 ·exact hx
 ·exact hx
 ·exact hx
 ·exact hx
 ·exact hx
 ·exact OQ h hx
 ·split at hx
  ·exact Mu h hx
  simp at hx
 ·exact hx
 ·exact hx
 ·exact hx
 ·exact hx
 ·exact F6 h hx
 exact hx
theorem UQ (h:lE bx aU) {ev:Operand→AV} {op:Op} {c:Prop} {v:AV} (hx:Fb T ev op bx=some ⟨c,v,none⟩):Fb T ev op aU=some ⟨c,v,none⟩:=by
 unfold Fb at hx ⊢
 cases hv:iZ ev op with
 |true=>rw [hv,cond_true] at hx;rw [cond_true];exact OR h hx
 |false=>rw [hv,cond_false] at hx;rw [cond_false];exact R6 h hx
theorem lT {ev rK:Operand→AV} {x:Option Operand} (h:∀y,x=some y→ev y=rK y):BM ev x=BM rK x:=by
 cases x with
 |none=>rfl
 |some y=>simp only [BM,h y rfl]
theorem IX {ev rK:Operand→AV} {op:Op} (h:∀x∈op.operands.toList,ev x=rK x):lA T ev op bx=lA T rK op bx:=by
 have pairs:∀ps:Array (Nat×Operand),(∀x∈(ps.toList.map (·.2)).toArray.toList,ev x=rK x)→(ps.toList.map fun p=>(p.1,ev p.2))=(ps.toList.map fun p=>(p.1,rK p.2)):=by
  intro ps hp
  refine List.map_congr_left fun p hm=>?_
  rw [hp p.2 (by simp only [List.mem_map];exact ⟨p,hm,rfl⟩)]
 cases op<;>simp only [Op.operands] at h
 case build t ps=>simp only [lA,pairs ps h]
 case buildSlice t n ps=>simp only [lA,pairs ps h]
 case makeFunc fn first captured=>
  cases fn<;>simp only [lA]
  rw [List.map_congr_left (l:=captured.toList) (f:=ev) (g:=rK) fun x hx=>h x (by simp;exact .inr (by simpa using hx)),List.map_congr_left (l:=first.toList) (f:=ev) (g:=rK) fun x hx=>h x (by simp;exact .inl (by simpa using hx))]
 case slice t x lo hi mx=>
  simp only [lA,h x (by simp),lT (x:=lo) (fun y hy=>h y (by simp [hy])),lT (x:=hi) (fun y hy=>h y (by simp [hy])),lT (x:=mx) (fun y hy=>h y (by simp [hy]))]
 case call c=>
  obtain ⟨callee,args,ats⟩:=c
  cases callee<;>simp only [lA]
  rw [List.map_congr_left (f:=ev) (g:=rK) fun x hx=>h x (by simp [Call.operands];exact by simpa using hx)]
 all_goals (first|rfl|(simp only [lA];simp_all;done)|(simp_all [lA];done))
theorem xJ {ev rK:Operand→AV} {op:Op} (h:∀x∈op.operands.toList,ev x=rK x):iZ ev op=iZ rK op∧mU T ev op bx=mU T rK op bx:=by
 cases op<;>simp only [Op.operands] at h
 case slice t x lo hi mx=>
  simp only [iZ,mU,h x (by simp),lT (x:=lo) (fun y hy=>h y (by simp [hy])),lT (x:=hi) (fun y hy=>h y (by simp [hy])),lT (x:=mx) (fun y hy=>h y (by simp [hy])),and_self]
 case indexAddr t x i=>simp only [iZ,mU,h x (by simp),h i (by simp),and_self]
 case makeSlice t x i=>simp only [iZ,mU,h x (by simp),h i (by simp),and_self]
 case call c=>
  obtain ⟨callee,args,ats⟩:=c
  cases callee
  case builtin b=>
   have hm:args.toList.map ev=args.toList.map rK:=List.map_congr_left (f:=ev) (g:=rK) fun x hx=>h x (by simp [Call.operands];exact by simpa using hx)
   have hs:∀x∈args.toList,ev x=rK x:=fun x hx=>h x (by simp [Call.operands];exact by simpa using hx)
   refine ⟨?_,by simp only [mU,hm]⟩
   simp only [iZ]
   generalize args.toList=l at hs
   split<;>first|rfl|(rw [hs _ (by simp)])
  all_goals exact ⟨rfl,rfl⟩
 all_goals exact ⟨rfl,rfl⟩
theorem Mv {ev rK:Operand→AV} {op:Op} (h:∀x∈op.operands.toList,ev x=rK x):Fb T ev op bx=Fb T rK op bx:=by
 unfold Fb
 rw [(xJ (T:=T) (bx:=bx) h).1,(xJ (T:=T) (bx:=bx) h).2,IX h]
end
end Dem
end
section
open Go
namespace Dem
section
variable {P:Program} {T:Nat→Option TI} {G:Nat→Option (List D)} {N:Nat} {ds:List Deferred} {β:Nat→Nat} {bx aU:List aA} {w:World} {X:Nat→Prop} {s:St} {a:Act}
def OS (ev:Operand→AV) (xs:List Operand):Prop:=∀x∈xs,(ev x).ok
theorem mW.le {FC:Nat→List AV→List aA→jR→List aA→Prop} {f:Nat} {args:List AV} {v:AV} (h:mW FC f args bx v) (hb:lE bx aU):mW FC f args aU v:=by
 obtain ⟨args',jS,k1,k2,k3,k4,k5⟩:=h
 refine ⟨args',jS,D5 hb k1,k2,k3,?_,k5⟩
 intro i b hi dW
 obtain ⟨b',h1,h2,h3⟩:=k4 i b hi dW
 exact ⟨b',hb i b' h1 h2,h2,h3⟩
theorem IY {ev rK:Operand→AV} {op:Op} (h:∀x∈op.operands.toList,ev x=rK x):BQ T ev op=BQ T rK op:=by
 unfold BQ
 split
 ·rename_i b args ats
  split
  ·rename_i x y t u ha UL
   have mx:x∈args.toList:=by rw [ha];simp
   have my:y∈args.toList:=by rw [ha];simp
   rw [h x (by simp [Op.operands,Call.operands];exact by simpa using mx),h y (by simp [Op.operands,Call.operands];exact by simpa using my)]
  rfl
 rfl
inductive YG (FC:Nat→List AV→List aA→jR→List aA→Prop) (T:Nat→Option TI) (g:Bool) (ev:Operand→AV) (bx:List aA):Op→AV→Prop
 |pick (c a b:Operand) (p:Bool) (hc:(ev c).aR=.d (.bool p)) (hg:g=true→(ev c).ok∧(p=true→(ev a).ok)∧(p=false→(ev b).ok)):YG FC T g ev bx (.pick c a b) (zq p (ev a).aR (ev b).aR)
 |call (f:Operand) (args:Array Operand) (ats:Array TypeId) (i:Nat) (as:List AV) (v:AV) (hf:lX (ev f).aR (args.toList.map fun x=>(ev x).aR)=some (i,as))
  (hg:g=true→((ev f).ok∧OS ev args.toList)∧mW FC i as bx v):
  YG FC T g ev bx (.call {callee:=.value f,args:=args,argTypes:=ats}) v
 |inv (f:Operand) (nm:String) (args:Array Operand) (ats:Array TypeId) (i:Nat) (as:List AV) (v:AV) (hf:Cq T (ev f).aR nm (args.toList.map fun x=>(ev x).aR)=some (i,as))
  (hg:g=true→((ev f).ok∧OS ev args.toList)∧mW FC i as bx v):
  YG FC T g ev bx (.call {callee:=.invoke f nm,args:=args,argTypes:=ats}) v
 |idx (t:Nat) (x i:Operand) (c:Prop) (ds ds':List D) (hi:zx T t (ev x).aR (ev i).aR=some (c,ds)) (hg:g=true→(OS ev [x,i]∧c)∧ds=ds'):YG FC T g ev bx (.indexAddr t x i) (.ep ds')
 |no (op:Op) (v:AV) (hg:g=false):YG FC T g ev bx op v
 |app (op:Op) (c:Prop) (es:List (List D)) (hr:BQ T (fun x=>(ev x).aR) op=some (c,es)) (hg:g=true→OS ev op.operands.toList∧c):YG FC T g ev bx op (.d (.sl es))
 |op (op:Op) (c:Prop) (v:AV) (hr:Fb T (fun x=>(ev x).aR) op bx=some ⟨c,v,none⟩) (hg:g=true→OS ev op.operands.toList∧c):YG FC T g ev bx op v
variable {FC:Nat→List AV→List aA→jR→List aA→Prop}
theorem uN {g:Bool} {o:Oper} {K:AV→Prop} (h:stepG FC T G g o s K):∃v,YG FC T g (ct G s.sl) s.bx o.op v∧K v:=by
 rcases h with ⟨hg,v,hK⟩|h|⟨c,es,hr,hg,hK⟩
 ·exact ⟨v,.no _ v hg,hK⟩
 rotate_left
 ·exact ⟨_,.app _ c es hr (fun h=>⟨fun x hx=>dG (hg h).1 x hx,(hg h).2⟩),hK⟩
 unfold vX at h
 split at h
 ·rename_i c x y ho
  split at h
  ·rename_i p hc
   rw [ho]
   exact ⟨_,.pick c x y p hc h.1,h.2⟩
  exact h.elim
 ·rename_i f args ats ho
  split at h
  ·rename_i i as FV
   obtain ⟨v,hg,hK⟩:=h
   rw [ho]
   exact ⟨v,.call f args ats i as v FV (fun hg'=>⟨⟨(hg hg').1.1,fun x hx=>dG (hg hg').1.2 x hx⟩,(hg hg').2⟩),hK⟩
  exact h.elim
 ·rename_i f nm args ats ho
  split at h
  ·rename_i i as FV
   obtain ⟨v,hg,hK⟩:=h
   rw [ho]
   exact ⟨v,.inv f nm args ats i as v FV (fun hg'=>⟨⟨(hg hg').1.1,fun x hx=>dG (hg hg').1.2 x hx⟩,(hg hg').2⟩),hK⟩
  exact h.elim
 split at h
 ·rename_i c ds hi
  obtain ⟨ds',hg,hK⟩:=h
  split at hi
  ·rename_i t x i ho
   rw [ho] at hg ⊢
   exact ⟨_,.idx t x i c ds ds' hi (fun hg'=>⟨⟨fun y hy=>dG (hg hg').1.1 y (by simpa [Op.operands] using hy),(hg hg').1.2⟩,(hg hg').2⟩),hK⟩
  simp at hi
 split at h
 ·rename_i c v hr
  exact ⟨v,.op _ c v hr (fun hg=>⟨fun x hx=>dG (h.1 hg).1 x hx,(h.1 hg).2⟩),h.2⟩
 exact h.elim
theorem YG.BW {g:Bool} {ev rK:Operand→AV} {op:Op} {v:AV} (h:YG FC T g ev bx op v) (iG:∀x∈op.operands.toList,ev x=rK x) (hb:lE bx aU):YG FC T g rK aU op v:=by
 cases h with
 |pick c x y p hc hg=>
  have e1:=iG c (by simp [Op.operands]);have e2:=iG x (by simp [Op.operands]);have e3:=iG y (by simp [Op.operands])
  rw [e1] at hc hg;rw [e2] at hg ⊢;rw [e3] at hg ⊢
  exact .pick c x y p hc hg
 |call f args ats i as v hf hg=>
  have e1:=iG f (by simp [Op.operands,Call.operands])
  have e2:∀x∈args.toList,ev x=rK x:=fun x hx=>iG x (by simp [Op.operands,Call.operands];exact .inr (by simpa using hx))
  rw [e1,List.map_congr_left (g:=fun x=>(rK x).aR) fun x hx=>by rw [e2 x hx]] at hf
  refine .call f args ats i as v hf (fun hg'=>?_)
  obtain ⟨⟨k1,k2⟩,k3⟩:=hg hg'
  exact ⟨⟨e1▸k1,fun x hx=>e2 x hx▸k2 x hx⟩,k3.le hb⟩
 |inv f nm args ats i as v hf hg=>
  have e1:=iG f (by simp [Op.operands,Call.operands])
  have e2:∀x∈args.toList,ev x=rK x:=fun x hx=>iG x (by simp [Op.operands,Call.operands];exact .inr (by simpa using hx))
  rw [e1,List.map_congr_left (g:=fun x=>(rK x).aR) fun x hx=>by rw [e2 x hx]] at hf
  refine .inv f nm args ats i as v hf (fun hg'=>?_)
  obtain ⟨⟨k1,k2⟩,k3⟩:=hg hg'
  exact ⟨⟨e1▸k1,fun x hx=>e2 x hx▸k2 x hx⟩,k3.le hb⟩
 |idx t x i c ds ds' hi hg=>
  have e1:=iG x (by simp [Op.operands]);have e2:=iG i (by simp [Op.operands])
  rw [e1,e2] at hi
  refine .idx t x i c ds ds' hi (fun hg'=>⟨⟨fun y hy=>?_,(hg hg').1.2⟩,(hg hg').2⟩)
  have:=(hg hg').1.1 y hy
  rw [iG y (by simpa [Op.operands] using hy)] at this
  exact this
 |no _ v hg=>exact .no _ v hg
 |app _ c es hr hg=>
  refine .app _ c es ?_ (fun hg'=>⟨fun x hx=>iG x hx▸(hg hg').1 x hx,(hg hg').2⟩)
  rw [←IY (ev:=fun x=>(ev x).aR) (rK:=fun x=>(rK x).aR) (fun x hx=>by rw [iG x hx])]
  exact hr
 |op _ c v hr hg=>
  refine .op _ c v ?_ (fun hg'=>⟨fun x hx=>iG x hx▸(hg hg').1 x hx,(hg hg').2⟩)
  rw [←Mv (ev:=fun x=>(ev x).aR) (rK:=fun x=>(rK x).aR) (fun x hx=>by rw [iG x hx])]
  exact UQ hb hr
theorem F7 (hT:kD P T) (hF:Fr G N ds β w X s a) {o:Oper} {v:AV} {next:Act→World→Prop} {Qc:Exit→Act→World→Prop}
 (h:YG (bF P G) T true (ct G s.sl) s.bx o.op v) (hn:zV G β s.bx w X a o.dst (fun v' bx=>v'=v∧bx=s.bx) next):o.wp P a w next Qc:=by
 have iG:∀x,(ct G s.sl x).ok→ak β s.bx w (bp β s.bx w X) (ct G s.sl x).aR (a.eval x):=fun x hx=>kj (hF.eval x) hx
 unfold Oper.wp
 generalize ho:o.op=op at h
 cases h with
 |pick c x y p hc hg=>
  obtain ⟨h1,h2,h3⟩:=hg rfl
  have vS:=iG c h1
  rw [hc] at vS;simp only [ak,aL] at vS
  refine cX (v:=_) (aU:=s.bx) (dH.pure (u:=if p then a.eval x else a.eval y) hF.cx ?_ (zX (fun hp=>iG x (h2 hp)) (fun hp=>iG y (h3 hp)))) ⟨rfl,rfl⟩ hn
  simp [execOp,ho,vS,asBool]
 |call f args ats i as v FV hg=>
  obtain ⟨⟨h1,h2⟩,hq⟩:=hg rfl
  obtain ⟨fs,cs,e1,e2⟩:=mu FV (iG f h1) (iA args.toList (fun y hy=>iG y (h2 y hy)))
  rw [kL ho e1]
  refine gK (lC (K:=fun v' bx=>v'=v∧bx=s.bx) hF.cx e2 hq ⟨rfl,rfl⟩) ?_ ?_ ?_
  ·rintro v w' ⟨β',aU,v',u,e,ex,cx,hv,hK⟩
   cases e
   exact hn β' aU w' v' v ex cx hv hK
  ·rintro ch w' ⟨_,_,_,_,e,_⟩;cases e
  rintro w' ⟨_,_,_,_,e,_⟩;cases e
 |inv f nm args ats i as v FV hg=>
  obtain ⟨⟨h1,h2⟩,hq⟩:=hg rfl
  obtain ⟨t,ti,u,k1,k2,k3,e2⟩:=CE hT FV (iG f h1) (iA args.toList (fun y hy=>iG y (h2 y hy)))
  rw [xG hT ho k1 k2 k3]
  refine gK (lC (K:=fun v' bx=>v'=v∧bx=s.bx) hF.cx e2 hq ⟨rfl,rfl⟩) ?_ ?_ ?_
  ·rintro v w' ⟨β',aU,v',u,e,ex,cx,hv,hK⟩
   cases e
   exact hn β' aU w' v' v ex cx hv hK
  ·rintro ch w' ⟨_,_,_,_,e,_⟩;cases e
  rintro w' ⟨_,_,_,_,e,_⟩;cases e
 |idx t x i c ds ds' hi hg=>
  obtain ⟨⟨hk,hc⟩,rfl⟩:=hg rfl
  obtain ⟨r,k1,k2⟩:=zW (P:=P) (w:=w) hT hF.cx hi hc (iG x (hk x (by simp))) (iG i (hk i (by simp)))
  refine cX (v:=_) (aU:=s.bx) (dH.pure hF.cx ?_ k2) ⟨rfl,rfl⟩ hn
  simp only [execOp,ho]
  exact bR _ k1
 |no _ v hg=>cases hg
 |app _ c es hr hg=>
  obtain ⟨h1,hc⟩:=hg rfl
  subst ho
  exact cX (CD (P:=P) hT hF.cx (ρ:=a.eval) (fun x hx=>iG x (h1 x hx)) hr hc) ⟨rfl,rfl⟩ hn
 |op _ c v hr hg=>
  obtain ⟨h1,hc⟩:=hg rfl
  subst ho
  exact cX (zR (P:=P) hT hF.cx (ρ:=a.eval) (fun x hx=>iG x (h1 x hx)) hr hc) ⟨rfl,rfl⟩ hn
theorem F8 {k:Nat} (h:bx[k]?=some .bw) (B:aA) {i:Nat} (hi:cj bx i):i≠k∧cj (bx.set k B) i:=by
 obtain ⟨b,h1,h2⟩:=hi
 have hne:i≠k:=by rintro rfl;rw [h] at h1;simp at h1;subst h1;simp [aA.born] at h2
 exact ⟨hne,b,by rw [List.getElem?_set_ne (Ne.symm hne)];exact h1,h2⟩
theorem qb {k:Nat} (h:bx[k]?=some .bw) (o:Obj) (B:aA):Ext β bx w (lg β k w.heap.size) (bx.set k B) {w with heap:=w.heap.push o}:=by
 refine ⟨rfl,rfl,rfl,by simp,fun j hj _=>jk w o j hj,fun j c e f hj=>⟨c,by rw [jk w o j (fh hj)];exact hj,rfl⟩,?_,?_⟩
 ·intro i hi
  obtain ⟨h1,h2⟩:=F8 h B hi
  exact ⟨dm _ _ h1,h2⟩
 intro i b hb hl
 rcases aP hb with ⟨rfl,_,_⟩|⟨hne,hb'⟩
 ·exact .inl (by rw [bu];exact Nat.le_refl _)
 exact .inr ⟨i,b,hb',hl,(dm _ _ hne).symm⟩
theorem F9 (cx:cP G β bx w X) {k:Nat} (h:bx[k]?=some .bw) (o:Obj) (B:aA)
 (hB:dz (lg β k w.heap.size) (bx.set k B) {w with heap:=w.heap.push o} (bp (lg β k w.heap.size) (bx.set k B) {w with heap:=w.heap.push o} X) B w.heap.size):
 cP G (lg β k w.heap.size) (bx.set k B) {w with heap:=w.heap.push o} X:=by
 refine cx.step (qb h o B) ?_ ?_
 ·intro i b hb
  rcases aP hb with ⟨rfl,rfl,_⟩|⟨hne,hb'⟩
  ·exact .inr (by rw [bu];exact hB)
  exact .inl ⟨hb',fun hl=>jk w o _ ((cx.box i b hb').fJ hl)⟩
 intro i j bi bj h1 h2 l1 l2 he
 rcases aP h1 with ⟨rfl,rfl,_⟩|⟨hi,h3⟩<;>rcases aP h2 with ⟨rfl,rfl,_⟩|⟨hj,h4⟩
 ·rfl
 ·rw [bu,dm _ _ hj] at he
  have:=(cx.box j bj h4).fJ l2;omega
 ·rw [bu,dm _ _ hi] at he
  have:=(cx.box i bi h3).fJ l1;omega
 rw [dm _ _ hi,dm _ _ hj] at he
 exact cx.inj i j bi bj h3 h4 l1 l2 he
theorem xK (cx:cP G β bx w X) {k:Nat} (hk:bx[k]?=some .bw) (t:Nat) {x:AV} {u:Value} {cs:List AV} (hx:x.cells?=some cs) (h:ak β bx w (bp β bx w X) x u):
 ∃β' w',(newVar t u).run P w=.ok ⟨β' k,0,none⟩ w'∧Ext β bx w β' (bx.set k (.var cs)) w'∧cP G β' (bx.set k (.var cs)) w' X:=by
 obtain ⟨vs,h1,h2,h3⟩:=nL hx h
 refine ⟨lg β k w.heap.size,{w with heap:=w.heap.push (.cells ⟨vs⟩ t)},?_,qb hk _ _,F9 cx hk _ _ ?_⟩
 ·simp [newVar,newRow,newObj,Sem.run,h1,bu]
 refine ⟨⟨vs⟩,t,jv _ _,?_⟩
 exact an.mono ((qb (β:=β) (bx:=bx) (w:=w) hk (.cells ⟨vs⟩ t) (.var cs)).eX X) _ _ h2
theorem D6 {sl sj:List (Nat×AV)} {o:Oper} (h:∀x∈o.op.operands.toList,ct G sl x=ct G sj x):iz T G sl o=iz T G sj o:=by
 obtain ⟨dst,op,type,pos,after,guard⟩:=o
 unfold iz
 cases guard with
 |some g=>rfl
 |none=>
  cases op<;>simp only []
  rename_i t x
  rw [h x (by simp [Op.operands])]
theorem Ga (hT:kD P T) (hF:Fr G N ds β w X s a) {o:Oper} {cs:List AV} (hb:iz T G s.sl o=some cs) {k:Nat} (hk:s.bx[k]?=some .bw) {next:Act→World→Prop} {Qc:Exit→Act→World→Prop}
 (hn:zV G β s.bx w X a o.dst (fun v bx=>v=.ptr k 0∧bx=s.bx.set k (.var cs)) next):o.wp P a w next Qc:=by
 obtain ⟨dst,op,type,pos,after,guard⟩:=o
 have hlt:k<s.bx.length:=jz hk
 have dW:cj (s.bx.set k (.var cs)) k:=⟨.var cs,jB hk,rfl⟩
 unfold iz at hb
 unfold Oper.wp
 cases guard with
 |some g=>simp at hb
 |none=>
  simp only at hb
  split at hb
  ·rename_i t
   cases ht:T t with
   |none=>simp [ht] at hb
   |some ti=>
   simp only [ht] at hb
   obtain ⟨i,d,h1,h2,h3,h4,h5,h6⟩:=aJ (hT.ti _ _ ht)
   cases yT:i.zero with
   |none=>rw [h6,yT] at hb;simp [AV.cells?] at hb
   |some z=>
   rw [h6,yT] at hb
   obtain ⟨β',w',k1,k2,k3⟩:=xK (P:=P) hF.cx hk t hb (uv z)
   have hr:(execOp a.eval {dst:=dst,op:=.alloc t,type:=type,pos:=pos,after:=after,guard:=none}).run P w=.ok (.value (.pointer (some ⟨β' k,0,none⟩))) w':=
    bR _ (by simp [Instr.alloc,gJ h1 yT,k1])
   rw [hr]
   exact hn β' _ w' (.ptr k 0) _ k2 k3 (by simp only [ak];exact ⟨trv,dW⟩) ⟨rfl,rfl⟩
  ·rename_i t x
   obtain ⟨β',w',k1,k2,k3⟩:=xK (P:=P) hF.cx hk t hb (hF.eval x)
   have hr:(execOp a.eval {dst:=dst,op:=.box t x,type:=type,pos:=pos,after:=after,guard:=none}).run P w=.ok (.value (.pointer (some ⟨β' k,0,none⟩))) w':=
    bR _ (by simp [Instr.box,k1])
   rw [hr]
   exact hn β' _ w' (.ptr k 0) _ k2 k3 (by simp only [ak];exact ⟨trv,dW⟩) ⟨rfl,rfl⟩
  simp at hb
theorem IZ {β':Nat→Nat} {w':World} {sz n k:Nat} {es:List (List D)} {pO:List aA} {u:Value} (cx:cP G β bx w X) (hk:bx[k]?=some .bw) (ex:Ext β [] w β' [.row sz es] w') (mO:cP G β' [.row sz es] w' (pZ β pO X))
 (hv:(∀r∈es,∀x∈r,x.flat=true)∨pO=bx) (hr:ak β' [.row sz es] w' (bp β' [.row sz es] w' (pZ β pO X)) (.ow 0 sz n) u):
 Ext β bx w (lg β k (β' 0)) (bx.set k (.row sz es)) w'∧cP G (lg β k (β' 0)) (bx.set k (.row sz es)) w' X∧
  ak (lg β k (β' 0)) (bx.set k (.row sz es)) w' (bp (lg β k (β' 0)) (bx.set k (.row sz es)) w' X) (.ow k sz n) u:=by
 have e0:=uG (bx:=bx) ex
 have hlk:k<bx.length:=jz hk
 have hnew:aA.live (.row sz es)=true→w.heap.size≤β' 0:=by
  intro hl
  rcases ex.live 0 (.row sz es) rfl hl with h|⟨j,b',h1,_⟩
  ·exact h
  simp at h1
 have e1:Ext β bx w (lg β k (β' 0)) (bx.set k (.row sz es)) w':=by
  refine ⟨e0.os,e0.tape,e0.output,e0.size,e0.block,e0.shape,?_,?_⟩
  ·intro i hi
   obtain ⟨h1,h2⟩:=F8 hk (.row sz es) hi
   exact ⟨dm _ _ h1,h2⟩
  intro i b h hl
  rcases aP h with ⟨rfl,rfl,_⟩|⟨hne,h1⟩
  ·exact .inl (by rw [bu];exact hnew hl)
  exact .inr ⟨i,b,h1,hl,(dm _ _ hne).symm⟩
 have hlt:∀i b,bx[i]?=some b→b.live=true→β i<w.heap.size:=fun i b h hl=>dz.fJ (cx.box i b h) hl
 have hok:pO=bx→∀blk,bp β' [.row sz es] w' (pZ β pO X) blk→bp (lg β k (β' 0)) (bx.set k (.row sz es)) w' X blk:=by
  rintro rfl blk ⟨k1,k2,k3⟩
  refine ⟨k1,fun hX=>k2 (.inl hX),?_⟩
  intro i b h hl
  rcases aP h with ⟨rfl,rfl,_⟩|⟨hne,h1⟩
  ·rw [bu];exact k3 0 _ rfl hl
  rw [dm _ _ hne];exact fun he=>k2 (.inr ⟨i,b,h1,hl,he⟩)
 refine ⟨e1,cx.step e1 ?_ ?_,?_⟩
 ·intro i b h
  rcases aP h with ⟨rfl,rfl,_⟩|⟨hne,h1⟩
  ·refine .inr ?_
   have:=mO.box 0 _ rfl
   rw [bu]
   simp only [dz] at this ⊢
   refine this.imp id ?_
   rintro ⟨c,e,h1,h2⟩
   refine ⟨c,e,h1,?_⟩
   rcases hv with hfl|hb
   ·exact oC _ _ hfl h2
   exact ay.mono (fun blk hb'=>⟨hok hb blk hb',rfl⟩) _ _ (fun _=>rfl) _ _ h2
  exact .inl ⟨h1,fun hl=>ex.block _ (hlt i b h1 hl) (by simp)⟩
 ·intro i j bi bj hi hj mP oD he
  rcases aP hi with ⟨rfl,rfl,_⟩|⟨hni,h1⟩<;>rcases aP hj with ⟨rfl,rfl,_⟩|⟨hnj,h2⟩
  ·rfl
  ·rw [bu,dm _ _ hnj] at he
   have:=hlt j bj h2 oD;have:=hnew mP;omega
  ·rw [bu,dm _ _ hni] at he
   have:=hlt i bi h1 mP;have:=hnew oD;omega
  rw [dm _ _ hni,dm _ _ hnj] at he
  exact cx.inj i j bi bj h1 h2 mP oD he
 simp only [ak] at hr ⊢
 obtain ⟨_,h2⟩:=hr
 refine ⟨⟨_,jB hk,rfl⟩,?_⟩
 rw [bu];exact h2
theorem Aa (hT:kD P T) (hF:Fr G N ds β w X s a) {o:Oper} {k:Nat} {v0:AV} {B0:aA} (h:lY (bF P G) G o s.sl s.bx k (fun v B=>v=v0∧B=B0)) {next:Act→World→Prop} {Qc:Exit→Act→World→Prop}
 (hn:zV G β s.bx w X a o.dst (fun v bx=>v=v0∧bx=s.bx.set k B0) next):o.wp P a w next Qc:=by
 obtain ⟨f,args,ats,i,as,args',sz,n,es,ho,FV,⟨h1,h2⟩,h3,h4,h5,h6,hk,rfl,rfl⟩:=h
 have iG:∀x,(ct G s.sl x).ok→ak β s.bx w (bp β s.bx w X) (ct G s.sl x).aR (a.eval x):=fun x hx=>kj (hF.eval x) hx
 obtain ⟨fs,cs,e1,e2⟩:=mu FV (iG f h1) (iA args.toList (fun y hy=>iG y (dG h2 y hy)))
 unfold Oper.wp
 rw [kL ho e1]
 obtain ⟨x1,c1,r1⟩:=lS as s.bx _ _ hF.cx h3 e2
 have cn:=FP c1
 have hnn:an β [] w (bp β [] w (pZ β (fw s.bx as) X)) _ _:=lR (fun blk hb=>FQ blk hb) _ _ h4 r1
 refine gK (h5 β w _ _ cn hnn) ?_ ?_ ?_
 ·rintro u w' ⟨β',ex,mO,hr⟩
  simp only [mh] at hr
  obtain ⟨y1,y2,y3⟩:=IZ hF.cx hk ex mO (by
   rcases h6 with hfl|OG
   ·exact .inl hfl
   refine .inr ?_
   rw [ki s.bx OG]) hr
  exact hn _ _ w' _ u y1 y2 y3 ⟨rfl,rfl⟩
 ·rintro ch w' ⟨_,_,_,hr⟩;exact hr.elim
 rintro w' ⟨_,_,_,hr⟩;exact hr.elim
end
end Dem
end
section
open Go
namespace Dem
structure It where
 dst:Option Nat
 v:AV
 bi:Option (Nat×aA)
def dJ (m:Nat→Bool):Nat→List It→List (Nat×AV)→List (Nat×AV)
 |_,[],sl=>sl
 |i,t::r,sl=>dJ m (i+1) r (bif m i then eL t.dst t.v sl else sl)
def qc (t:It) (bx:List aA):List aA:=
 match t.bi with
 |some (k,B)=>bx.set k B
 |none=>bx
def fk (m:Nat→Bool):Nat→List It→List aA→List aA
 |_,[],bx=>bx
 |i,t::r,bx=>fk m (i+1) r (bif m i then qc t bx else bx)
theorem nQ (t:Nat) (dst:Option Nat) (v:AV) (sl:List (Nat×AV)):gH t (eL dst v sl)=if dst=some t then v else gH t sl:=by
 cases dst with
 |none=>simp [eL]
 |some d=>
  simp only [eL,oE,osI]
  by_cases h:t=d
  ·subst h;simp
  have:d≠t:=fun e=>h e.symm
  simp [h,this]
theorem qd {t:Nat} {m m':Nat→Bool}:∀(cQ:List It) (i:Nat) (sl sj:List (Nat×AV)),gH t sl=gH t sj→
 (∀j it,cQ[j]?=some it→it.dst=some t→m (i+j)=m' (i+j))→gH t (dJ m i cQ sl)=gH t (dJ m' i cQ sj)
 |[],_,_,_,h,_=>h
 |it::r,i,sl,sj,h,hm=>by
  simp only [dJ]
  refine qd r (i+1) _ _ ?_ (fun j it' hj hd=>by have:=hm (j+1) it' (by simpa using hj) hd;simpa [Nat.add_assoc,Nat.add_comm 1 j] using this)
  by_cases hd:it.dst=some t
  ·have:=hm 0 it rfl hd
   rw [Nat.add_zero] at this
   rw [this]
   cases m' i<;>simp [nQ,hd,h]
  cases m i<;>cases m' i<;>simp [nQ,hd,h]
theorem Ab {t:Nat} {m:Nat→Bool}:∀(cQ:List It) (i:Nat) (sl:List (Nat×AV)),(∀j it,cQ[j]?=some it→it.dst=some t→m (i+j)=false)→gH t (dJ m i cQ sl)=gH t sl
 |[],_,_,_=>rfl
 |it::r,i,sl,hm=>by
  simp only [dJ]
  rw [Ab r (i+1) _ (fun j it' hj hd=>by have:=hm (j+1) it' (by simpa using hj) hd;simpa [Nat.add_assoc,Nat.add_comm 1 j] using this)]
  by_cases hd:it.dst=some t
  ·have:=hm 0 it rfl hd
   rw [Nat.add_zero] at this
   simp [this]
  cases m i<;>simp [nQ,hd]
theorem kM {m m':Nat→Bool}:∀(cQ:List It) (i:Nat) (sl:List (Nat×AV)),(∀j,j<cQ.length→m (i+j)=m' (i+j))→dJ m i cQ sl=dJ m' i cQ sl
 |[],_,_,_=>rfl
 |it::r,i,sl,hm=>by
  simp only [dJ]
  have h0:=hm 0 (by simp)
  rw [Nat.add_zero] at h0
  rw [h0]
  exact kM r (i+1) _ (fun j hj=>by have:=hm (j+1) (by simpa using hj);simpa [Nat.add_assoc,Nat.add_comm 1 j] using this)
theorem m5 {m m':Nat→Bool}:∀(cQ:List It) (i:Nat) (bx:List aA),(∀j,j<cQ.length→m (i+j)=m' (i+j))→fk m i cQ bx=fk m' i cQ bx
 |[],_,_,_=>rfl
 |it::r,i,bx,hm=>by
  simp only [fk]
  have h0:=hm 0 (by simp)
  rw [Nat.add_zero] at h0
  rw [h0]
  exact m5 r (i+1) _ (fun j hj=>by have:=hm (j+1) (by simpa using hj);simpa [Nat.add_assoc,Nat.add_comm 1 j] using this)
theorem Ac:∀(cQ:List It) (i j:Nat) (sl:List (Nat×AV)),dJ (fun _=>true) i (cQ.take j) sl=dJ (fun x=>decide (x<i+j)) i cQ sl
 |[],i,j,sl=>by simp [dJ]
 |it::r,i,0,sl=>by
  simp only [List.take_zero,dJ,Nat.add_zero,Nat.lt_irrefl,decide_false,cond_false]
  have:∀(r:List It) (k:Nat),i≤k→dJ (fun x=>decide (x<i)) k r sl=sl:=by
   intro r
   induction r with
   |nil=>intro k _;rfl
   |cons t r ih=>
    intro k hk
    simp only [dJ,show ¬k<i by omega,decide_false,cond_false]
    exact ih (k+1) (by omega)
  exact (this r (i+1) (by omega)).symm
 |it::r,i,j+1,sl=>by
  simp only [List.take_succ_cons,dJ,cond_true,show i<i+(j+1) by omega,decide_true]
  rw [Ac r (i+1) j]
  exact kM r (i+1) _ (fun k _=>by simp only [show i+1+j=i+(j+1) by omega])
theorem Ad {t:Nat} {m m':Nat→Bool}:∀(cQ:List It) (i j0:Nat) (Lg:It) (sl:List (Nat×AV)),cQ[j0]?=some Lg→m (i+j0)=false→m' (i+j0)=true→(∀x,x≠i+j0→m' x=m x)→
 (∀j it,cQ[j]?=some it→j0<j→m (i+j)=true→∀d,Lg.dst=some d→it.dst≠some d)→gH t (dJ m' i cQ sl)=gH t (eL Lg.dst Lg.v (dJ m i cQ sl))
 |[],_,_,_,_,h,_,_,_,_=>by simp at h
 |it::r,i,0,Lg,sl,h,h1,h2,h3,h4=>by
  simp at h;subst h
  simp only [Nat.add_zero] at h1 h2
  simp only [dJ,h1,h2,cond_true,cond_false]
  rw [kM (m:=m') (m':=m) r (i+1) _ (fun j _=>h3 _ (by omega)),nQ]
  by_cases hd:it.dst=some t
  ·rw [if_pos hd,Ab r (i+1) _ (fun j it' hj UP=>?_),nQ,if_pos hd]
   cases hq:m (i+1+j) with
   |false=>rfl
   |true=>exact absurd UP (h4 (j+1) it' (by simpa using hj) (by omega) (by rw [show i+(j+1)=i+1+j by omega];exact hq) t hd)
  rw [if_neg hd]
  exact qd r (i+1) _ _ (by rw [nQ,if_neg hd]) (fun _ _ _ _=>rfl)
 |it::r,i,j0+1,Lg,sl,h,h1,h2,h3,h4=>by
  simp only [dJ]
  rw [h3 i (by omega)]
  exact Ad r (i+1) j0 Lg _ (by simpa using h) (by rw [show i+1+j0=i+(j0+1) by omega];exact h1) (by rw [show i+1+j0=i+(j0+1) by omega];exact h2)
   (fun x hx=>h3 x (by omega)) (fun j it' hj hlt hm=>h4 (j+1) it' (by simpa using hj) (by omega) (by rw [show i+(j+1)=i+1+j by omega];exact hm))
def kN:Nat→List It→Prop
 |_,[]=>True
 |k,t::r=>match t.bi with
  |some (x,_)=>x=k∧kN (k+1) r
  |none=>kN k r
theorem kN.ge:∀{cQ:List It} {k:Nat},kN k cQ→∀{j:Nat} {it:It} {x:Nat} {cs:aA},cQ[j]?=some it→it.bi=some (x,cs)→k≤x
 |[],_,_,_,_,_,_,h,_=>by simp at h
 |t::r,k,hk,0,it,x,cs,h,hb=>by
  simp at h;subst h
  simp only [kN,hb] at hk
  omega
 |t::r,k,hk,j+1,it,x,cs,h,hb=>by
  simp only [kN] at hk
  split at hk
  ·have:=hk.2.ge (j:=j) (by simpa using h) hb;omega
  exact kN.ge hk (j:=j) (by simpa using h) hb
theorem kN.apart:∀{cQ:List It} {k:Nat},kN k cQ→∀{j j':Nat} {it it':It} {x x':Nat} {cs cs':aA},cQ[j]?=some it→it.bi=some (x,cs)→cQ[j']?=some it'→it'.bi=some (x',cs')→j≠j'→x≠x'
 |[],_,_,_,_,_,_,_,_,_,_,h,_,_,_,_=>by simp at h
 |t::r,k,hk,0,0,_,_,_,_,_,_,_,_,_,_,hne=>absurd rfl hne
 |t::r,k,hk,0,j'+1,it,it',x,x',cs,cs',h,hb,h',hb',_=>by
  simp at h;subst h
  simp only [kN,hb] at hk
  have:=hk.2.ge (j:=j') (by simpa using h') hb';omega
 |t::r,k,hk,j+1,0,it,it',x,x',cs,cs',h,hb,h',hb',_=>by
  simp at h';subst h'
  simp only [kN,hb'] at hk
  have:=hk.2.ge (j:=j) (by simpa using h) hb;omega
 |t::r,k,hk,j+1,j'+1,it,it',x,x',cs,cs',h,hb,h',hb',hne=>by
  have hk':∃k',kN k' r:=by
   simp only [kN] at hk
   split at hk
   ·exact ⟨_,hk.2⟩
   exact ⟨_,hk⟩
  obtain ⟨k',hk'⟩:=hk'
  exact kN.apart hk' (j:=j) (j':=j') (by simpa using h) hb (by simpa using h') hb' (by omega)
theorem CK {m:Nat→Bool} {x:Nat}:∀(cQ:List It) (i:Nat) (bx:List aA),(∀j it y cs,cQ[j]?=some it→m (i+j)=true→it.bi=some (y,cs)→y≠x)→(fk m i cQ bx)[x]?=bx[x]?
 |[],_,_,_=>rfl
 |t::r,i,bx,h=>by
  simp only [fk]
  rw [CK r (i+1) _ (fun j it y cs hj hm hb=>h (j+1) it y cs (by simpa using hj) (by rw [show i+(j+1)=i+1+j by omega];exact hm) hb)]
  cases hm:m i with
  |false=>rfl
  |true=>
   simp only [cond_true,qc]
   split
   ·rename_i k cs hb
    have:=h 0 t k cs rfl (by simpa using hm) hb
    rw [List.getElem?_set_ne this]
   rfl
theorem CL {m:Nat→Bool} {x:Nat} {B:aA}:∀(cQ:List It) (i:Nat) (bx:List aA),(∀j it y cs,cQ[j]?=some it→m (i+j)=true→it.bi=some (y,cs)→y≠x)→fk m i cQ (bx.set x B)=(fk m i cQ bx).set x B
 |[],_,_,_=>rfl
 |t::r,i,bx,h=>by
  simp only [fk]
  rw [←CL r (i+1) _ (fun j it y cs hj hm hb=>h (j+1) it y cs (by simpa using hj) (by rw [show i+(j+1)=i+1+j by omega];exact hm) hb)]
  congr 1
  cases hm:m i with
  |false=>rfl
  |true=>
   simp only [cond_true,qc]
   split
   ·rename_i k cs hb
    have:=h 0 t k cs rfl (by simpa using hm) hb
    rw [List.set_comm _ _ (Ne.symm this)]
   rfl
theorem Ae {m m':Nat→Bool}:∀(cQ:List It) (i j0:Nat) (Lg:It) (bx:List aA),cQ[j0]?=some Lg→m (i+j0)=false→m' (i+j0)=true→(∀x,x≠i+j0→m' x=m x)→
 (∀j it y cs x cs0,cQ[j]?=some it→j≠j0→it.bi=some (y,cs)→Lg.bi=some (x,cs0)→y≠x)→fk m' i cQ bx=qc Lg (fk m i cQ bx)
 |[],_,_,_,_,h,_,_,_,_=>by simp at h
 |t::r,i,0,Lg,bx,h,h1,h2,h3,h4=>by
  simp at h;subst h
  simp only [Nat.add_zero] at h1 h2
  simp only [fk,h1,h2,cond_true,cond_false]
  rw [m5 (m:=m') (m':=m) r (i+1) _ (fun j _=>h3 _ (by omega))]
  unfold qc
  split
  ·rename_i k cs hb
   exact CL r (i+1) bx (fun j it y cs' hj _ hb'=>h4 (j+1) it y cs' k cs (by simpa using hj) (by omega) hb' hb)
  rfl
 |t::r,i,j0+1,Lg,bx,h,h1,h2,h3,h4=>by
  simp only [fk]
  rw [h3 i (by omega)]
  exact Ae r (i+1) j0 Lg _ (by simpa using h) (by rw [show i+1+j0=i+(j0+1) by omega];exact h1) (by rw [show i+1+j0=i+(j0+1) by omega];exact h2)
   (fun x hx=>h3 x (by omega)) (fun j it y cs x cs0 hj hne=>h4 (j+1) it y cs x cs0 (by simpa using hj) (by omega))
theorem Gb {m:Nat→Bool} {aQ:List aA}:∀(cQ:List It) (i:Nat) (bx:List aA),lE aQ bx→(∀(j:Nat) (it:It) (y:Nat) (cs:aA),cQ[j]?=some it→it.bi=some (y,cs)→aQ[y]?=some .bw)→lE aQ (fk m i cQ bx)
 |[],_,_,h,_=>h
 |t::r,i,bx,h,hu=>by
  simp only [fk]
  refine Gb r (i+1) _ ?_ (fun j it y cs hj=>hu (j+1) it y cs (by simpa using hj))
  cases m i with
  |false=>exact h
  |true=>
   simp only [cond_true,qc]
   split
   ·rename_i k cs hb
    have h0:=hu 0 t k cs rfl hb
    intro x b hx dW
    by_cases hxk:k=x
    ·subst hxk;rw [h0] at hx;simp at hx;subst hx;simp [aA.born] at dW
    rw [List.getElem?_set_ne hxk];exact h x b hx dW
   exact h
end Dem
end
section
open Go
namespace Dem
theorem uO:∀(l:List Oper) (acc:List Nat),(cU l acc).take acc.length=acc
 |[],acc=>by simp [cU]
 |o::r,acc=>by
  have h:=uO r (acc++[rB acc o])
  simp only [cU]
  have:=congrArg (List.take acc.length) h
  simpa [List.take_take] using this
theorem xL:∀(l:List Oper) (acc:List Nat) (j:Nat) (o:Oper),l[j]?=some o→(cU l acc)[acc.length+j]?=some (rB ((cU l acc).take (acc.length+j)) o)
 |[],_,_,_,h=>by simp at h
 |p::r,acc,0,o,h=>by
  simp at h;subst h
  simp only [cU,Nat.add_zero]
  have h1:=uO r (acc++[rB acc p])
  have h2:=congrArg (List.take acc.length) h1
  have h3:=congrArg (fun l=>l[acc.length]?) h1
  simp only [List.take_take,List.length_append,List.length_cons,List.length_nil,Nat.zero_add] at h2 h3
  rw [Nat.min_eq_left (by omega)] at h2
  rw [List.getElem?_take,if_pos (by omega)] at h3
  rw [h3,h2]
  simp
 |p::r,acc,j+1,o,h=>by
  have:=xL r (acc++[rB acc p]) j o (by simpa using h)
  simp only [List.length_append,List.length_cons,List.length_nil,Nat.zero_add] at this
  simp only [cU]
  rw [show acc.length+(j+1)=acc.length+1+j by omega]
  exact this
theorem xM {acc:List Nat} {i:Nat}:∀(es:List Edge) (s:Nat),(es.foldl (fun s e=>bif Region.binds .any e then s ||| 2^e.on ||| acc.getD e.on 0 else s) s).testBit i=true→
 s.testBit i=true∨∃e∈es,Region.binds .any e=true∧(e.on=i∨(acc.getD e.on 0).testBit i=true)
 |[],s,h=>.inl h
 |e::es,s,h=>by
  rw [List.foldl_cons] at h
  rcases xM es _ h with h1|⟨e',h1,h2⟩
  ·cases hb:Region.binds .any e with
   |false=>rw [hb] at h1;exact .inl h1
   |true=>
    rw [hb] at h1
    simp only [cond_true,Nat.testBit_or,Bool.or_eq_true] at h1
    rcases h1 with (h1|h1)|h1
    ·exact .inl h1
    ·refine .inr ⟨e,by simp,hb,.inl ?_⟩
     rw [Nat.testBit_two_pow] at h1
     simpa using h1
    exact .inr ⟨e,by simp,hb,.inr h1⟩
  exact .inr ⟨e',by simp [h1],h2⟩
section
variable {ops:Array Oper}
def Down (ops:Array Oper) (m:Nat→Bool):Prop:=∀x o,ops[x]?=some o→m x=true→∀e∈o.after,Region.binds .any e=true→m e.on=true
theorem closed {m:Nat→Bool} (hd:Down ops m):∀(j:Nat) (o:Oper),ops[j]?=some o→(∀e∈o.after,Region.binds .any e=true→m e.on=true)→∀i,((cU ops.toList []).getD j 0).testBit i=true→m i=true:=by
 intro j
 induction j using Nat.strongRecOn with
 |_ j ih=>
  intro o ho hp i hi
  have wk:=xL ops.toList [] j o (by simpa using ho)
  simp only [List.length_nil,Nat.zero_add] at wk
  rw [List.getD_eq_getElem?_getD,wk] at hi
  simp only [Option.getD_some,rB] at hi
  rcases xM _ _ hi with h|⟨e,he,hb,h|h⟩
  ·simp at h
  ·subst h;exact hp e (by simpa using he) hb
  have hlt:e.on<j:=by
   rcases Nat.lt_or_ge e.on j with h'|h'
   ·exact h'
   rw [List.getD_eq_getElem?_getD,List.getElem?_take,if_neg (by omega)] at h
   simp at h
  have hh:((cU ops.toList []).getD e.on 0).testBit i=true:=by
   rw [List.getD_eq_getElem?_getD,List.getElem?_take,if_pos hlt] at h
   rw [List.getD_eq_getElem?_getD];exact h
  have hj:j<ops.size:=(Array.getElem?_eq_some_iff.1 ho).1
  have ho':ops[e.on]?=some ops[e.on]:=by simp [show e.on<ops.size by omega]
  exact ih e.on hlt _ ho' (hd _ _ ho' (hp e (by simpa using he) hb)) i hh
theorem qf {m:Nat} {o:Oper}:∀{n:Nat},gW.rC ops m o n=true→∀j,j<n→m.testBit j=true∨∃p,ops[j]?=some p∧p.apart ops o=true
 |0,_,j,hj=>by omega
 |n+1,h,j,hj=>by
  simp only [gW.rC,Bool.and_eq_true,Bool.or_eq_true] at h
  by_cases hjn:j=n
  ·subst hjn
   refine h.1.imp id (fun h1=>?_)
   split at h1
   ·rename_i p hp;exact ⟨p,hp,h1⟩
   simp at h1
  exact qf h.2 j (by omega)
theorem lF {b:List Nat}:∀{l:List Oper} {i:Nat},gW ops b i l=true→∀j o,l[j]?=some o→
 (∀e∈o.after,Region.binds .any e=true→e.on<i+j)∧∀k,k<i+j→(b.getD (i+j) 0).testBit k=true∨∃p,ops[k]?=some p∧p.apart ops o=true
 |[],_,_,j,o,ho=>by simp at ho
 |q::r,i,h,0,o,ho=>by
  simp at ho;subst ho
  simp only [gW,Bool.and_eq_true] at h
  refine ⟨fun e he hb=>?_,fun k hk=>qf h.1.2 k hk⟩
  have:=List.all_eq_true.1 h.1.1 e (by simpa using he)
  simpa [hb,Nat.blt_eq] using this
 |q::r,i,h,j+1,o,ho=>by
  simp only [gW,Bool.and_eq_true] at h
  have:=lF h.2 j o (by simpa using ho)
  rw [show i+(j+1)=i+1+j by omega]
  exact this
theorem D7 {b:List Nat} {q:Nat} (h:barrier b q=true):(∀i,i<q→(b.getD q 0).testBit i=true)∧∀i,q<i→i<b.length→(b.getD i 0).testBit q=true:=by
 simp only [barrier,Bool.and_eq_true] at h
 obtain ⟨h1,h2⟩:=h
 refine ⟨fun i hi=>?_,fun i hi hl=>?_⟩
 ·rw [Nat.eq_of_beq_eq_true h1]
  simpa using hi
 refine List.all_eq_true.1 h2 _ ?_
 rw [List.getD_eq_getElem?_getD,List.getElem?_eq_getElem hl,Option.getD_some]
 rw [List.mem_iff_getElem?]
 refine ⟨i-(q+1),?_⟩
 rw [List.getElem?_drop,show q+1+(i-(q+1))=i by omega,List.getElem?_eq_getElem hl]
theorem qg:∀(l:List Oper) (acc:List Nat),(cU l acc).length=acc.length+l.length
 |[],acc=>by simp [cU]
 |o::r,acc=>by simp only [cU];rw [qg r];simp;omega
end
end Dem
end
