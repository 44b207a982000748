/- Parts of a proof, joined. -/
import Derived.Test.YtjnbpclolnmimaaGreatDoorJ06
import Derived.ChangeSame
import Derived.ChangeArms
import Derived.OpenShut
import Derived.WideShapes
import Derived.Deep.Slices
import Derived.Orders
set_option linter.unusedSimpArgs false
set_option linter.unusedVariables false
set_option maxRecDepth 100000
set_option maxHeartbeats 4000000
section
open Go Go.Deep
namespace Dem
inductive PT where
 |bool
 |int (k:IntKind)
 |str
 |sl (es:List PT)
def P6 (r:TypeId→Option (List PT)) (sz:TypeId→Nat):List Field→Nat→Option (List PT)
 |[],_=>some []
 |f::fs,off=>if f.offset=off then match r f.type,P6 r sz fs (off+sz f.type) with
  |some a,some b=>if a.length=sz f.type then some (a++b) else none
  |_,_=>none else none
def G2 (P:Program):Nat→TypeId→Option (List PT)
 |0,_=>none
 |n+1,t=>match P.underlying t with
  |some .bool=>some [.bool]
  |some (.int k)=>some [.int k]
  |some .string=>some [.str]
  |some (.slice e)=>match G2 P n e with
   |some ps=>if ps.length=P.cellsOf e∧0<ps.length then some [.sl ps] else none
   |none=>none
  |some (.struct fs)=>match P6 (G2 P n) P.cellsOf fs.toList 0 with
   |some ps=>if ps.length=P.cellsOf t then some ps else none
   |none=>none
  |some (.array k e)=>match G2 P n e with
   |some ps=>if ps.length=P.cellsOf e∧k*ps.length=P.cellsOf t then some (List.replicate k ps).flatten else none
   |none=>none
  |_=>none
mutual
def rm:PT→D→Prop
 |.bool,d=>∃b,d=.bool b
 |.int k,d=>∃n,d=.int k n∧(Lit.int k n).wf=true
 |.str,d=>∃s:List UInt8,d=.str s∧s.length≤maxLen
 |.sl ps,d=>∃es:List (List D),d=.sl es∧es.length≤maxLen∧∀r∈es,cG ps r
def cG:List PT→List D→Prop
 |[],ds=>ds=[]
 |p::ps,ds=>∃d r,ds=d::r∧rm p d∧cG ps r
end
theorem cG.length:∀{ps:List PT} {ds:List D},cG ps ds→ds.length=ps.length
 |[],ds,h=>by simp only [cG] at h;subst h;rfl
 |p::ps,ds,h=>by
  simp only [cG] at h
  obtain ⟨d,r,rfl,_,h2⟩:=h
  simp [cG.length h2]
theorem cG.append:∀{ps qs:List PT} {ds es:List D},cG ps ds→cG qs es→cG (ps++qs) (ds++es)
 |[],qs,ds,es,h,g=>by simp only [cG] at h;subst h;exact g
 |p::ps,qs,ds,es,h,g=>by
  simp only [cG] at h
  obtain ⟨d,r,rfl,h1,h2⟩:=h
  simp only [List.cons_append,cG]
  exact ⟨d,r++es,rfl,h1,h2.append g⟩
theorem cq.append {w:World} {ok:Nat→Prop}:∀{ds es:List D} {vs us:List Value},cq w ok ds vs→cq w ok es us→cq w ok (ds++es) (vs++us)
 |[],es,vs,us,h,g=>by simp only [cq] at h;subst h;exact g
 |d::ds,es,vs,us,h,g=>by
  simp only [cq] at h
  obtain ⟨v,r,rfl,h1,h2⟩:=h
  simp only [List.cons_append,cq]
  exact ⟨v,r++us,rfl,h1,h2.append g⟩
theorem cq.row {w:World} {ok:Nat→Prop} {aB:Nat}:∀{ds:List D} {vs:List Value} {off:Nat},cq w ok ds vs→(∀i,i<vs.length→w.cell? ⟨aB,off+i,none⟩=vs[i]?)→aY w ok aB ds off
 |[],_,_,_,_=>by simp [aY]
 |d::ds,vs,off,h,hc=>by
  simp only [cq] at h
  obtain ⟨v,r,rfl,h1,h2⟩:=h
  simp only [aY]
  refine ⟨⟨v,by simpa using hc 0 (by simp),h1⟩,h2.row fun i hi=>?_⟩
  have:=hc (i+1) (by simp;omega)
  simpa [Nat.add_assoc,Nat.add_comm 1 i] using this
mutual
def fI {H:Type}:DataW H→List D
 |.lit (.bool b)=>[.bool b]
 |.lit (.int k n)=>[.int k n]
 |.lit (.string s)=>[.str s]
 |.nil=>[.sl []]
 |.slice elems _=>[.sl (vB elems)]
 |.agg parts=>ij parts
 |_=>[]
def vB {H:Type}:List (DataW H)→List (List D)
 |[]=>[]
 |d::r=>fI d::vB r
def ij {H:Type}:List (DataW H)→List D
 |[]=>[]
 |d::r=>fI d++ij r
end
theorem vC {H:Type}:∀l:List (DataW H),vB l=l.map fI
 |[]=>rfl
 |d::r=>by simp [vB,vC r]
theorem Dw {w:World} {ok:Nat→Prop} {aB sz:Nat}:∀(n off:Nat) (f:Nat→List D),(∀i,i<n→aY w ok aB (f i) (off+i*sz)∧(f i).length=sz)→av w ok aB sz ((List.range n).map f) off
 |0,off,_,_=>by simp [av]
 |n+1,off,f,h=>by
  obtain ⟨h1,h2⟩:=h 0 (by omega)
  rw [List.range_succ_eq_map,List.map_cons,List.map_map]
  simp only [av]
  refine ⟨h2,by simpa using h1,Dw n (off+sz) _ fun i hi=>?_⟩
  obtain ⟨k1,k2⟩:=h (i+1) (by omega)
  rw [show off+sz+i*sz=off+(i+1)*sz by rw [Nat.succ_mul];omega]
  exact ⟨k1,k2⟩
theorem Nz {w:World} {a:Addr} {v:Value} (h:w.cell? a=some v):a.spot=none:=by
 unfold World.cell? at h
 split at h
 ·split at h
  ·cases h
  rename_i hs;simpa using hs
 cases h
theorem add_eq {a:Addr} (h:a.spot=none) (n:Nat):a.add n=⟨a.block,a.off+n,none⟩:=by
 unfold Addr.add
 split
 ·rename_i h0;subst h0;cases a;simp_all
 rfl
theorem AY {α:Type} (cs:List α) (off a b:Nat):(cs.drop off).take (a+b)=(cs.drop off).take a++(cs.drop (off+a)).take b:=by
 rw [List.take_add,List.drop_drop]
section
variable {H:Type} {enc:TypeId×Value→H} {P:Program} {w:World} {spare:Nat→Bool} {held:Bool} {ok:Nat→Prop}
theorem AZ {r:TypeId→Option (List PT)} {n:Nat} {cs:List Value} (hr:∀t cs x ps,DataW.trod enc P w 0 spare held n t cs=some x→r t=some ps→cq w ok (fI x.1) cs∧cG ps (fI x.1)):
 ∀(fs:List Field) (xs:List (DataW H×List MemPlace)) (off:Nat) (ps:List PT),P6 r P.cellsOf fs off=some ps→xs.length=fs.length→
  (∀(i:Nat) (f:Field),fs[i]?=some f→DataW.trod enc P w 0 spare held n f.type ((cs.drop f.offset).take (P.cellsOf f.type))=xs[i]?)→
  cq w ok (ij (xs.map (·.1))) ((cs.drop off).take ps.length)∧cG ps (ij (xs.map (·.1)))
 |[],xs,off,ps,h,hl,_=>by
  simp only [P6,osI] at h;subst h
  obtain rfl:xs=[]:=by simpa using hl
  exact ⟨by simp [cq,ij],by simp [cG,ij]⟩
 |f::fs,[],off,ps,h,hl,hx=>by simp at hl
 |f::fs,x::xs,off,ps,h,hl,hx=>by
  simp only [P6] at h
  split at h
  ·rename_i ho
   split at h
   ·rename_i a b ha hb
    split at h
    ·rename_i hla
     simp only [osI] at h;subst h
     have hx0:=hx 0 f rfl
     obtain ⟨g1,g2⟩:=hr _ _ _ _ (by simpa using hx0) ha
     obtain ⟨k1,k2⟩:=AZ hr fs xs _ b hb (by simpa using hl) (fun i f hf=>by simpa using hx (i+1) f (by simpa using hf))
     rw [List.length_append,AY]
     rw [ho,←hla] at g1
     rw [←hla] at k1
     simp only [List.map_cons,ij]
     exact ⟨g1.append k1,g2.append k2⟩
    cases h
   cases h
  cases h
theorem Dx {r:List PT} {cs:List Value}:∀(k off:Nat) (xs:List (DataW H×List MemPlace)),xs.length=k→(∀i x,xs[i]?=some x→cq w ok (fI x.1) ((cs.drop (off+i*r.length)).take r.length)∧cG r (fI x.1))→
 cq w ok (ij (xs.map (·.1))) ((cs.drop off).take (k*r.length))∧cG (List.replicate k r).flatten (ij (xs.map (·.1)))
 |0,off,xs,hl,_=>by
  obtain rfl:xs=[]:=by simpa using hl
  exact ⟨by simp [cq,ij],by simp [cG,ij]⟩
 |k+1,off,[],hl,h=>by simp at hl
 |k+1,off,x::xs,hl,h=>by
  obtain ⟨g1,g2⟩:=h 0 x rfl
  obtain ⟨k1,k2⟩:=Dx (r:=r) (cs:=cs) k (off+r.length) xs (by simpa using hl) (fun i x hx=>by
   obtain ⟨k1,k2⟩:=h (i+1) x (by simpa using hx)
   rw [show off+r.length+i*r.length=off+(i+1)*r.length by rw [Nat.succ_mul];omega]
   exact ⟨k1,k2⟩)
  rw [show (k+1)*r.length=r.length+k*r.length by rw [Nat.succ_mul];omega,AY,List.replicate_succ,List.flatten_cons]
  simp only [List.map_cons,ij]
  exact ⟨cq.append (by simpa using g1) k1,g2.append k2⟩
theorem oB (hok:∀aB,aB<w.heap.size→ok aB):
 ∀(n m:Nat) (t:TypeId) (cs:List Value) (x:DataW H×List MemPlace) (ps:List PT),DataW.trod enc P w 0 spare held m t cs=some x→G2 P n t=some ps→cq w ok (fI x.1) cs∧cG ps (fI x.1)
 |0,_,_,_,_,_,_,h=>by simp [G2] at h
 |n+1,m,t,cs,x,ps,h,hp=>by
  have ih:=oB hok n
  rw [G2] at hp
  cases hu:P.underlying t with
  |none=>simp [hu] at hp
  |some d=>
   simp only [hu] at hp
   cases d<;>(try (cases hp;done))<;>simp only at hp
   case bool=>
    simp only [osI] at hp;subst hp
    obtain ⟨b,rfl,rfl⟩:=DataW.trod_bool hu h
    exact ⟨by simp [cq,aK,fI],by simp [cG,rm,fI]⟩
   case int k=>
    simp only [osI] at hp;subst hp
    obtain ⟨z,rfl,rfl,hw⟩:=DataW.trod_int hu h
    exact ⟨by simp [cq,aK,fI],by simpa [cG,rm,fI] using hw⟩
   case string=>
    simp only [osI] at hp;subst hp
    obtain ⟨s,rfl,rfl,hs⟩:=DataW.trod_string hu h
    refine ⟨by simp [cq,aK,fI],?_⟩
    simp only [cG,rm,fI]
    exact ⟨_,_,rfl,⟨_,rfl,by rw [Array.length_toList];exact hs⟩,rfl⟩
   case slice e=>
    split at hp
    ·rename_i qs hq
     split at hp
     ·rename_i hl
      simp only [osI] at hp;subst hp
      rcases open_slice hu h with ⟨rfl,rfl⟩|⟨a,len,cap,mm,n',Dd,Pl,rfl,hb,hlc,hm,NA,rfl,hx⟩
      ·exact ⟨by simp [cq,aK,fI],by simp [cG,rm,fI]⟩
      have hlen:len≤mm:=by rw [NA];split<;>omega
      have hel:∀i,i<len→∃cs',w.cells? 0 (a.add (i*P.cellsOf e)) (P.cellsOf e)=some cs'∧cq w ok (fI (Dd i)) cs'∧cG qs (fI (Dd i)):=by
       intro i hi
       obtain ⟨cs',hc,Yf⟩:=hx i (by omega)
       exact ⟨cs',hc,ih _ _ _ _ _ Yf hq⟩
      have hfl:fI (.slice ((List.range len).map Dd) ((List.range (mm-len)).map fun j=>Dd (len+j)))=[.sl ((List.range len).map fun i=>fI (Dd i))]:=by
       simp [fI,vC,List.map_map,Function.comp_def]
      simp only [hfl]
      have Wt:cG [.sl qs] [.sl ((List.range len).map fun i=>fI (Dd i))]:=by
       simp only [cG,rm]
       refine ⟨_,_,rfl,⟨_,rfl,by simp;omega,?_⟩,rfl⟩
       intro r hr
       obtain ⟨i,hi,rfl⟩:=List.mem_map.1 hr
       obtain ⟨cs',_,_,g⟩:=hel i (by simpa using hi)
       exact g
      refine ⟨?_,Wt⟩
      cases len with
      |zero=>simp [cq,aK]
      |succ len=>
       have hsp:a.spot=none:=by
        obtain ⟨cs',hc,Yf⟩:=hel 0 (by omega)
        obtain ⟨_,hl',hcell⟩:=World.cells?_some hc
        have h0:=hcell 0 (by omega)
        rw [List.getElem?_eq_getElem (by omega)] at h0
        have:=Nz h0
        simpa [Addr.add] using this
       have aa2:a.block<w.heap.size:=by
        obtain ⟨cs',hc,Yf⟩:=hel 0 (by omega)
        have:=World.cells?_block hc (by omega)
        simpa [Addr.add] using this
       have g:=Dw (w:=w) (ok:=ok) (aB:=a.block) (sz:=P.cellsOf e) (len+1) a.off (fun i=>fI (Dd i)) (fun i hi=>by
        obtain ⟨cs',hc,g1,g2⟩:=hel i hi
        obtain ⟨_,hl',hcell⟩:=World.cells?_some hc
        refine ⟨g1.row (fun j hj=>?_),by rw [g2.length];exact hl.1⟩
        have:=hcell j (by omega)
        rw [add_eq hsp,add_eq rfl] at this
        exact this)
       simp only [cq,aK]
       exact ⟨_,_,rfl,⟨some a,cap,by simp,by simp;omega,.inr ⟨a.block,a.off,P.cellsOf e,by cases a;simp_all,hok _ aa2,g⟩⟩,rfl⟩
     cases hp
    cases hp
   case struct fs=>
    split at hp
    ·rename_i qs hq
     split at hp
     ·rename_i hl
      simp only [osI] at hp;subst hp
      obtain ⟨xs,m',hm,rfl,S6,hxl,hxs⟩:=DataW.trod_struct hu h
      have hf:∀(i:Nat) (f:Field),fs.toList[i]?=some f→DataW.trod enc P w 0 spare held m' f.type ((cs.drop f.offset).take (P.cellsOf f.type))=xs[i]?:=by
       intro i f hf
       exact hxs i f (by simpa using hf)
      obtain ⟨g1,g2⟩:=AZ (ok:=ok) (fun t cs x ps=>ih m' t cs x ps) fs.toList xs 0 _ hq (by simpa using hxl) hf
      simp only [fI]
      refine ⟨?_,g2⟩
      have e:(cs.drop 0).take qs.length=cs:=by rw [List.drop_zero,hl,←S6,List.take_length]
      rwa [e] at g1
     cases hp
    cases hp
   case array k e=>
    split at hp
    ·rename_i qs hq
     split at hp
     ·rename_i hl
      simp only [osI] at hp;subst hp
      obtain ⟨xs,m',hm,rfl,S6,hxl,hxs⟩:=DataW.trod_array hu h
      obtain ⟨g1,g2⟩:=Dx (w:=w) (ok:=ok) (r:=qs) (cs:=cs) k 0 xs hxl (fun i x hi=>by
       have hi3:i<xs.length:=(List.getElem?_eq_some_iff.1 hi).1
       have:=hxs i (by omega)
       rw [hl.1,Nat.zero_add]
       rw [hi] at this
       exact ih _ _ _ _ _ this hq)
      simp only [fI]
      refine ⟨?_,g2⟩
      have e:(cs.drop 0).take (k*qs.length)=cs:=by rw [List.drop_zero,hl.2,←S6,List.take_length]
      rwa [e] at g1
     cases hp
    cases hp
end
end Dem
end
section
open Go
namespace Dem
section
variable {T:Nat→Option TI} {G:Nat→Option (List D)} {bx aG:List ax}
def lI (bx aG:List ax):Prop:=∀(i:Nat) (b:ax),bx[i]?=some b→b.born=true→aG[i]?=some b
theorem lI.refl (bx:List ax):lI bx bx:=fun _ _ h _=>h
theorem P7 (h:lI bx aG) {x:AV} {y:D} (hx:x.tD bx=some y):x.tD aG=some y:=by
 cases x with
 |ow b sz n=>
  simp only [AV.tD] at hx ⊢
  split at hx
  ·rename_i s es hb
   rw [h _ _ hb rfl];exact hx
  ·rename_i s es hb
   rw [h _ _ hb rfl];exact hx
  simp at hx
 |fn f cs=>cases cs with
  |nil=>exact hx
  |cons c cs=>exact hx
 |_=>exact hx
theorem Mp (h:lI bx aG):∀{xs:List AV} {ys:List D},iJ bx xs=some ys→iJ aG xs=some ys
 |[],ys,hx=>hx
 |x::xs,ys,hx=>by
  simp only [iJ] at hx ⊢
  split at hx
  ·rename_i y ys' hy hys
   rw [P7 h hy,Mp h hys];exact hx
  simp at hx
theorem sF (h:lI bx aG) {x:AV} {es:List (List D)} (hx:x.rows bx=some es):x.rows aG=some es:=by
 cases x with
 |d y=>cases y<;>exact hx
 |ow b sz n=>
  simp only [AV.rows] at hx ⊢
  split at hx
  ·rename_i s es hb
   rw [h _ _ hb rfl];exact hx
  ·rename_i s es hb
   rw [h _ _ hb rfl];exact hx
  simp at hx
 |vw b sz off n c ex=>
  simp only [AV.rows] at hx ⊢
  split at hx
  ·rename_i s es hb
   rw [h _ _ hb rfl];exact hx
  ·rename_i s es hb
   rw [h _ _ hb rfl];exact hx
  simp at hx
 |_=>exact hx
theorem VE (h:lI bx aG) {x y:AV} (hx:fz bx x=some y):fz aG x=some y:=by
 cases x with
 |ow b sz n=>
  simp only [fz,Option.map_eq_some_iff] at hx ⊢
  obtain ⟨q,h1,h2⟩:=hx
  exact ⟨q,P7 h h1,h2⟩
 |vw b sz off n c ex=>
  simp only [fz,Option.map_eq_some_iff] at hx ⊢
  obtain ⟨q,h1,h2⟩:=hx
  exact ⟨q,sF h h1,h2⟩
 |_=>exact hx
theorem P8 (h:lI bx aG):∀{xs ys:List AV},JD bx xs=some ys→JD aG xs=some ys
 |[],ys,hx=>hx
 |x::xs,ys,hx=>by
  simp only [JD] at hx ⊢
  split at hx
  ·rename_i y ys' hy hys
   rw [VE h hy,P8 h hys];exact hx
  simp at hx
theorem EV (h:lI bx aG):∀{xs ys:List AV},eP bx xs=some ys→eP aG xs=some ys
 |[],ys,hx=>hx
 |x::xs,ys,hx=>by
  simp only [eP] at hx ⊢
  split at hx
  ·rename_i y ys' hy hys
   have:qN aG x=some y:=by
    cases x with
    |agg cs=>
     simp only [qN,Option.map_eq_some_iff] at hy ⊢
     obtain ⟨q,h1,h2⟩:=hy
     exact ⟨q,P8 h h1,h2⟩
    |_=>simp only [qN] at hy ⊢;exact VE h hy
   rw [this,EV h hys];exact hx
  simp at hx
theorem P9 (h:lI bx aG) {ti:TI} {a:AV} {r:R} (hx:qd ti a bx=some r):qd ti a aG=some r:=by
 cases a with
 |ptr b off=>
  simp only [qd] at hx ⊢
  split at hx
  ·rename_i cs hb
   rw [h _ _ hb rfl];exact hx
  simp at hx
 |rp b sz i j=>
  simp only [qd] at hx ⊢
  split at hx
  ·rename_i s es hb
   rw [h _ _ hb rfl];exact hx
  ·rename_i s es hb
   rw [h _ _ hb rfl];exact hx
  simp at hx
 |_=>exact hx
theorem Tn (h:lI bx aG) {x v:AV} (hx:Al x bx=some v):Al x aG=some v:=by
 cases x with
 |d y=>cases y<;>exact hx
 |ow b sz n=>
  simp only [Al] at hx ⊢
  split at hx
  ·rename_i es hr
   rw [sF h hr];exact hx
  simp at hx
 |vw b sz off n c ex=>
  simp only [Al] at hx ⊢
  split at hx
  ·rename_i es hr
   rw [sF h hr];exact hx
  simp at hx
 |_=>exact hx
theorem Dy (h:lI bx aG) {size:Nat}:∀{ps:List (Nat×AV)} {rs:List (List D)},rowsOf bx size ps=some rs→rowsOf aG size ps=some rs
 |[],rs,hx=>hx
 |(i,v)::r,rs,hx=>by
  simp only [rowsOf] at hx ⊢
  split at hx
  ·rename_i vs hv
   split at hx
   ·rename_i ds Yr hd hr
    simp only [Mp h hd,Dy h hr];exact hx
   simp at hx
  simp at hx
theorem NB (h:lI bx aG) {t:Nat} {x:AV} {lo hi mx:Option Int} {c:Prop} {v:AV} (hx:qM T t x lo hi mx bx=some ⟨c,v,none⟩):qM T t x lo hi mx aG=some ⟨c,v,none⟩:=by
 unfold qM at hx ⊢
 split at hx
 ·split at hx
  ·exact hx
  ·split at hx
   ·rename_i es te hr hte
    simp only [sF h hr,hte]
    simp only [osI,R.mk.injEq] at hx ⊢
    refine ⟨hx.1,hx.2.1,?_⟩
    have h3:=hx.2.2
    generalize cA _=q at h3 ⊢
    cases q<;>simp at h3 ⊢
   simp at hx
  ·split at hx
   ·have hr:=‹AV.rows bx _=some _›
    have hte:=‹T _=some _›
    simp only [sF h hr,hte]
    simp only [osI,R.mk.injEq] at hx ⊢
    refine ⟨hx.1,hx.2.1,?_⟩
    have h3:=hx.2.2
    generalize cA _=q at h3 ⊢
    cases q<;>simp at h3 ⊢
   simp at hx
  ·exact hx
  ·split at hx
   ·split at hx
    ·simp at hx
    simp at hx
   simp at hx
  simp at hx
 simp at hx
theorem A2 (h:lI bx aG) {t n:Nat} {ps:List (Nat×AV)} {c:Prop} {v:AV} (hx:fG T t n ps bx=some ⟨c,v,none⟩):fG T t n ps aG=some ⟨c,v,none⟩:=by
 unfold fG at hx ⊢
 split at hx
 ·split at hx
  ·split at hx
   ·rename_i te hte
    generalize (Nat.beq ps.length n&&m9 0 ps&&Nat.ble (n*te.size) 16777216&&te.zero.cells?.isSome)=q at hx ⊢
    cases q with
    |false=>simp at hx
    |true=>
     simp only [cond_true] at hx ⊢
     split at hx
     ·rename_i rs hr
      simp only [Dy h hr]
      simp only [osI,R.mk.injEq] at hx ⊢
      refine ⟨hx.1,hx.2.1,?_⟩
      have h3:=hx.2.2
      generalize Gj _=q at h3 ⊢
      cases q<;>simp at h3 ⊢
     simp at hx
   simp at hx
  simp at hx
 simp at hx
theorem Qa (h:lI bx aG) {s d:Nat} {x:AV} {r:R} (hx:yD T s d x bx=some r):yD T s d x aG=some r:=by
 unfold yD at hx ⊢
 split at hx
 ·split at hx
  ·exact hx
  ·split at hx
   ·rename_i te es hte hr
    simp only [sF h hr,hte];exact hx
   simp at hx
  ·exact hx
  simp at hx
 simp at hx
theorem vD {t:Nat} {s x:AV} {r:R} (hx:lD T t s x bx=some r):r.bx≠none:=by
 unfold lD at hx
 split at hx
 ·split at hx
  ·split at hx
   ·rename_i te hte
    cases hz:eE te with
    |false=>simp [hz] at hx
    |true=>
    simp only [hz,cond_true] at hx
    split at hx
    ·split at hx
     ·simp only [osI] at hx;subst hx;simp
     ·split at hx
      ·simp at hx
      simp only [osI] at hx;subst hx;simp
     ·split at hx
      ·rename_i b _ _ _ _ _ _
       generalize sameBox _ x=q at hx
       cases q with
       |true=>simp at hx
       |false=>simp only [cond_false,osI] at hx;subst hx;simp
      simp at hx
     simp at hx
    simp at hx
   simp at hx
  simp at hx
 simp at hx
theorem G3 {ti:TI} {a v:AV} {r:R} (hx:tX ti a v bx=some r):r.bx≠none:=by
 unfold tX at hx
 split at hx
 ·simp at hx
 generalize Nat.beq _ _=q at hx
 cases q with
 |false=>simp at hx
 |true=>
 simp only [cond_true] at hx
 split at hx
 ·split at hx
  ·generalize Nat.ble _ _=q at hx
   cases q with
   |false=>simp at hx
   |true=>simp only [cond_true,osI] at hx;subst hx;simp
  simp at hx
 ·split at hx
  ·split at hx
   ·simp only [osI] at hx;subst hx;simp
   simp at hx
  simp at hx
 simp at hx
theorem G4 (h:lI bx aG) {b:Builtin} {args:List AV} {ats:List Nat} {c:Prop} {v:AV} (hx:iL T b args ats bx=some ⟨c,v,none⟩):iL T b args ats aG=some ⟨c,v,none⟩:=by
 unfold iL at hx ⊢
 split at hx
 ·split at hx
  ·split at hx
   ·exact hx
   ·exact hx
   ·split at hx
    ·rename_i v' hl
     simp only [Tn h hl];exact hx
    simp at hx
   simp at hx
  simp at hx
 ·exact hx
 ·exact hx
 ·split at hx
  ·split at hx
   ·simp at hx
   exact absurd rfl (vD hx)
  simp at hx
 simp at hx
theorem Kc {te:TI} {n m:Int} {bx:List ax} {c:Prop} {v:AV} {b:Option (List ax)} (h:Gk te n m bx=some ⟨c,v,b⟩):b≠none:=by
 unfold Gk at h
 split at h
 ·cases hz:eE te with
  |false=>simp [hz] at h
  |true=>simp only [hz,cond_true,osI,R.mk.injEq] at h;obtain ⟨_,_,rfl⟩:=h;simp
 simp at h
theorem Qb (h:lI bx aG) {ev:Operand→AV} {op:Op} {c:Prop} {v:AV} (hx:nh T ev op bx=some ⟨c,v,none⟩):nh T ev op aG=some ⟨c,v,none⟩:=by
 unfold nh at hx ⊢
 split at hx
 ·exact hx
 ·exact hx
 ·split at hx
  ·exact absurd rfl (Kc hx)
  simp at hx
 ·split at hx
  ·exact hx
  ·exact hx
  ·split at hx
   ·simp only [Db] at hx
    split at hx
    ·split at hx
     ·generalize (Nat.beq _ _&&Nat.beq _ _)=q at hx
      cases q<;>simp at hx
     simp at hx
    simp at hx
   simp at hx
  ·split at hx
   ·simp only [EC] at hx
    split at hx
    ·split at hx
     ·rename_i te _ _ _ _ _ _ _ _ _ _ _ _ _ _ _
      cases hq:(Nat.beq _ _&&Nat.beq _ _&&eE _:Bool)<;>rw [hq] at hx<;>simp at hx
     simp at hx
    simp at hx
   simp at hx
  ·split at hx
   ·split at hx
    ·simp only [L6] at hx
     split at hx
     ·generalize (Nat.beq _ _&&Nat.beq _ _&&eE _&&_)=q at hx
      cases q<;>simp at hx
     simp at hx
    simp at hx
   ·generalize sameBox _ _=q at hx
    cases q with
    |true=>
     simp only [cond_true,sq] at hx
     split at hx
     ·generalize (Nat.beq _ _&&Nat.beq _ _)=q at hx
      cases q<;>simp at hx
     simp at hx
    |false=>
     simp only [cond_false] at hx
     split at hx
     ·rename_i hap
      simp only [osI,R.mk.injEq] at hx
      obtain ⟨_,_,rfl⟩:=hx
      exact absurd rfl (vD hap)
     simp at hx
   simp at hx
  simp at hx
 simp at hx
theorem To (h:lI bx aG) {ev:Operand→AV} {op:Op} {c:Prop} {v:AV} (hx:lE T ev op bx=some ⟨c,v,none⟩):lE T ev op aG=some ⟨c,v,none⟩:=by
 unfold lE at hx ⊢
 split at hx
 ·exact hx
 ·exact hx
 ·split at hx
  ·split at hx<;>simp at hx
  simp at hx
 ·split at hx<;>simp at hx
 ·split at hx
  ·exact P9 h hx
  simp at hx
 ·split at hx
  ·exact absurd rfl (G3 hx)
  simp at hx
 ·exact hx
 ·exact A2 h hx
 ·exact hx
 ·exact hx
 ·exact hx
 ·exact hx
 ·exact hx
 ·exact hx
 ·exact hx
 ·exact Qa h hx
 ·split at hx
  ·exact NB h hx
  simp at hx
 ·exact hx
 ·exact hx
 ·exact hx
 ·exact hx
 ·exact G4 h hx
 exact hx
theorem Wu (h:lI bx aG) {ev:Operand→AV} {op:Op} {c:Prop} {v:AV} (hx:Gd T ev op bx=some ⟨c,v,none⟩):Gd T ev op aG=some ⟨c,v,none⟩:=by
 unfold Gd at hx ⊢
 cases hv:iM ev op with
 |true=>rw [hv,cond_true] at hx;rw [cond_true];exact Qb h hx
 |false=>rw [hv,cond_false] at hx;rw [cond_false];exact To h hx
theorem mu {ev sG:Operand→AV} {x:Option Operand} (h:∀y,x=some y→ev y=sG y):CH ev x=CH sG x:=by
 cases x with
 |none=>rfl
 |some y=>simp only [CH,h y rfl]
theorem Ke {ev sG:Operand→AV} {op:Op} (h:∀x∈op.operands.toList,ev x=sG x):lE T ev op bx=lE T sG op bx:=by
 have pairs:∀ps:Array (Nat×Operand),(∀x∈(ps.toList.map (·.2)).toArray.toList,ev x=sG x)→(ps.toList.map fun p=>(p.1,ev p.2))=(ps.toList.map fun p=>(p.1,sG p.2)):=by
  intro ps hp
  refine List.map_congr_left fun p hm=>?_
  rw [hp p.2 (by simp only [List.mem_map];exact ⟨p,hm,rfl⟩)]
 cases op<;>simp only [Op.operands] at h
 case build t ps=>simp only [lE,pairs ps h]
 case buildSlice t n ps=>simp only [lE,pairs ps h]
 case makeFunc fn first captured=>
  cases fn<;>simp only [lE]
  rw [List.map_congr_left (l:=captured.toList) (f:=ev) (g:=sG) fun x hx=>h x (by simp;exact .inr (by simpa using hx)),List.map_congr_left (l:=first.toList) (f:=ev) (g:=sG) fun x hx=>h x (by simp;exact .inl (by simpa using hx))]
 case slice t x lo hi mx=>
  simp only [lE,h x (by simp),mu (x:=lo) (fun y hy=>h y (by simp [hy])),mu (x:=hi) (fun y hy=>h y (by simp [hy])),mu (x:=mx) (fun y hy=>h y (by simp [hy]))]
 case call c=>
  obtain ⟨callee,args,ats⟩:=c
  cases callee<;>simp only [lE]
  rw [List.map_congr_left (f:=ev) (g:=sG) fun x hx=>h x (by simp [Call.operands];exact by simpa using hx)]
 all_goals (first|rfl|(simp only [lE];simp_all;done)|(simp_all [lE];done))
theorem yQ {ev sG:Operand→AV} {op:Op} (h:∀x∈op.operands.toList,ev x=sG x):iM ev op=iM sG op∧nh T ev op bx=nh T sG op bx:=by
 cases op<;>simp only [Op.operands] at h
 case slice t x lo hi mx=>
  simp only [iM,nh,h x (by simp),mu (x:=lo) (fun y hy=>h y (by simp [hy])),mu (x:=hi) (fun y hy=>h y (by simp [hy])),mu (x:=mx) (fun y hy=>h y (by simp [hy])),and_self]
 case indexAddr t x i=>simp only [iM,nh,h x (by simp),h i (by simp),and_self]
 case makeSlice t x i=>simp only [iM,nh,h x (by simp),h i (by simp),and_self]
 case call c=>
  obtain ⟨callee,args,ats⟩:=c
  cases callee
  case builtin b=>
   have hm:args.toList.map ev=args.toList.map sG:=List.map_congr_left (f:=ev) (g:=sG) fun x hx=>h x (by simp [Call.operands];exact by simpa using hx)
   have hs:∀x∈args.toList,ev x=sG x:=fun x hx=>h x (by simp [Call.operands];exact by simpa using hx)
   refine ⟨?_,by simp only [nh,hm]⟩
   simp only [iM]
   generalize args.toList=l at hs
   split<;>first|rfl|(rw [hs _ (by simp)])
  all_goals exact ⟨rfl,rfl⟩
 all_goals exact ⟨rfl,rfl⟩
theorem NC {ev sG:Operand→AV} {op:Op} (h:∀x∈op.operands.toList,ev x=sG x):Gd T ev op bx=Gd T sG op bx:=by
 unfold Gd
 rw [(yQ (T:=T) (bx:=bx) h).1,(yQ (T:=T) (bx:=bx) h).2,Ke h]
end
end Dem
end
section
open Go
namespace Dem
section
variable {P:Program} {T:Nat→Option TI} {G:Nat→Option (List D)} {N:Nat} {ds:List Deferred} {β:Nat→Nat} {bx aG:List ax} {w:World} {X:Nat→Prop} {s:St} {a:Act}
def Qd (ev:Operand→AV) (xs:List Operand):Prop:=∀x∈xs,(ev x).ok
theorem nk.le {FC:Nat→List AV→List ax→fm→List ax→Prop} {f:Nat} {args:List AV} {v:AV} (h:nk FC f args bx v) (hb:lI bx aG):nk FC f args aG v:=by
 obtain ⟨args',jz,k1,k2,k3,k4,k5⟩:=h
 refine ⟨args',jz,EV hb k1,k2,k3,?_,k5⟩
 intro i b hi dj
 obtain ⟨b',h1,h2,h3⟩:=k4 i b hi dj
 exact ⟨b',hb i b' h1 h2,h2,h3⟩
theorem Kf {ev sG:Operand→AV} {op:Op} (h:∀x∈op.operands.toList,ev x=sG x):CO T ev op=CO T sG op:=by
 unfold CO
 split
 ·rename_i b args ats
  split
  ·rename_i x y t u ha Wn
   have mx:x∈args.toList:=by rw [ha];simp
   have my:y∈args.toList:=by rw [ha];simp
   rw [h x (by simp [Op.operands,Call.operands];exact by simpa using mx),h y (by simp [Op.operands,Call.operands];exact by simpa using my)]
  rfl
 rfl
inductive YG (FC:Nat→List AV→List ax→fm→List ax→Prop) (T:Nat→Option TI) (g:Bool) (ev:Operand→AV) (bx:List ax):Op→AV→Prop
 |pick (c a b:Operand) (p:Bool) (hc:(ev c).aP=.d (.bool p)) (hg:g=true→(ev c).ok∧(p=true→(ev a).ok)∧(p=false→(ev b).ok)):YG FC T g ev bx (.pick c a b) (Ak p (ev a).aP (ev b).aP)
 |call (f:Operand) (args:Array Operand) (ats:Array TypeId) (i:Nat) (as:List AV) (v:AV) (hf:mA (ev f).aP (args.toList.map fun x=>(ev x).aP)=some (i,as))
  (hg:g=true→((ev f).ok∧Qd ev args.toList)∧nk FC i as bx v):
  YG FC T g ev bx (.call {callee:=.value f,args:=args,argTypes:=ats}) v
 |inv (f:Operand) (nm:String) (args:Array Operand) (ats:Array TypeId) (i:Nat) (as:List AV) (v:AV) (hf:Dc T (ev f).aP nm (args.toList.map fun x=>(ev x).aP)=some (i,as))
  (hg:g=true→((ev f).ok∧Qd ev args.toList)∧nk FC i as bx v):
  YG FC T g ev bx (.call {callee:=.invoke f nm,args:=args,argTypes:=ats}) v
 |idx (t:Nat) (x i:Operand) (c:Prop) (ds ds':List D) (hi:An T t (ev x).aP (ev i).aP=some (c,ds)) (hg:g=true→(Qd ev [x,i]∧c)∧ds=ds'):YG FC T g ev bx (.indexAddr t x i) (.ep ds')
 |no (op:Op) (v:AV) (hg:g=false):YG FC T g ev bx op v
 |app (op:Op) (c:Prop) (es:List (List D)) (hr:CO T (fun x=>(ev x).aP) op=some (c,es)) (hg:g=true→Qd ev op.operands.toList∧c):YG FC T g ev bx op (.d (.sl es))
 |op (op:Op) (c:Prop) (v:AV) (hr:Gd T (fun x=>(ev x).aP) op bx=some ⟨c,v,none⟩) (hg:g=true→Qd ev op.operands.toList∧c):YG FC T g ev bx op v
variable {FC:Nat→List AV→List ax→fm→List ax→Prop}
theorem vE {g:Bool} {o:Oper} {K:AV→Prop} (h:stepG FC T G g o s K):∃v,YG FC T g (bW G s.sl) s.bx o.op v∧K v:=by
 rcases h with ⟨hg,v,hK⟩|h|⟨c,es,hr,hg,hK⟩
 ·exact ⟨v,.no _ v hg,hK⟩
 rotate_left
 ·exact ⟨_,.app _ c es hr (fun h=>⟨fun x hx=>c8 (hg h).1 x hx,(hg h).2⟩),hK⟩
 unfold w8 at h
 split at h
 ·rename_i c x y ho
  split at h
  ·rename_i p hc
   rw [ho]
   exact ⟨_,.pick c x y p hc h.1,h.2⟩
  exact h.elim
 ·rename_i f args ats ho
  split at h
  ·rename_i i as GY
   obtain ⟨v,hg,hK⟩:=h
   rw [ho]
   exact ⟨v,.call f args ats i as v GY (fun hg'=>⟨⟨(hg hg').1.1,fun x hx=>c8 (hg hg').1.2 x hx⟩,(hg hg').2⟩),hK⟩
  exact h.elim
 ·rename_i f nm args ats ho
  split at h
  ·rename_i i as GY
   obtain ⟨v,hg,hK⟩:=h
   rw [ho]
   exact ⟨v,.inv f nm args ats i as v GY (fun hg'=>⟨⟨(hg hg').1.1,fun x hx=>c8 (hg hg').1.2 x hx⟩,(hg hg').2⟩),hK⟩
  exact h.elim
 split at h
 ·rename_i c ds hi
  obtain ⟨ds',hg,hK⟩:=h
  split at hi
  ·rename_i t x i ho
   rw [ho] at hg ⊢
   exact ⟨_,.idx t x i c ds ds' hi (fun hg'=>⟨⟨fun y hy=>c8 (hg hg').1.1 y (by simpa [Op.operands] using hy),(hg hg').1.2⟩,(hg hg').2⟩),hK⟩
  simp at hi
 split at h
 ·rename_i c v hr
  exact ⟨v,.op _ c v hr (fun hg=>⟨fun x hx=>c8 (h.1 hg).1 x hx,(h.1 hg).2⟩),h.2⟩
 exact h.elim
theorem YG.G5 {g:Bool} {ev sG:Operand→AV} {op:Op} {v:AV} (h:YG FC T g ev bx op v) (iz:∀x∈op.operands.toList,ev x=sG x) (hb:lI bx aG):YG FC T g sG aG op v:=by
 cases h with
 |pick c x y p hc hg=>
  have e1:=iz c (by simp [Op.operands]);have e2:=iz x (by simp [Op.operands]);have e3:=iz y (by simp [Op.operands])
  rw [e1] at hc hg;rw [e2] at hg ⊢;rw [e3] at hg ⊢
  exact .pick c x y p hc hg
 |call f args ats i as v hf hg=>
  have e1:=iz f (by simp [Op.operands,Call.operands])
  have e2:∀x∈args.toList,ev x=sG x:=fun x hx=>iz x (by simp [Op.operands,Call.operands];exact .inr (by simpa using hx))
  rw [e1,List.map_congr_left (g:=fun x=>(sG x).aP) fun x hx=>by rw [e2 x hx]] at hf
  refine .call f args ats i as v hf (fun hg'=>?_)
  obtain ⟨⟨k1,k2⟩,k3⟩:=hg hg'
  exact ⟨⟨e1▸k1,fun x hx=>e2 x hx▸k2 x hx⟩,k3.le hb⟩
 |inv f nm args ats i as v hf hg=>
  have e1:=iz f (by simp [Op.operands,Call.operands])
  have e2:∀x∈args.toList,ev x=sG x:=fun x hx=>iz x (by simp [Op.operands,Call.operands];exact .inr (by simpa using hx))
  rw [e1,List.map_congr_left (g:=fun x=>(sG x).aP) fun x hx=>by rw [e2 x hx]] at hf
  refine .inv f nm args ats i as v hf (fun hg'=>?_)
  obtain ⟨⟨k1,k2⟩,k3⟩:=hg hg'
  exact ⟨⟨e1▸k1,fun x hx=>e2 x hx▸k2 x hx⟩,k3.le hb⟩
 |idx t x i c ds ds' hi hg=>
  have e1:=iz x (by simp [Op.operands]);have e2:=iz i (by simp [Op.operands])
  rw [e1,e2] at hi
  refine .idx t x i c ds ds' hi (fun hg'=>⟨⟨fun y hy=>?_,(hg hg').1.2⟩,(hg hg').2⟩)
  have:=(hg hg').1.1 y hy
  rw [iz y (by simpa [Op.operands] using hy)] at this
  exact this
 |no _ v hg=>exact .no _ v hg
 |app _ c es hr hg=>
  refine .app _ c es ?_ (fun hg'=>⟨fun x hx=>iz x hx▸(hg hg').1 x hx,(hg hg').2⟩)
  rw [←Kf (ev:=fun x=>(ev x).aP) (sG:=fun x=>(sG x).aP) (fun x hx=>by rw [iz x hx])]
  exact hr
 |op _ c v hr hg=>
  refine .op _ c v ?_ (fun hg'=>⟨fun x hx=>iz x hx▸(hg hg').1 x hx,(hg hg').2⟩)
  rw [←NC (ev:=fun x=>(ev x).aP) (sG:=fun x=>(sG x).aP) (fun x hx=>by rw [iz x hx])]
  exact Wu hb hr
theorem G6 (hT:iH P T) (hF:Fr G N ds β w X s a) {o:Oper} {v:AV} {next:Act→World→Prop} {Qc:Exit→Act→World→Prop}
 (h:YG (bg P G) T true (bW G s.sl) s.bx o.op v) (hn:AM G β s.bx w X a o.dst (fun v' bx=>v'=v∧bx=s.bx) next):o.wp P a w next Qc:=by
 have iz:∀x,(bW G s.sl x).ok→ah β s.bx w (be β s.bx w X) (bW G s.sl x).aP (a.eval x):=fun x hx=>iE (hF.eval x) hx
 unfold Oper.wp
 generalize ho:o.op=op at h
 cases h with
 |pick c x y p hc hg=>
  obtain ⟨h1,h2,h3⟩:=hg rfl
  have wW:=iz c h1
  rw [hc] at wW;simp only [ah,aK] at wW
  refine cI (v:=_) (aG:=s.bx) (de.pure (u:=if p then a.eval x else a.eval y) hF.cx ?_ (AO (fun hp=>iz x (h2 hp)) (fun hp=>iz y (h3 hp)))) ⟨rfl,rfl⟩ hn
  simp [execOp,ho,wW,asBool]
 |call f args ats i as v GY hg=>
  obtain ⟨⟨h1,h2⟩,hq⟩:=hg rfl
  obtain ⟨fs,cs,e1,e2⟩:=mN GY (iz f h1) (ig args.toList (fun y hy=>iz y (h2 y hy)))
  rw [kL ho e1]
  refine gC (lG (K:=fun v' bx=>v'=v∧bx=s.bx) hF.cx e2 hq ⟨rfl,rfl⟩) ?_ ?_ ?_
  ·rintro v w' ⟨β',aG,v',u,e,ex,cx,hv,hK⟩
   cases e
   exact hn β' aG w' v' v ex cx hv hK
  ·rintro ch w' ⟨_,_,_,_,e,_⟩;cases e
  rintro w' ⟨_,_,_,_,e,_⟩;cases e
 |inv f nm args ats i as v GY hg=>
  obtain ⟨⟨h1,h2⟩,hq⟩:=hg rfl
  obtain ⟨t,ti,u,k1,k2,k3,e2⟩:=Ds hT GY (iz f h1) (ig args.toList (fun y hy=>iz y (h2 y hy)))
  rw [yN hT ho k1 k2 k3]
  refine gC (lG (K:=fun v' bx=>v'=v∧bx=s.bx) hF.cx e2 hq ⟨rfl,rfl⟩) ?_ ?_ ?_
  ·rintro v w' ⟨β',aG,v',u,e,ex,cx,hv,hK⟩
   cases e
   exact hn β' aG w' v' v ex cx hv hK
  ·rintro ch w' ⟨_,_,_,_,e,_⟩;cases e
  rintro w' ⟨_,_,_,_,e,_⟩;cases e
 |idx t x i c ds ds' hi hg=>
  obtain ⟨⟨hk,hc⟩,rfl⟩:=hg rfl
  obtain ⟨r,k1,k2⟩:=AN (P:=P) (w:=w) hT hF.cx hi hc (iz x (hk x (by simp))) (iz i (hk i (by simp)))
  refine cI (v:=_) (aG:=s.bx) (de.pure hF.cx ?_ k2) ⟨rfl,rfl⟩ hn
  simp only [execOp,ho]
  exact bI _ k1
 |no _ v hg=>cases hg
 |app _ c es hr hg=>
  obtain ⟨h1,hc⟩:=hg rfl
  subst ho
  exact cI (Dr (P:=P) hT hF.cx (ρ:=a.eval) (fun x hx=>iz x (h1 x hx)) hr hc) ⟨rfl,rfl⟩ hn
 |op _ c v hr hg=>
  obtain ⟨h1,hc⟩:=hg rfl
  subst ho
  exact cI (AI (P:=P) hT hF.cx (ρ:=a.eval) (fun x hx=>iz x (h1 x hx)) hr hc) ⟨rfl,rfl⟩ hn
theorem G7 {k:Nat} (h:bx[k]?=some .bA) (B:ax) {i:Nat} (hi:bV bx i):i≠k∧bV (bx.set k B) i:=by
 obtain ⟨b,h1,h2⟩:=hi
 have hne:i≠k:=by rintro rfl;rw [h] at h1;simp at h1;subst h1;simp [ax.born] at h2
 exact ⟨hne,b,by rw [List.getElem?_set_ne (Ne.symm hne)];exact h1,h2⟩
theorem rq {k:Nat} (h:bx[k]?=some .bA) (o:Obj) (B:ax):Ext β bx w (lq β k w.heap.size) (bx.set k B) {w with heap:=w.heap.push o}:=by
 refine ⟨rfl,rfl,rfl,by simp,fun j hj _=>iP w o j hj,fun j c e f hj=>⟨c,by rw [iP w o j (eK hj)];exact hj,rfl⟩,?_,?_⟩
 ·intro i hi
  obtain ⟨h1,h2⟩:=G7 h B hi
  exact ⟨cQ _ _ h1,h2⟩
 intro i b hb hl
 rcases aL hb with ⟨rfl,_,_⟩|⟨hne,hb'⟩
 ·exact .inl (by rw [bt];exact Nat.le_refl _)
 exact .inr ⟨i,b,hb',hl,(cQ _ _ hne).symm⟩
theorem G8 (cx:ct G β bx w X) {k:Nat} (h:bx[k]?=some .bA) (o:Obj) (B:ax)
 (hB:dA (lq β k w.heap.size) (bx.set k B) {w with heap:=w.heap.push o} (be (lq β k w.heap.size) (bx.set k B) {w with heap:=w.heap.push o} X) B w.heap.size):
 ct G (lq β k w.heap.size) (bx.set k B) {w with heap:=w.heap.push o} X:=by
 refine cx.step (rq h o B) ?_ ?_
 ·intro i b hb
  rcases aL hb with ⟨rfl,rfl,_⟩|⟨hne,hb'⟩
  ·exact .inr (by rw [bt];exact hB)
  exact .inl ⟨hb',fun hl=>iP w o _ ((cx.box i b hb').eL hl)⟩
 intro i j bi bj h1 h2 l1 l2 he
 rcases aL h1 with ⟨rfl,rfl,_⟩|⟨hi,h3⟩<;>rcases aL h2 with ⟨rfl,rfl,_⟩|⟨hj,h4⟩
 ·rfl
 ·rw [bt,cQ _ _ hj] at he
  have:=(cx.box j bj h4).eL l2;omega
 ·rw [bt,cQ _ _ hi] at he
  have:=(cx.box i bi h3).eL l1;omega
 rw [cQ _ _ hi,cQ _ _ hj] at he
 exact cx.inj i j bi bj h3 h4 l1 l2 he
theorem yR (cx:ct G β bx w X) {k:Nat} (hk:bx[k]?=some .bA) (t:Nat) {x:AV} {u:Value} {cs:List AV} (hx:x.cells?=some cs) (h:ah β bx w (be β bx w X) x u):
 ∃β' w',(newVar t u).run P w=.ok ⟨β' k,0,none⟩ w'∧Ext β bx w β' (bx.set k (.var cs)) w'∧ct G β' (bx.set k (.var cs)) w' X:=by
 obtain ⟨vs,h1,h2,h3⟩:=ot hx h
 refine ⟨lq β k w.heap.size,{w with heap:=w.heap.push (.cells ⟨vs⟩ t)},?_,rq hk _ _,G8 cx hk _ _ ?_⟩
 ·simp [newVar,newRow,newObj,Sem.run,h1,bt]
 refine ⟨⟨vs⟩,t,iQ _ _,?_⟩
 exact aj.mono ((rq (β:=β) (bx:=bx) (w:=w) hk (.cells ⟨vs⟩ t) (.var cs)).dQ X) _ _ h2
theorem EW {sl ru:List (Nat×AV)} {o:Oper} (h:∀x∈o.op.operands.toList,bW G sl x=bW G ru x):ie T G sl o=ie T G ru o:=by
 obtain ⟨dst,op,type,pos,after,guard⟩:=o
 unfold ie
 cases guard with
 |some g=>rfl
 |none=>
  cases op<;>simp only []
  rename_i t x
  rw [h x (by simp [Op.operands])]
theorem G9 (hT:iH P T) (hF:Fr G N ds β w X s a) {o:Oper} {cs:List AV} (hb:ie T G s.sl o=some cs) {k:Nat} (hk:s.bx[k]?=some .bA) {next:Act→World→Prop} {Qc:Exit→Act→World→Prop}
 (hn:AM G β s.bx w X a o.dst (fun v bx=>v=.ptr k 0∧bx=s.bx.set k (.var cs)) next):o.wp P a w next Qc:=by
 obtain ⟨dst,op,type,pos,after,guard⟩:=o
 have hlt:k<s.bx.length:=iS hk
 have dj:bV (s.bx.set k (.var cs)) k:=⟨.var cs,iT hk,rfl⟩
 unfold ie at hb
 unfold Oper.wp
 cases guard with
 |some g=>simp at hb
 |none=>
  simp only at hb
  split at hb
  ·rename_i t
   cases ht:T t with
   |none=>simp [ht] at hb
   |some ti=>
   simp only [ht] at hb
   obtain ⟨i,d,h1,h2,h3,h4,h5,h6⟩:=aJ (hT.ti _ _ ht)
   cases zV:i.zero with
   |none=>rw [h6,zV] at hb;simp [AV.cells?] at hb
   |some z=>
   rw [h6,zV] at hb
   obtain ⟨β',w',k1,k2,k3⟩:=yR (P:=P) hF.cx hk t hb (vg z)
   have hr:(execOp a.eval {dst:=dst,op:=.alloc t,type:=type,pos:=pos,after:=after,guard:=none}).run P w=.ok (.value (.pointer (some ⟨β' k,0,none⟩))) w':=
    bI _ (by simp [Instr.alloc,gB h1 zV,k1])
   rw [hr]
   exact hn β' _ w' (.ptr k 0) _ k2 k3 (by simp only [ah];exact ⟨trivial,dj⟩) ⟨rfl,rfl⟩
  ·rename_i t x
   obtain ⟨β',w',k1,k2,k3⟩:=yR (P:=P) hF.cx hk t hb (hF.eval x)
   have hr:(execOp a.eval {dst:=dst,op:=.box t x,type:=type,pos:=pos,after:=after,guard:=none}).run P w=.ok (.value (.pointer (some ⟨β' k,0,none⟩))) w':=
    bI _ (by simp [Instr.box,k1])
   rw [hr]
   exact hn β' _ w' (.ptr k 0) _ k2 k3 (by simp only [ah];exact ⟨trivial,dj⟩) ⟨rfl,rfl⟩
  simp at hb
theorem Kg {β':Nat→Nat} {w':World} {sz n k:Nat} {es:List (List D)} {tH:List ax} {u:Value} (cx:ct G β bx w X) (hk:bx[k]?=some .bA) (ex:Ext β [] w β' [.row sz es] w') (nP:ct G β' [.row sz es] w' (rf β tH X))
 (hv:(∀r∈es,∀x∈r,x.flat=true)∨tH=bx) (hr:ah β' [.row sz es] w' (be β' [.row sz es] w' (rf β tH X)) (.ow 0 sz n) u):
 Ext β bx w (lq β k (β' 0)) (bx.set k (.row sz es)) w'∧ct G (lq β k (β' 0)) (bx.set k (.row sz es)) w' X∧
  ah (lq β k (β' 0)) (bx.set k (.row sz es)) w' (be (lq β k (β' 0)) (bx.set k (.row sz es)) w' X) (.ow k sz n) u:=by
 have e0:=vz (bx:=bx) ex
 have hlk:k<bx.length:=iS hk
 have hnew:ax.live (.row sz es)=true→w.heap.size≤β' 0:=by
  intro hl
  rcases ex.live 0 (.row sz es) rfl hl with h|⟨j,b',h1,_⟩
  ·exact h
  simp at h1
 have e1:Ext β bx w (lq β k (β' 0)) (bx.set k (.row sz es)) w':=by
  refine ⟨e0.os,e0.tape,e0.output,e0.size,e0.block,e0.shape,?_,?_⟩
  ·intro i hi
   obtain ⟨h1,h2⟩:=G7 hk (.row sz es) hi
   exact ⟨cQ _ _ h1,h2⟩
  intro i b h hl
  rcases aL h with ⟨rfl,rfl,_⟩|⟨hne,h1⟩
  ·exact .inl (by rw [bt];exact hnew hl)
  exact .inr ⟨i,b,h1,hl,(cQ _ _ hne).symm⟩
 have hlt:∀i b,bx[i]?=some b→b.live=true→β i<w.heap.size:=fun i b h hl=>dA.eL (cx.box i b h) hl
 have hok:tH=bx→∀aB,be β' [.row sz es] w' (rf β tH X) aB→be (lq β k (β' 0)) (bx.set k (.row sz es)) w' X aB:=by
  rintro rfl aB ⟨k1,k2,k3⟩
  refine ⟨k1,fun hX=>k2 (.inl hX),?_⟩
  intro i b h hl
  rcases aL h with ⟨rfl,rfl,_⟩|⟨hne,h1⟩
  ·rw [bt];exact k3 0 _ rfl hl
  rw [cQ _ _ hne];exact fun he=>k2 (.inr ⟨i,b,h1,hl,he⟩)
 refine ⟨e1,cx.step e1 ?_ ?_,?_⟩
 ·intro i b h
  rcases aL h with ⟨rfl,rfl,_⟩|⟨hne,h1⟩
  ·refine .inr ?_
   have:=nP.box 0 _ rfl
   rw [bt]
   simp only [dA] at this ⊢
   refine this.imp id ?_
   rintro ⟨c,e,h1,h2⟩
   refine ⟨c,e,h1,?_⟩
   rcases hv with hfl|hb
   ·exact py _ _ hfl h2
   exact av.mono (fun aB hb'=>⟨hok hb aB hb',rfl⟩) _ _ (fun _=>rfl) _ _ h2
  exact .inl ⟨h1,fun hl=>ex.block _ (hlt i b h1 hl) (by simp)⟩
 ·intro i j bi bj hi hj oc qB he
  rcases aL hi with ⟨rfl,rfl,_⟩|⟨hni,h1⟩<;>rcases aL hj with ⟨rfl,rfl,_⟩|⟨hnj,h2⟩
  ·rfl
  ·rw [bt,cQ _ _ hnj] at he
   have:=hlt j bj h2 qB;have:=hnew oc;omega
  ·rw [bt,cQ _ _ hni] at he
   have:=hlt i bi h1 oc;have:=hnew qB;omega
  rw [cQ _ _ hni,cQ _ _ hnj] at he
  exact cx.inj i j bi bj h1 h2 oc qB he
 simp only [ah] at hr ⊢
 obtain ⟨_,h2⟩:=hr
 refine ⟨⟨_,iT hk,rfl⟩,?_⟩
 rw [bt];exact h2
theorem A3 (hT:iH P T) (hF:Fr G N ds β w X s a) {o:Oper} {k:Nat} {v0:AV} {B0:ax} (h:mB (bg P G) G o s.sl s.bx k (fun v B=>v=v0∧B=B0)) {next:Act→World→Prop} {Qc:Exit→Act→World→Prop}
 (hn:AM G β s.bx w X a o.dst (fun v bx=>v=v0∧bx=s.bx.set k B0) next):o.wp P a w next Qc:=by
 obtain ⟨f,args,ats,i,as,args',sz,n,es,ho,GY,⟨h1,h2⟩,h3,h4,h5,h6,hk,rfl,rfl⟩:=h
 have iz:∀x,(bW G s.sl x).ok→ah β s.bx w (be β s.bx w X) (bW G s.sl x).aP (a.eval x):=fun x hx=>iE (hF.eval x) hx
 obtain ⟨fs,cs,e1,e2⟩:=mN GY (iz f h1) (ig args.toList (fun y hy=>iz y (c8 h2 y hy)))
 unfold Oper.wp
 rw [kL ho e1]
 obtain ⟨x1,c1,r1⟩:=mr as s.bx _ _ hF.cx h3 e2
 have cn:=GR c1
 have hnn:aj β [] w (be β [] w (rf β (eF s.bx as) X)) _ _:=mq (fun aB hb=>GS aB hb) _ _ h4 r1
 refine gC (h5 β w _ _ cn hnn) ?_ ?_ ?_
 ·rintro u w' ⟨β',ex,nP,hr⟩
  simp only [fC] at hr
  obtain ⟨y1,y2,y3⟩:=Kg hF.cx hk ex nP (by
   rcases h6 with hfl|GU
   ·exact .inl hfl
   refine .inr ?_
   rw [jO s.bx GU]) hr
  exact hn _ _ w' _ u y1 y2 y3 ⟨rfl,rfl⟩
 ·rintro ch w' ⟨_,_,_,hr⟩;exact hr.elim
 rintro w' ⟨_,_,_,hr⟩;exact hr.elim
end
end Dem
end
section
open Go
namespace Dem
structure It where
 dst:Option Nat
 v:AV
 bi:Option (Nat×ax)
def dm (m:Nat→Bool):Nat→List It→List (Nat×AV)→List (Nat×AV)
 |_,[],sl=>sl
 |i,t::r,sl=>dm m (i+1) r (bif m i then dV t.dst t.v sl else sl)
def ry (t:It) (bx:List ax):List ax:=
 match t.bi with
 |some (k,B)=>bx.set k B
 |none=>bx
def eX (m:Nat→Bool):Nat→List It→List ax→List ax
 |_,[],bx=>bx
 |i,t::r,bx=>eX m (i+1) r (bif m i then ry t bx else bx)
theorem oC (t:Nat) (dst:Option Nat) (v:AV) (sl:List (Nat×AV)):fY t (dV dst v sl)=if dst=some t then v else fY t sl:=by
 cases dst with
 |none=>simp [dV]
 |some d=>
  simp only [dV,sE,osI]
  by_cases h:t=d
  ·subst h;simp
  have:d≠t:=fun e=>h e.symm
  simp [h,this]
theorem rA {t:Nat} {m m':Nat→Bool}:∀(cB:List It) (i:Nat) (sl ru:List (Nat×AV)),fY t sl=fY t ru→
 (∀j it,cB[j]?=some it→it.dst=some t→m (i+j)=m' (i+j))→fY t (dm m i cB sl)=fY t (dm m' i cB ru)
 |[],_,_,_,h,_=>h
 |it::r,i,sl,ru,h,hm=>by
  simp only [dm]
  refine rA r (i+1) _ _ ?_ (fun j it' hj hd=>by have:=hm (j+1) it' (by simpa using hj) hd;simpa [Nat.add_assoc,Nat.add_comm 1 j] using this)
  by_cases hd:it.dst=some t
  ·have:=hm 0 it rfl hd
   rw [Nat.add_zero] at this
   rw [this]
   cases m' i<;>simp [oC,hd,h]
  cases m i<;>cases m' i<;>simp [oC,hd,h]
theorem A4 {t:Nat} {m:Nat→Bool}:∀(cB:List It) (i:Nat) (sl:List (Nat×AV)),(∀j it,cB[j]?=some it→it.dst=some t→m (i+j)=false)→fY t (dm m i cB sl)=fY t sl
 |[],_,_,_=>rfl
 |it::r,i,sl,hm=>by
  simp only [dm]
  rw [A4 r (i+1) _ (fun j it' hj hd=>by have:=hm (j+1) it' (by simpa using hj) hd;simpa [Nat.add_assoc,Nat.add_comm 1 j] using this)]
  by_cases hd:it.dst=some t
  ·have:=hm 0 it rfl hd
   rw [Nat.add_zero] at this
   simp [this]
  cases m i<;>simp [oC,hd]
theorem kO {m m':Nat→Bool}:∀(cB:List It) (i:Nat) (sl:List (Nat×AV)),(∀j,j<cB.length→m (i+j)=m' (i+j))→dm m i cB sl=dm m' i cB sl
 |[],_,_,_=>rfl
 |it::r,i,sl,hm=>by
  simp only [dm]
  have h0:=hm 0 (by simp)
  rw [Nat.add_zero] at h0
  rw [h0]
  exact kO r (i+1) _ (fun j hj=>by have:=hm (j+1) (by simpa using hj);simpa [Nat.add_assoc,Nat.add_comm 1 j] using this)
theorem nA {m m':Nat→Bool}:∀(cB:List It) (i:Nat) (bx:List ax),(∀j,j<cB.length→m (i+j)=m' (i+j))→eX m i cB bx=eX m' i cB bx
 |[],_,_,_=>rfl
 |it::r,i,bx,hm=>by
  simp only [eX]
  have h0:=hm 0 (by simp)
  rw [Nat.add_zero] at h0
  rw [h0]
  exact nA r (i+1) _ (fun j hj=>by have:=hm (j+1) (by simpa using hj);simpa [Nat.add_assoc,Nat.add_comm 1 j] using this)
theorem A5:∀(cB:List It) (i j:Nat) (sl:List (Nat×AV)),dm (fun _=>true) i (cB.take j) sl=dm (fun x=>decide (x<i+j)) i cB sl
 |[],i,j,sl=>by simp [dm]
 |it::r,i,0,sl=>by
  simp only [List.take_zero,dm,Nat.add_zero,Nat.lt_irrefl,decide_false,cond_false]
  have:∀(r:List It) (k:Nat),i≤k→dm (fun x=>decide (x<i)) k r sl=sl:=by
   intro r
   induction r with
   |nil=>intro k _;rfl
   |cons t r ih=>
    intro k hk
    simp only [dm,show ¬k<i by omega,decide_false,cond_false]
    exact ih (k+1) (by omega)
  exact (this r (i+1) (by omega)).symm
 |it::r,i,j+1,sl=>by
  simp only [List.take_succ_cons,dm,cond_true,show i<i+(j+1) by omega,decide_true]
  rw [A5 r (i+1) j]
  exact kO r (i+1) _ (fun k _=>by simp only [show i+1+j=i+(j+1) by omega])
theorem A6 {t:Nat} {m m':Nat→Bool}:∀(cB:List It) (i j0:Nat) (Mq:It) (sl:List (Nat×AV)),cB[j0]?=some Mq→m (i+j0)=false→m' (i+j0)=true→(∀x,x≠i+j0→m' x=m x)→
 (∀j it,cB[j]?=some it→j0<j→m (i+j)=true→∀d,Mq.dst=some d→it.dst≠some d)→fY t (dm m' i cB sl)=fY t (dV Mq.dst Mq.v (dm m i cB sl))
 |[],_,_,_,_,h,_,_,_,_=>by simp at h
 |it::r,i,0,Mq,sl,h,h1,h2,h3,h4=>by
  simp at h;subst h
  simp only [Nat.add_zero] at h1 h2
  simp only [dm,h1,h2,cond_true,cond_false]
  rw [kO (m:=m') (m':=m) r (i+1) _ (fun j _=>h3 _ (by omega)),oC]
  by_cases hd:it.dst=some t
  ·rw [if_pos hd,A4 r (i+1) _ (fun j it' hj Ws=>?_),oC,if_pos hd]
   cases hq:m (i+1+j) with
   |false=>rfl
   |true=>exact absurd Ws (h4 (j+1) it' (by simpa using hj) (by omega) (by rw [show i+(j+1)=i+1+j by omega];exact hq) t hd)
  rw [if_neg hd]
  exact rA r (i+1) _ _ (by rw [oC,if_neg hd]) (fun _ _ _ _=>rfl)
 |it::r,i,j0+1,Mq,sl,h,h1,h2,h3,h4=>by
  simp only [dm]
  rw [h3 i (by omega)]
  exact A6 r (i+1) j0 Mq _ (by simpa using h) (by rw [show i+1+j0=i+(j0+1) by omega];exact h1) (by rw [show i+1+j0=i+(j0+1) by omega];exact h2)
   (fun x hx=>h3 x (by omega)) (fun j it' hj hlt hm=>h4 (j+1) it' (by simpa using hj) (by omega) (by rw [show i+(j+1)=i+1+j by omega];exact hm))
def kP:Nat→List It→Prop
 |_,[]=>True
 |k,t::r=>match t.bi with
  |some (x,_)=>x=k∧kP (k+1) r
  |none=>kP k r
theorem kP.ge:∀{cB:List It} {k:Nat},kP k cB→∀{j:Nat} {it:It} {x:Nat} {cs:ax},cB[j]?=some it→it.bi=some (x,cs)→k≤x
 |[],_,_,_,_,_,_,h,_=>by simp at h
 |t::r,k,hk,0,it,x,cs,h,hb=>by
  simp at h;subst h
  simp only [kP,hb] at hk
  omega
 |t::r,k,hk,j+1,it,x,cs,h,hb=>by
  simp only [kP] at hk
  split at hk
  ·have:=hk.2.ge (j:=j) (by simpa using h) hb;omega
  exact kP.ge hk (j:=j) (by simpa using h) hb
theorem kP.apart:∀{cB:List It} {k:Nat},kP k cB→∀{j j':Nat} {it it':It} {x x':Nat} {cs cs':ax},cB[j]?=some it→it.bi=some (x,cs)→cB[j']?=some it'→it'.bi=some (x',cs')→j≠j'→x≠x'
 |[],_,_,_,_,_,_,_,_,_,_,h,_,_,_,_=>by simp at h
 |t::r,k,hk,0,0,_,_,_,_,_,_,_,_,_,_,hne=>absurd rfl hne
 |t::r,k,hk,0,j'+1,it,it',x,x',cs,cs',h,hb,h',hb',_=>by
  simp at h;subst h
  simp only [kP,hb] at hk
  have:=hk.2.ge (j:=j') (by simpa using h') hb';omega
 |t::r,k,hk,j+1,0,it,it',x,x',cs,cs',h,hb,h',hb',_=>by
  simp at h';subst h'
  simp only [kP,hb'] at hk
  have:=hk.2.ge (j:=j) (by simpa using h) hb;omega
 |t::r,k,hk,j+1,j'+1,it,it',x,x',cs,cs',h,hb,h',hb',hne=>by
  have hk':∃k',kP k' r:=by
   simp only [kP] at hk
   split at hk
   ·exact ⟨_,hk.2⟩
   exact ⟨_,hk⟩
  obtain ⟨k',hk'⟩:=hk'
  exact kP.apart hk' (j:=j) (j':=j') (by simpa using h) hb (by simpa using h') hb' (by omega)
theorem Dz {m:Nat→Bool} {x:Nat}:∀(cB:List It) (i:Nat) (bx:List ax),(∀j it y cs,cB[j]?=some it→m (i+j)=true→it.bi=some (y,cs)→y≠x)→(eX m i cB bx)[x]?=bx[x]?
 |[],_,_,_=>rfl
 |t::r,i,bx,h=>by
  simp only [eX]
  rw [Dz r (i+1) _ (fun j it y cs hj hm hb=>h (j+1) it y cs (by simpa using hj) (by rw [show i+(j+1)=i+1+j by omega];exact hm) hb)]
  cases hm:m i with
  |false=>rfl
  |true=>
   simp only [cond_true,ry]
   split
   ·rename_i k cs hb
    have:=h 0 t k cs rfl (by simpa using hm) hb
    rw [List.getElem?_set_ne this]
   rfl
theorem DA {m:Nat→Bool} {x:Nat} {B:ax}:∀(cB:List It) (i:Nat) (bx:List ax),(∀j it y cs,cB[j]?=some it→m (i+j)=true→it.bi=some (y,cs)→y≠x)→eX m i cB (bx.set x B)=(eX m i cB bx).set x B
 |[],_,_,_=>rfl
 |t::r,i,bx,h=>by
  simp only [eX]
  rw [←DA r (i+1) _ (fun j it y cs hj hm hb=>h (j+1) it y cs (by simpa using hj) (by rw [show i+(j+1)=i+1+j by omega];exact hm) hb)]
  congr 1
  cases hm:m i with
  |false=>rfl
  |true=>
   simp only [cond_true,ry]
   split
   ·rename_i k cs hb
    have:=h 0 t k cs rfl (by simpa using hm) hb
    rw [List.set_comm _ _ (Ne.symm this)]
   rfl
theorem A7 {m m':Nat→Bool}:∀(cB:List It) (i j0:Nat) (Mq:It) (bx:List ax),cB[j0]?=some Mq→m (i+j0)=false→m' (i+j0)=true→(∀x,x≠i+j0→m' x=m x)→
 (∀j it y cs x cs0,cB[j]?=some it→j≠j0→it.bi=some (y,cs)→Mq.bi=some (x,cs0)→y≠x)→eX m' i cB bx=ry Mq (eX m i cB bx)
 |[],_,_,_,_,h,_,_,_,_=>by simp at h
 |t::r,i,0,Mq,bx,h,h1,h2,h3,h4=>by
  simp at h;subst h
  simp only [Nat.add_zero] at h1 h2
  simp only [eX,h1,h2,cond_true,cond_false]
  rw [nA (m:=m') (m':=m) r (i+1) _ (fun j _=>h3 _ (by omega))]
  unfold ry
  split
  ·rename_i k cs hb
   exact DA r (i+1) bx (fun j it y cs' hj _ hb'=>h4 (j+1) it y cs' k cs (by simpa using hj) (by omega) hb' hb)
  rfl
 |t::r,i,j0+1,Mq,bx,h,h1,h2,h3,h4=>by
  simp only [eX]
  rw [h3 i (by omega)]
  exact A7 r (i+1) j0 Mq _ (by simpa using h) (by rw [show i+1+j0=i+(j0+1) by omega];exact h1) (by rw [show i+1+j0=i+(j0+1) by omega];exact h2)
   (fun x hx=>h3 x (by omega)) (fun j it y cs x cs0 hj hne=>h4 (j+1) it y cs x cs0 (by simpa using hj) (by omega))
theorem He {m:Nat→Bool} {aE:List ax}:∀(cB:List It) (i:Nat) (bx:List ax),lI aE bx→(∀(j:Nat) (it:It) (y:Nat) (cs:ax),cB[j]?=some it→it.bi=some (y,cs)→aE[y]?=some .bA)→lI aE (eX m i cB bx)
 |[],_,_,h,_=>h
 |t::r,i,bx,h,hu=>by
  simp only [eX]
  refine He r (i+1) _ ?_ (fun j it y cs hj=>hu (j+1) it y cs (by simpa using hj))
  cases m i with
  |false=>exact h
  |true=>
   simp only [cond_true,ry]
   split
   ·rename_i k cs hb
    have h0:=hu 0 t k cs rfl hb
    intro x b hx dj
    by_cases hxk:k=x
    ·subst hxk;rw [h0] at hx;simp at hx;subst hx;simp [ax.born] at dj
    rw [List.getElem?_set_ne hxk];exact h x b hx dj
   exact h
end Dem
end
section
open Go
namespace Dem
theorem vF:∀(l:List Oper) (acc:List Nat),(cF l acc).take acc.length=acc
 |[],acc=>by simp [cF]
 |o::r,acc=>by
  have h:=vF r (acc++[su acc o])
  simp only [cF]
  have:=congrArg (List.take acc.length) h
  simpa [List.take_take] using this
theorem yS:∀(l:List Oper) (acc:List Nat) (j:Nat) (o:Oper),l[j]?=some o→(cF l acc)[acc.length+j]?=some (su ((cF l acc).take (acc.length+j)) o)
 |[],_,_,_,h=>by simp at h
 |p::r,acc,0,o,h=>by
  simp at h;subst h
  simp only [cF,Nat.add_zero]
  have h1:=vF r (acc++[su acc p])
  have h2:=congrArg (List.take acc.length) h1
  have h3:=congrArg (fun l=>l[acc.length]?) h1
  simp only [List.take_take,List.length_append,List.length_cons,List.length_nil,Nat.zero_add] at h2 h3
  rw [Nat.min_eq_left (by omega)] at h2
  rw [List.getElem?_take,if_pos (by omega)] at h3
  rw [h3,h2]
  simp
 |p::r,acc,j+1,o,h=>by
  have:=yS r (acc++[su acc p]) j o (by simpa using h)
  simp only [List.length_append,List.length_cons,List.length_nil,Nat.zero_add] at this
  simp only [cF]
  rw [show acc.length+(j+1)=acc.length+1+j by omega]
  exact this
theorem yT {acc:List Nat} {i:Nat}:∀(es:List Edge) (s:Nat),(es.foldl (fun s e=>bif Region.binds .any e then s ||| 2^e.on ||| acc.getD e.on 0 else s) s).testBit i=true→
 s.testBit i=true∨∃e∈es,Region.binds .any e=true∧(e.on=i∨(acc.getD e.on 0).testBit i=true)
 |[],s,h=>.inl h
 |e::es,s,h=>by
  rw [List.foldl_cons] at h
  rcases yT es _ h with h1|⟨e',h1,h2⟩
  ·cases hb:Region.binds .any e with
   |false=>rw [hb] at h1;exact .inl h1
   |true=>
    rw [hb] at h1
    simp only [cond_true,Nat.testBit_or,Bool.or_eq_true] at h1
    rcases h1 with (h1|h1)|h1
    ·exact .inl h1
    ·refine .inr ⟨e,by simp,hb,.inl ?_⟩
     rw [Nat.testBit_two_pow] at h1
     simpa using h1
    exact .inr ⟨e,by simp,hb,.inr h1⟩
  exact .inr ⟨e',by simp [h1],h2⟩
section
variable {ops:Array Oper}
def Down (ops:Array Oper) (m:Nat→Bool):Prop:=∀x o,ops[x]?=some o→m x=true→∀e∈o.after,Region.binds .any e=true→m e.on=true
theorem closed {m:Nat→Bool} (hd:Down ops m):∀(j:Nat) (o:Oper),ops[j]?=some o→(∀e∈o.after,Region.binds .any e=true→m e.on=true)→∀i,((cF ops.toList []).getD j 0).testBit i=true→m i=true:=by
 intro j
 induction j using Nat.strongRecOn with
 |_ j ih=>
  intro o ho hp i hi
  have A8:=yS ops.toList [] j o (by simpa using ho)
  simp only [List.length_nil,Nat.zero_add] at A8
  rw [List.getD_eq_getElem?_getD,A8] at hi
  simp only [Option.getD_some,su] at hi
  rcases yT _ _ hi with h|⟨e,he,hb,h|h⟩
  ·simp at h
  ·subst h;exact hp e (by simpa using he) hb
  have hlt:e.on<j:=by
   rcases Nat.lt_or_ge e.on j with h'|h'
   ·exact h'
   rw [List.getD_eq_getElem?_getD,List.getElem?_take,if_neg (by omega)] at h
   simp at h
  have hh:((cF ops.toList []).getD e.on 0).testBit i=true:=by
   rw [List.getD_eq_getElem?_getD,List.getElem?_take,if_pos hlt] at h
   rw [List.getD_eq_getElem?_getD];exact h
  have hj:j<ops.size:=(Array.getElem?_eq_some_iff.1 ho).1
  have ho':ops[e.on]?=some ops[e.on]:=by simp [show e.on<ops.size by omega]
  exact ih e.on hlt _ ho' (hd _ _ ho' (hp e (by simpa using he) hb)) i hh
theorem rB {m:Nat} {o:Oper}:∀{n:Nat},gK.sw ops m o n=true→∀j,j<n→m.testBit j=true∨∃p,ops[j]?=some p∧p.apart ops o=true
 |0,_,j,hj=>by omega
 |n+1,h,j,hj=>by
  simp only [gK.sw,Bool.and_eq_true,Bool.or_eq_true] at h
  by_cases hjn:j=n
  ·subst hjn
   refine h.1.imp id (fun h1=>?_)
   split at h1
   ·rename_i p hp;exact ⟨p,hp,h1⟩
   simp at h1
  exact rB h.2 j (by omega)
theorem lR {b:List Nat}:∀{l:List Oper} {i:Nat},gK ops b i l=true→∀j o,l[j]?=some o→
 (∀e∈o.after,Region.binds .any e=true→e.on<i+j)∧∀k,k<i+j→(b.getD (i+j) 0).testBit k=true∨∃p,ops[k]?=some p∧p.apart ops o=true
 |[],_,_,j,o,ho=>by simp at ho
 |q::r,i,h,0,o,ho=>by
  simp at ho;subst ho
  simp only [gK,Bool.and_eq_true] at h
  refine ⟨fun e he hb=>?_,fun k hk=>rB h.1.2 k hk⟩
  have:=List.all_eq_true.1 h.1.1 e (by simpa using he)
  simpa [hb,Nat.blt_eq] using this
 |q::r,i,h,j+1,o,ho=>by
  simp only [gK,Bool.and_eq_true] at h
  have:=lR h.2 j o (by simpa using ho)
  rw [show i+(j+1)=i+1+j by omega]
  exact this
theorem EX {b:List Nat} {q:Nat} (h:barrier b q=true):(∀i,i<q→(b.getD q 0).testBit i=true)∧∀i,q<i→i<b.length→(b.getD i 0).testBit q=true:=by
 simp only [barrier,Bool.and_eq_true] at h
 obtain ⟨h1,h2⟩:=h
 refine ⟨fun i hi=>?_,fun i hi hl=>?_⟩
 ·rw [Nat.eq_of_beq_eq_true h1]
  simpa using hi
 refine List.all_eq_true.1 h2 _ ?_
 rw [List.getD_eq_getElem?_getD,List.getElem?_eq_getElem hl,Option.getD_some]
 rw [List.mem_iff_getElem?]
 refine ⟨i-(q+1),?_⟩
 rw [List.getElem?_drop,show q+1+(i-(q+1))=i by omega,List.getElem?_eq_getElem hl]
theorem rC:∀(l:List Oper) (acc:List Nat),(cF l acc).length=acc.length+l.length
 |[],acc=>by simp [cF]
 |o::r,acc=>by simp only [cF];rw [rC r];simp;omega
end
end Dem
end
