/- Parts of a proof, joined. -/
import Derived.Test.YtmlnckcbblcbbaaGreatDoorW10
set_option linter.all false
set_option maxRecDepth 100000
set_option maxHeartbeats 4000000
section
open Go
namespace Dem
structure NL{α:Type}(get:az->Int->bD α)(p:az)(x:α):Prop where
 whole:∀(s a b:az) (n:Int),s=a++(p++b)->n=a.length->get s n=⟨x,n+p.length,true⟩
 rV:∀(s a:az) (n:Int) (k:Nat),k<p.length->s=a++p.take k->n=a.length->(get s n).ok=false
theorem bO(p q:az)(k:Nat):(p++q).take k=if k<p.length then p.take k else p++q.take (k-p.length):=by
 rw[List.take_append];split
 .rename_i h;rw[show k-p.length=0 by omega];simp
 rename_i h;rw[vao (by omega)]
theorem FQ:∀(n:Nat) (u:Int),0<(iL n u).length
 |0,_=>by simp[iL]|n+1,u=>by unfold iL;split<;>simp
theorem ofNat_lt{k:Nat}(h:k<256):(UInt8.ofNat k).toNat=k:=by simp;omega
theorem FR(b:az):∀(n j:Nat) (u acc:Int),n+j=9->0<=u->u*2^(7*j)<18446744073709551616->fS (n+1) j (iL n u++b) acc=some (acc+u*2^(7*j),j+(iL n u).length)
 |0,j,u,acc,hj,h0,hu=>by
  obtain rfl:j=9:=by omega
  have hu2:u<2:=by
   have:(2:Int)^(7*9)=9223372036854775808:=by decide
   rw[this]at hu;omega
  have hb:(UInt8.ofNat (u%256).toNat).toNat=u.toNat:=by rw[ofNat_lt (by omega)];omega
  simp only[iL,List.singleton_append,fS,hb];rw[if_pos (by omega)];simp only[Lp,hb,List.length_singleton];have e:u=0∨u=1:=by omega
  rcases e with rfl|rfl<;>simp
 |n+1,j,u,acc,hj,h0,hu=>by
  have hp:(0:Int)<2^(7*j):=Int.pow_pos (by decide);unfold iL;split
  .rename_i h;have hb:(UInt8.ofNat (u.toNat%128+128)).toNat=u.toNat%128+128:=ofNat_lt (by omega)
   simp only[List.cons_append,fS,hb];rw[if_neg (by omega)];have acj:(2:Int)^(7*(j+1))=2^(7*j)*128:=by rw[show 7*(j+1)=7*j+7 by omega,Int.pow_add];rfl
   have hdm:u=128*(u / 128)+u%128:=by omega
   have hle:u / 128*2^(7*(j+1))<=u*2^(7*j):=by rw[acj,show u / 128*(2^(7*j)*128)=(128*(u / 128))*2^(7*j) by rw[Int.mul_comm (2^(7*j)) 128,<-Int.mul_assoc,Int.mul_comm (u / 128) 128]];exact Int.mul_le_mul_of_nonneg_right (by omega) (Int.le_of_lt hp)
   rw[FR b n (j+1) (u / 128) _ (by omega) (by omega) (by omega)];have hw:Lp acc (UInt8.ofNat (u.toNat%128+128)) j=acc+u%128*2^(7*j):=by
    simp only[Lp,hb];have hm:((u.toNat%128+128)%128)=u.toNat%128:=by omega
    rw[hm];have hc:((u.toNat%128*2^(7*j):Nat):Int)=u%128*2^(7*j):=by rw[Int.natCast_mul,Int.natCast_pow,Int.natCast_emod,Int.toNat_of_nonneg h0];rfl
    have hlt:u%128*2^(7*j)<=u*2^(7*j):=Int.mul_le_mul_of_nonneg_right (by omega) (Int.le_of_lt hp);rw[Nat.mod_eq_of_lt (by omega),hc]
   rw[hw,acj];simp only[osI,vab,List.length_cons];refine⟨?_,by omega⟩;rw[Int.add_assoc];congr 1;have:u*2^(7*j)=(128*(u / 128)+u%128)*2^(7*j):=by rw[<-hdm]
   rw[this,Int.add_mul,Int.add_comm,Int.mul_comm (2^(7*j)) 128,<-Int.mul_assoc,Int.mul_comm (u / 128) 128]
  rename_i h;have hb:(UInt8.ofNat (u%256).toNat).toNat=u.toNat:=by rw[ofNat_lt (by omega)];omega
  simp only[List.singleton_append,fS,hb];rw[if_pos (by omega)];simp only[List.length_singleton,osI,vab,and_true];simp only[Lp,hb];rw[Nat.mod_eq_of_lt (show u.toNat<128 by omega)];have hc:((u.toNat*2^(7*j):Nat):Int)=u*2^(7*j):=by rw[Int.natCast_mul,Int.natCast_pow,Int.toNat_of_nonneg h0];rfl
  rw[Nat.mod_eq_of_lt (by omega),hc]
theorem D1:∀(n j m k:Nat) (u acc:Int),0<=u->k<(iL n u).length->fS m j ((iL n u).take k) acc=none
 |n,j,0,k,u,acc,_,_=>by simp[fS]|0,j,m+1,k,u,acc,_,hk=>by
  simp only[iL,List.length_singleton]at hk ⊢;obtain rfl:k=0:=by omega
  simp[fS]
 |n+1,j,m+1,k,u,acc,h0,hk=>by
  unfold iL at hk ⊢;split
  .rename_i h;rw[if_pos h]at hk;cases k with
   |zero=>simp[fS]|succ k=>have hb:(UInt8.ofNat (u.toNat%128+128)).toNat=u.toNat%128+128:=ofNat_lt (by omega);simp only[List.take_succ_cons,fS,hb];rw[if_neg (by omega)];exact D1 n (j+1) m k (u / 128) _ (by omega) (by simpa using hk)
  rename_i h;rw[if_neg h]at hk;simp only[List.length_singleton]at hk;obtain rfl:k=0:=by omega
  simp[fS]
def Pb(s:az)(p:Int):bD Int:=⟨(aV s p).u,(aV s p).next,(aV s p).ok⟩
theorem Pc{u:Int}(h0:0<=u)(h1:u<18446744073709551616):NL Pb (aF u) u:=by
 refine⟨λs a b n hs hn=>?_,λs a n k hk hs hn=>?_⟩
 .subst hs hn;have hd:(a++(aF u++b)).drop ((a.length:Int)).toNat=aF u++b:=by simp
  have hl:=FQ 9 u;have hf:mR (a++(aF u++b)) (a.length:Int)=some (u,(aF u).length):=by unfold mR;rw[if_neg (by simp only[vaa];unfold aF;omega),hd,aF,FR b 9 0 u 0 (by omega) h0 (by simpa using h1)];simp
  unfold Pb aV;rw[hf];simp only[hd,List.take_left];rfl
 subst hs hn;have hf:mR (a++(aF u).take k) (a.length:Int)=none:=by
  unfold mR;split
  .rfl
  rw[show(a++(aF u).take k).drop ((a.length:Int)).toNat=(aF u).take k by simp];exact D1 9 0 10 k u 0 h0 hk
 unfold Pb aV;rw[hf];rfl
theorem dn{u:Int}(h0:0<=u)(h1:u<18446744073709551616){s a b:az}{n:Int}(hs:s=a++(aF u++b))(hn:n=a.length):aV s n=⟨u,n+(aF u).length,true⟩:=by have:=(Pc h0 h1).whole s a b n hs hn;unfold Pb at this;injection this with e1 e2 e3;cases h:aV s n;simp_all
theorem eg{u:Int}(h0:0<=u)(h1:u<18446744073709551616){s a:az}{n:Int}{k:Nat}(hk:k<(aF u).length)(hs:s=a++(aF u).take k)(hn:n=a.length):(aV s n).ok=false:=
 (Pc h0 h1).rV s a n k hk hs hn
def vi(m:Int)(s:az)(p:Int):bD az:=⟨(aI s p m).t,(aI s p m).next,(aI s p m).ok⟩
theorem La{t:az}{m:Int}(ht:(t.length:Int)<=m)(hl:t.length<18446744073709551616):NL (vi m) (aB t) t:=by
 refine⟨λs a b n hs hn=>?_,λs a n k hk hs hn=>?_⟩
 .have hg:=dn (u:=t.length) (by omega) (by omega) (s:=s) (a:=a) (b:=t++b) (n:=n) (by rw[hs,aB];simp) hn;unfold vi aI;rw[hg];have hlen:s.length=a.length+((aF t.length).length+(t.length+b.length)):=by rw[hs,aB];simp
  simp only;rw[if_pos ⟨hY,by omega,ht,by rw[hn,hlen];omega⟩];have hd:(s.drop (n+((aF t.length).length:Int)).toNat).take (t.length:Int).toNat=t:=by rw[hs,hn,show((a.length:Int)+((aF t.length).length:Int)).toNat=(a++aF t.length).length by simp;omega,aB];rw[show a++(aF t.length++t++b)=(a++aF t.length)++(t++b) by simp,List.drop_left,vak,List.take_left]
  rw[hd];simp only[aB,vaa];congr 1;omega
 unfold vi aI;rw[aB,vaa]at hk;rw[aB,bO]at hs;split at hs
 .rename_i iw;rw[if_neg]
  .rfl
  rintro⟨g,_⟩;rw[eg (u:=t.length) (by omega) (by omega) iw hs hn]at g;cases g
 rename_i iw;have hg:=dn (u:=t.length) (by omega) (by omega) (s:=s) (a:=a) (b:=t.take (k-(aF t.length).length)) (n:=n) hs hn
 rw[hg];simp only;rw[if_neg]
 .rfl
 rintro⟨_,_,_,g⟩;rw[hs,hn]at g;simp only[vaa,vav]at g;omega
theorem kU{t:az}{m:Int}(ht:(t.length:Int)<=m)(hl:t.length<18446744073709551616){s a b:az}{n:Int}(hs:s=a++(aB t++b))(hn:n=a.length):aI s n m=⟨t,n+(aB t).length,true⟩:=by have:=(La ht hl).whole s a b n hs hn;unfold vi at this;injection this with e1 e2 e3;cases h:aI s n m;simp_all
theorem lZ{t:az}{m:Int}(ht:(t.length:Int)<=m)(hl:t.length<18446744073709551616){s a:az}{n:Int}{k:Nat}(hk:k<(aB t).length)(hs:s=a++(aB t).take k)(hn:n=a.length):(aI s n m).ok=false:=
 (La ht hl).rV s a n k hk hs hn
def Pd(s:az)(p:Int):bD bz:=⟨(fc s p).v,(fc s p).next,(fc s p).ok⟩
theorem Pe{v:bz}(hv:v.w):NL Pd (eZ v) v:=by
 obtain⟨a0,b0,c0,d0⟩:=v;rw[bz.w,lt4]at hv;simp only[bz.at_]at hv;obtain⟨⟨h1,g1⟩,⟨h2,g2⟩,⟨h3,g3⟩,h4,g4⟩:=hv;refine⟨λs a b n hs hn=>?_,λs a n k hk hs hn=>?_⟩
 .have e1:=dn h1 g1 (s:=s) (a:=a) (b:=aF b0++(aF c0++(aF d0++b))) (n:=n) (by rw[hs,eZ];simp) hn;have e2:=dn h2 g2 (s:=s) (a:=a++aF a0) (b:=aF c0++(aF d0++b)) (n:=n+(aF a0).length) (by rw[hs,eZ];simp) (by rw[hn];simp)
  have e3:=dn h3 g3 (s:=s) (a:=a++aF a0++aF b0) (b:=aF d0++b) (n:=n+(aF a0).length+(aF b0).length) (by rw[hs,eZ];simp) (by rw[hn];simp;omega);have e4:=dn h4 g4 (s:=s) (a:=a++aF a0++aF b0++aF c0) (b:=b) (n:=n+(aF a0).length+(aF b0).length+(aF c0).length) (by rw[hs,eZ];simp) (by rw[hn];simp;omega)
  simp only[Pd,fc,fZ,e1,e2,e3,e4,if_true,bz.put,eZ,vaa];congr 1;omega
 have hk':k<(aF a0).length+((aF b0).length+((aF c0).length+(aF d0).length)):=by simp[eZ]at hk;omega
 rw[show eZ ⟨a0,b0,c0,d0⟩=aF a0++(aF b0++(aF c0++aF d0)) by simp[eZ],bO]at hs;simp only[Pd,fc];split at hs
 .rename_i iw;rw[fZ,eg h1 g1 iw hs hn];rfl
 rename_i iw;have e1:=dn h1 g1 hs hn
 rw[fZ,e1];simp only[if_true];have hn2:n+((aF a0).length:Int)=((a++aF a0).length:Nat):=by rw[hn];simp
 rw[<-vas,bO]at hs;split at hs
 .rename_i hk2;rw[fZ,eg h2 g2 hk2 hs hn2];rfl
 rename_i hk2;have e2:=dn h2 g2 hs hn2
 rw[fZ,e2];simp only[if_true];have X9:n+((aF a0).length:Int)+((aF b0).length:Int)=((a++aF a0++aF b0).length:Nat):=by rw[hn];simp;omega
 rw[<-vas,bO]at hs;split at hs
 .rename_i RI;rw[fZ,eg h3 g3 RI hs X9];rfl
 rename_i RI;have e3:=dn h3 g3 hs X9
 rw[fZ,e3];simp only[if_true];have hn4:n+((aF a0).length:Int)+((aF b0).length:Int)+((aF c0).length:Int)=((a++aF a0++aF b0++aF c0).length:Nat):=by rw[hn];simp;omega
 rw[<-vas]at hs;rw[fZ,eg h4 g4 (by omega) hs hn4];rfl
theorem wS{v:bz}(hv:v.w){s a b:az}{n:Int}(hs:s=a++(eZ v++b))(hn:n=a.length):fc s n=⟨v,n+(eZ v).length,true⟩:=by have:=(Pe hv).whole s a b n hs hn;unfold Pd at this;injection this with e1 e2 e3;cases h:fc s n;simp_all
theorem uj{v:bz}(hv:v.w){s a:az}{n:Int}{k:Nat}(hk:k<(eZ v).length)(hs:s=a++(eZ v).take k)(hn:n=a.length):(fc s n).ok=false:=(Pe hv).rV s a n k hk hs hn
theorem D2{α:Type}{get:az->Int->bD α}{put:α->az}:∀(l:List α),(∀x∈l,NL get (put x) x)->∀(s a b:az) (n:Int) (acc:List α),s=a++((l.map put).flatten++b)->n=a.length->
 gK (get s) l.length acc n=⟨acc++l,n+((l.map put).flatten.length:Nat),true⟩
 |[],_,s,a,b,n,acc,_,_=>by simp[gK]|x::l,hl,s,a,b,n,acc,hs,hn=>by have e:=(hl x (by simp)).whole s a ((l.map put).flatten++b) n (by rw[hs];simp) hn;rw[List.length_cons,gK,e];simp only[if_true];rw[D2 l (λy hy=>hl y (by simp[hy])) s (a++put x) b _ _ (by rw[hs];simp) (by rw[hn];simp)];simp;omega
theorem FT{α:Type}{get:az->Int->bD α}{put:α->az}:∀(l:List α),(∀x∈l,NL get (put x) x)->∀(s a:az) (n:Int) (k:Nat) (acc:List α),k<(l.map put).flatten.length->s=a++(l.map put).flatten.take k->n=a.length->
 (gK (get s) l.length acc n).ok=false
 |[],_,s,a,n,k,acc,hk,_,_=>by simp at hk|x::l,hl,s,a,n,k,acc,hk,hs,hn=>by
  rw[List.map_cons,List.flatten_cons,bO]at hs;rw[List.map_cons,List.flatten_cons,vaa]at hk;rw[List.length_cons,gK];split at hs
  .rename_i iw;rw[(hl x (by simp)).rV s a n k iw hs hn];rfl
  rename_i iw;rw[(hl x (by simp)).whole s a _ n hs hn];simp only[if_true];exact FT l (λy hy=>hl y (by simp[hy])) s (a++put x) _ (k-(put x).length) _ (by omega) (by rw[hs];simp) (by rw[hn];simp)
theorem HF{α:Type}{get:az->Int->bD α}{put:α->az}{l:List α}{m:Int}(hl:∀x∈l,NL get (put x) x)(hm:(l.length:Int)<=m)(hb:l.length<18446744073709551616):NL (λs p=>gz s p m (get s)) (aF l.length++(l.map put).flatten) l:=by
 refine⟨λs a b n hs hn=>?_,λs a n k hk hs hn=>?_⟩
 .have e:=dn (u:=l.length) (by omega) (by omega) (s:=s) (a:=a) (b:=(l.map put).flatten++b) (n:=n) (by rw[hs];simp) hn;simp only[gz,e];rw[if_pos ⟨hY,hm⟩,vak,D2 l hl s (a++aF l.length) b _ _ (by rw[hs];simp) (by rw[hn];simp)];simp only[List.nil_append,vaa];congr 1;omega
 rw[bO]at hs;rw[vaa]at hk;simp only[gz];split at hs
 .rename_i iw;rw[if_neg]
  .rfl
  rintro⟨g,_⟩;rw[eg (u:=l.length) (by omega) (by omega) iw hs hn]at g;cases g
 rename_i iw;have e:=dn (u:=l.length) (by omega) (by omega) hs hn
 rw[e];simp only;rw[if_pos ⟨hY,hm⟩,vak];exact FT l hl s (a++aF l.length) _ (k-(aF l.length).length) _ (by omega) (by rw[hs];simp) (by rw[hn];simp)
theorem UC{q:bT}(h1:q.key.length<=32)(h2:q.value.length<=32):NL iH (qg q) q:=by
 refine⟨λs a b n hs hn=>?_,λs a n k hk hs hn=>?_⟩
 .have e1:=kU (t:=q.key) (m:=32) (by omega) (by omega) (s:=s) (a:=a) (b:=aB q.value++b) (n:=n) (by rw[hs,qg];simp) hn;have e2:=kU (t:=q.value) (m:=32) (by omega) (by omega) (s:=s) (a:=a++aB q.key) (b:=b) (n:=n+(aB q.key).length) (by rw[hs,qg];simp) (by rw[hn];simp)
  simp only[iH,e1,e2,if_true,qg,vaa];congr 1;omega
 rw[qg,bO]at hs;rw[qg,vaa]at hk;simp only[iH];split at hs
 .rename_i iw;have e:=lZ (t:=q.key) (m:=32) (by omega) (by omega) iw hs hn
  rw[e];simp[e]
 rename_i iw;have e1:=kU (t:=q.key) (m:=32) (by omega) (by omega) hs hn
 rw[e1];simp only[if_true];exact lZ (t:=q.value) (m:=32) (by omega) (by omega) (k:=k-(aB q.key).length) (by omega) (a:=a++aB q.key) (by rw[hs];simp) (by rw[hn];simp)
theorem NM{l:List bT}(hr:kL l=true)(h:∀q∈l,q.key.length<=32/\q.value.length<=32):NL tJ (pF l) l:=by
 have hl:l.length<=8:=by unfold kL at hr;simp only[vae,vai]at hr;exact hr.2
 have L:=HF (get:=iH) (put:=qg) (l:=l) (m:=8) (λq hq=>UC (h q hq).1 (h q hq).2) (by omega) (by omega);refine⟨λs a b n hs hn=>?_,λs a n k hk hs hn=>?_⟩
 .unfold pF at hs ⊢;rw[if_pos hr]at hs ⊢;have e:=L.whole s a b n hs hn
  unfold tJ;rw[e];simp[hr]
 unfold pF at hs hk;rw[if_pos hr]at hs hk;have e:=L.rV s a n k hk hs hn
 unfold tJ;rw[e];rfl
structure Node.form (x:Node):Prop where
 name:x.name.length<=32
 cap:x.cap.w
 aeW:kL x.labels=true
 pairs:∀q∈x.labels,q.key.length<=32/\q.value.length<=32
theorem UD{x:Node}(h:x.form):NL gL (oC x) x:=by
 have LL:=NM h.aeW h.pairs;obtain⟨Ya,hup⟩:∃u:Int,u=(if x.up then 1 else 0):=⟨_,rfl⟩;have Vg:0<=Ya/\Ya<=1:=by rw[hup];split<;>omega
 have hput:oC x=aB x.name++(eZ x.cap++(pF x.labels++aF Ya)):=by simp[oC,hup]
 have aeY:decide (Ya=1)=x.up:=by rw[hup];cases x.up<;>simp
 refine⟨λs a b n hs hn=>?_,λs a n k hk hs hn=>?_⟩
 .rw[hput]at hs ⊢;have e1:=kU (t:=x.name) (m:=32) (by have:=h.name;omega) (by have:=h.name;omega) (s:=s) (a:=a) (b:=eZ x.cap++(pF x.labels++(aF Ya++b))) (n:=n) (by rw[hs];simp) hn
  have e2:=wS h.cap (s:=s) (a:=a++aB x.name) (b:=pF x.labels++(aF Ya++b)) (n:=n+(aB x.name).length) (by rw[hs];simp) (by rw[hn];simp);have e3:=LL.whole s (a++aB x.name++eZ x.cap) (aF Ya++b) (n+(aB x.name).length+(eZ x.cap).length) (by rw[hs];simp) (by rw[hn];simp;omega)
  have e4:=dn Vg.1 (by omega) (s:=s) (a:=a++aB x.name++eZ x.cap++pF x.labels) (b:=b) (n:=n+(aB x.name).length+(eZ x.cap).length+(pF x.labels).length) (by rw[hs];simp) (by rw[hn];simp;omega);simp only[gL,e1,e2,e3,e4];simp only[Bool.not_true,Bool.false_eq_true,if_false,Bool.true_and,aeY,vaa];rw[show decide (Ya<=1)=true by simpa using Vg.2];congr 1;omega
 rw[hput]at hs hk;simp only[vaa]at hk;rw[bO]at hs;simp only[gL];split at hs
 .rename_i iw;rw[lZ (t:=x.name) (m:=32) (by have:=h.name;omega) (by have:=h.name;omega) iw hs hn];rfl
 rename_i iw;have e1:=kU (t:=x.name) (m:=32) (by have:=h.name;omega) (by have:=h.name;omega) hs hn
 rw[e1];simp only[Bool.not_true,Bool.false_eq_true,if_false];have hn2:n+((aB x.name).length:Int)=((a++aB x.name).length:Nat):=by rw[hn];simp
 rw[<-vas,bO]at hs;split at hs
 .rename_i hk2;rw[uj h.cap hk2 hs hn2];rfl
 rename_i hk2;rw[wS h.cap hs hn2];simp only[Bool.not_true,Bool.false_eq_true,if_false];have X9:n+((aB x.name).length:Int)+((eZ x.cap).length:Int)=((a++aB x.name++eZ x.cap).length:Nat):=by rw[hn];simp;omega
 rw[<-vas,bO]at hs;split at hs
 .rename_i RI;rw[LL.rV s _ _ _ RI hs X9];rfl
 rename_i RI;rw[LL.whole s _ _ _ hs X9];simp only[Bool.not_true,Bool.false_eq_true,if_false];have hn4:n+((aB x.name).length:Int)+((eZ x.cap).length:Int)+((pF x.labels).length:Int)=((a++aB x.name++eZ x.cap++pF x.labels).length:Nat):=by rw[hn];simp;omega
 rw[<-vas]at hs;rw[eg Vg.1 (by omega) (by omega) hs hn4];rfl
structure Place.form (x:Place):Prop where
 bL:0<=x.bL/\x.bL<18446744073709551616
 name:x.node.length<=32
 v:x.v.w
theorem Q9{x:Place}(h:x.form):NL jQ (yy x) x:=by
 have hput:yy x=aF x.bL++(aB x.node++eZ x.v):=by simp[yy]
 refine⟨λs a b n hs hn=>?_,λs a n k hk hs hn=>?_⟩
 .rw[hput]at hs ⊢;have e1:=dn h.bL.1 h.bL.2 (s:=s) (a:=a) (b:=aB x.node++(eZ x.v++b)) (n:=n) (by rw[hs];simp) hn
  have e2:=kU (t:=x.node) (m:=32) (by have:=h.name;omega) (by have:=h.name;omega) (s:=s) (a:=a++aF x.bL) (b:=eZ x.v++b) (n:=n+(aF x.bL).length) (by rw[hs];simp) (by rw[hn];simp);have e3:=wS h.v (s:=s) (a:=a++aF x.bL++aB x.node) (b:=b) (n:=n+(aF x.bL).length+(aB x.node).length) (by rw[hs];simp) (by rw[hn];simp;omega)
  simp only[jQ,e1,e2,e3];simp only[Bool.not_true,Bool.false_eq_true,if_false,vaa];congr 1;omega
 rw[hput]at hs hk;simp only[vaa]at hk;rw[bO]at hs;simp only[jQ];split at hs
 .rename_i iw;rw[eg h.bL.1 h.bL.2 iw hs hn];rfl
 rename_i iw;have e1:=dn h.bL.1 h.bL.2 hs hn
 rw[e1];simp only[Bool.not_true,Bool.false_eq_true,if_false];have hn2:n+((aF x.bL).length:Int)=((a++aF x.bL).length:Nat):=by rw[hn];simp
 rw[<-vas,bO]at hs;split at hs
 .rename_i hk2;rw[lZ (t:=x.node) (m:=32) (by have:=h.name;omega) (by have:=h.name;omega) hk2 hs hn2];rfl
 rename_i hk2;rw[kU (t:=x.node) (m:=32) (by have:=h.name;omega) (by have:=h.name;omega) hs hn2];simp only[Bool.not_true,Bool.false_eq_true,if_false];have X9:n+((aF x.bL).length:Int)+((aB x.node).length:Int)=((a++aF x.bL++aB x.node).length:Nat):=by rw[hn];simp;omega
 rw[<-vas]at hs;rw[uj h.v (by omega) hs X9]
structure cR.form (p:cR):Prop where
 right:mQ p=true
 nodes:∀n∈p.nodes,n.form
 places:∀x∈p.places,x.form
 most:p.places.length<=256
theorem D3{p:cR}(h:p.form):NL tK (iy p) p:=by
 have ahP:p.nodes.length<=16:=(wB.1 h.right).most;have L1:=HF (get:=gL) (put:=oC) (l:=p.nodes) (m:=16) (λn hn=>UD (h.nodes n hn)) (by omega) (by omega)
 have L2:=HF (get:=jQ) (put:=yy) (l:=p.places) (m:=256) (λx hx=>Q9 (h.places x hx)) (by have:=h.most;omega) (by have:=h.most;omega);have hput:iy p=(aF p.nodes.length++(p.nodes.map oC).flatten)++(aF p.places.length++(p.places.map yy).flatten):=by simp[iy]
 refine⟨λs a b n hs hn=>?_,λs a n k hk hs hn=>?_⟩
 .rw[hput]at hs ⊢;have e1:=L1.whole s a ((aF p.places.length++(p.places.map yy).flatten)++b) n (by rw[hs];simp) hn
  have e2:=L2.whole s (a++(aF p.nodes.length++(p.nodes.map oC).flatten)) b (n+((aF p.nodes.length++(p.nodes.map oC).flatten).length:Nat)) (by rw[hs];simp) (by rw[hn];simp);simp only[tK,e1,e2];have hr:mQ ⟨p.nodes,p.places⟩=true:=h.right
  rw[hr];simp only[Bool.not_true,Bool.false_eq_true,if_false,Bool.and_self,if_true,vaa];congr 1;omega
 rw[hput]at hs hk;rw[vaa]at hk;rw[bO]at hs;unfold tK;split at hs
 .rename_i iw;have e:=L1.rV s a n k iw hs hn
  rw[e];rfl
 rename_i iw;have e1:=L1.whole s a _ n hs hn
 have e2:=L2.rV s (a++(aF p.nodes.length++(p.nodes.map oC).flatten)) (n+((aF p.nodes.length++(p.nodes.map oC).flatten).length:Nat)) (k-(aF p.nodes.length++(p.nodes.map oC).flatten).length) (by omega) (by rw[hs];simp) (by rw[hn];simp);rw[e1];simp only[Bool.not_true,Bool.false_eq_true,if_false];rw[e2];rfl
structure sF{α:Type}(get:az->Int->Option (α×Int))(p:az)(x:α):Prop where
 whole:∀(s a b:az) (n:Int),s=a++(p++b)->n=a.length->get s n=some (x,n+(p.length:Nat))
 rV:∀(s a:az) (n:Int) (k:Nat),k<p.length->s=a++p.take k->n=a.length->get s n=none
theorem mq{α β:Type}{g:az->Int->Option (α×Int)}{h:α->az->Int->Option (β×Int)}{w v:az}{x:α}{y:β}(h1:sF g w x)(h2:sF (h x) v y):
 sF (λs p=>(g s p).bind λr=>h r.1 s r.2) (w++v) y:=by
 refine⟨λs a b n hs hn=>?_,λs a n k hk hs hn=>?_⟩
 .have e:=h1.whole s a (v++b) n (by rw[hs];simp) hn;simp only[e,Option.bind_some];rw[h2.whole s (a++w) b _ (by rw[hs];simp) (by rw[hn];simp)];simp only[vaa,osI,vab,true_and];omega
 rw[bO]at hs;rw[vaa]at hk;split at hs
 .rename_i iw;simp only[h1.rV s a n k iw hs hn,Option.bind_none]
 rename_i iw;have e:=h1.whole s a _ n hs hn
 simp only[e,Option.bind_some];exact h2.rV s (a++w) _ (k-w.length) (by omega) (by rw[hs];simp) (by rw[hn];simp)
theorem HG{α β:Type}{g:az->Int->Option (α×Int)}{w:az}{x:α}(f:α->β)(h1:sF g w x):sF (λs p=>(g s p).bind λr=>some (f r.1,r.2)) w (f x):=by
 refine⟨λs a b n hs hn=>?_,λs a n k hk hs hn=>?_⟩
 .simp only[h1.whole s a b n hs hn,Option.bind_some]
 simp only[h1.rV s a n k hk hs hn,Option.bind_none]
def kV{α:Type}(g:az->Int->Option (α×Int))(s:az):Nat->List α->Int->Option (List α×Int)
 |0,l,p=>some (l,p)|n+1,l,p=>(g s p).bind λr=>kV g s n (l++[r.1]) r.2
theorem D4{α:Type}{g:az->Int->Option (α×Int)}{put:α->az}:∀(l:List α),(∀x∈l,sF g (put x) x)->∀(s a b:az) (n:Int) (acc:List α),s=a++((l.map put).flatten++b)->n=a.length->
 kV g s l.length acc n=some (acc++l,n+((l.map put).flatten.length:Nat))
 |[],_,s,a,b,n,acc,_,_=>by simp[kV]|x::l,hl,s,a,b,n,acc,hs,hn=>by have e:=(hl x (by simp)).whole s a ((l.map put).flatten++b) n (by rw[hs];simp) hn;rw[List.length_cons,kV,e,Option.bind_some];rw[D4 l (λy hy=>hl y (by simp[hy])) s (a++put x) b _ _ (by rw[hs];simp) (by rw[hn];simp)];simp;omega
theorem FU{α:Type}{g:az->Int->Option (α×Int)}{put:α->az}:∀(l:List α),(∀x∈l,sF g (put x) x)->∀(s a:az) (n:Int) (k:Nat) (acc:List α),k<(l.map put).flatten.length->s=a++(l.map put).flatten.take k->n=a.length->
 kV g s l.length acc n=none
 |[],_,s,a,n,k,acc,hk,_,_=>by simp at hk|x::l,hl,s,a,n,k,acc,hk,hs,hn=>by
  rw[List.map_cons,List.flatten_cons,bO]at hs;rw[List.map_cons,List.flatten_cons,vaa]at hk;rw[List.length_cons,kV];split at hs
  .rename_i iw;rw[(hl x (by simp)).rV s a n k iw hs hn];rfl
  rename_i iw;rw[(hl x (by simp)).whole s a _ n hs hn,Option.bind_some];exact FU l (λy hy=>hl y (by simp[hy])) s (a++put x) _ (k-(put x).length) _ (by omega) (by rw[hs];simp) (by rw[hn];simp)
theorem zf{α:Type}{g:az->Int->Option (α×Int)}{put:α->az}{l:List α}(hl:∀x∈l,sF g (put x) x){m:Nat}(hm:m=l.length):sF (λs p=>kV g s m [] p) (l.map put).flatten l:=by subst hm;exact⟨λs a b n hs hn=>by simpa using D4 l hl s a b n [] hs hn,λs a n k hk hs hn=>FU l hl s a n k [] hk hs hn⟩
def By(s:az)(p:Int):Option (Int×Int):=if(aV s p).ok=true then some ((aV s p).u,(aV s p).next)else none
theorem D5{u:Int}(h0:0<=u)(h1:u<18446744073709551616):sF By (aF u) u:=by
 refine⟨λs a b n hs hn=>?_,λs a n k hk hs hn=>?_⟩
 .unfold By;rw[dn h0 h1 hs hn];rfl
 unfold By;rw[eg h0 h1 hk hs hn];rfl
theorem uk{u m:Int}(h0:0<=u)(h1:u<=m)(h2:m<18446744073709551616):sF (λs p=>dP s p m) (aF u) u:=by
 refine⟨λs a b n hs hn=>?_,λs a n k hk hs hn=>?_⟩
 .simp only[dP];rw[dn h0 (by omega) hs hn,if_pos ⟨rfl,h1⟩]
 simp only[dP];rw[if_neg (by rw[eg h0 (by omega) hk hs hn];simp)]
theorem FV{t:az}(h:t.length<=32):sF fT (aB t) t:=by
 refine⟨λs a b n hs hn=>?_,λs a n k hk hs hn=>?_⟩
 .unfold fT;rw[kU (m:=32) (by omega) (by omega) hs hn];rfl
 unfold fT;rw[lZ (m:=32) (by omega) (by omega) hk hs hn];rfl
theorem Bh(s:az):∀(n:Nat) (l:List az) (p:Int),fw s n l p=kV fT s n l p
 |0,_,_=>rfl|n+1,l,p=>by
  rw[fw,kV];cases fT s p with
  |none=>rfl|some r=>exact Bh s n _ _
theorem Bk(s:az):∀(n:Nat) (l:List Term) (p:Int),fe s n l p=kV kN s n l p
 |0,_,_=>rfl|n+1,l,p=>by
  rw[fe,kV];cases kN s p with
  |none=>rfl|some r=>exact Bk s n _ _
structure Term.form (x:Term):Prop where
 key:x.key.length<=32
 len:x.fk.length<=4
 fk:∀v∈x.fk,v.length<=32
theorem UE{x:Term}(h:x.form):sF kN (jR x) x:=by
 have e:kN=λs p=>(fT s p).bind λa=>(λk s q=>(dP s q 9).bind λb=>(λn s r=>(kV fT s (n.toNat / 2) [] r).bind λc=>some ((⟨k,decide (n%2=1),c.1⟩:Term),c.2)) b.1 s b.2) a.1 s a.2:=by
  funext s p;unfold kN;cases fT s p with
  |none=>rfl|some a=>
   simp only[Option.bind_some];cases dP s a.2 9 with
   |none=>rfl|some b=>simp only[Option.bind_some];rw[Bh];cases kV fT s (b.1.toNat / 2) [] b.2<;>rfl
 obtain⟨N,hN⟩:∃N:Int,N=2*x.fk.length+(if x.no then 1 else 0):=⟨_,rfl⟩;have hl:=h.len
 have h1:N.toNat / 2=x.fk.length/\decide (N%2=1)=x.no/\0<=N/\N<=9:=by
  rw[hN];cases x.no
  .refine⟨by simp;omega,?_,by simp;omega,by simp;omega⟩;rw[vap];simp
  refine⟨by simp;omega,?_,by simp;omega,by simp;omega⟩;rw[decide_eq_true_iff];simp
 unfold jR;rw[<-hN,vas,e];have l3:=HG (λc=>(⟨x.key,decide (N%2=1),c⟩:Term)) (zf (g:=fT) (put:=aB) (l:=x.fk) (λv hv=>FV (h.fk v hv)) h1.1)
 have l2:=mq (g:=λs p=>dP s p 9) (h:=λn s r=>(kV fT s (n.toNat / 2) [] r).bind λc=>some ((⟨x.key,decide (n%2=1),c.1⟩:Term),c.2)) (uk h1.2.2.1 h1.2.2.2 (by decide)) l3;have l1:=mq (g:=fT) (h:=λk s q=>(dP s q 9).bind λb=>(λn s r=>(kV fT s (n.toNat / 2) [] r).bind λc=>some ((⟨k,decide (n%2=1),c.1⟩:Term),c.2)) b.1 s b.2) (FV h.key) l2
 rw[h1.2.1]at l1;exact l1
theorem Ra{L:List Term}(hl:L.length<=4)(h:∀x∈L,x.form):sF ig (aF L.length++(L.map jR).flatten) L:=by
 have e:ig=λs p=>(dP s p 4).bind λa=>(λn s q=>kV kN s n.toNat [] q) a.1 s a.2:=by
  funext s p;unfold ig;cases dP s p 4 with
  |none=>rfl|some a=>simp only[Option.bind_some];exact Bk _ _ _ _
 rw[e];exact mq (g:=λs p=>dP s p 4) (h:=λn s q=>kV kN s n.toNat [] q) (uk (u:=L.length) (by omega) (by omega) (by decide)) (zf (λx hx=>UE (h x hx)) (by simp))
def FW(m:Int)(s:az)(p:Int):Option (az×Int):=if(aI s p m).ok=true then some ((aI s p m).t,(aI s p m).next)else none
theorem Rb{t:az}{m:Int}(h:(t.length:Int)<=m)(hm:m<1000):sF (FW m) (aB t) t:=by
 refine⟨λs a b n hs hn=>?_,λs a n k hk hs hn=>?_⟩
 .unfold FW;rw[kU h (by omega) hs hn];rfl
 unfold FW;rw[lZ h (by omega) hk hs hn];rfl
def NN(s:az)(p:Int):Option (bz×Int):=if(fc s p).ok=true then some ((fc s p).v,(fc s p).next)else none
theorem UF{v:bz}(hv:v.w):sF NN (eZ v) v:=by
 refine⟨λs a b n hs hn=>?_,λs a n k hk hs hn=>?_⟩
 .unfold NN;rw[wS hv hs hn];rfl
 unfold NN;rw[uj hv hk hs hn];rfl
theorem UG:rP=λs p=>(FW 98 s p).bind λa=>(NN s a.2).bind λb=>(dP s b.2 100).bind λc=>(dP s c.2 100).bind λd=>(dP s d.2 100).bind λe=>(ig s e.2).bind λf=>some ((⟨a.1,b.1,c.1,d.1,e.1,f.1⟩:Ask),f.2):=by
 funext s p;unfold rP FW;rcases aI s p 98 with⟨a,p1,_|_⟩
 .rfl
 simp only[if_true,Option.bind_some];unfold NN;rcases fc s p1 with⟨v,p2,_|_⟩
 .rfl
 simp only[if_true,Option.bind_some];rcases dP s p2 100 with _|⟨n,p3⟩
 .rfl
 simp only[Option.bind_some];rcases dP s p3 100 with _|⟨pr,p4⟩
 .rfl
 simp only[Option.bind_some];rcases dP s p4 100 with _|⟨tk,p5⟩
 .rfl
 simp only[Option.bind_some];rcases ig s p5 with _|⟨sl,e⟩<;>rfl
structure Ask.form (x:Ask):Prop where
 yJ:c8 x=0
 path:x.path.length<=98
 iI:x.iI.w
 len:x.cj.length<=4
 cj:∀m∈x.cj,m.form
theorem Ask.form.nums {x:Ask} (h:x.form):(1<=x.count/\x.count<=8)/\(0<=x.prio/\x.prio<=9)/\(1<=x.dX/\x.dX<=100)/\pz x.cj=true:=by
 have:=h.yJ;unfold c8 at this;split at this
 .cases this
 split at this
 .cases this
 split at this
 .cases this
 rename_i h1 h2 h3;simp[Rm]at h2 h3;exact⟨h2.1.1,h2.1.2,h2.2,h3⟩
theorem HH{x:Ask}(h:x.form):sF rP (tM x) x:=by
 obtain⟨h1,h2,h3,h4⟩:=h.nums;obtain⟨path,v,n,pr,tk,sl⟩:=x;simp only at h1 h2 h3 h4;have hp:=h.path
 have hd:=h.iI;simp only at hp hd;unfold tM yx;rw[if_neg (by simp[h.yJ])];simp only;rw[if_pos h4,UG];simp only[vas];have l6:=HG (λf=>(⟨path,v,n,pr,tk,f⟩:Ask)) (Ra h.len h.cj)
 have l5:=mq (g:=λs p=>dP s p 100) (h:=λtk s q=>(ig s q).bind λf=>some ((⟨path,v,n,pr,tk,f.1⟩:Ask),f.2)) (uk (u:=tk) (m:=100) (by omega) (by omega) (by decide)) l6;have l4:=mq (g:=λs p=>dP s p 100) (h:=λpr s q=>(dP s q 100).bind λe=>(ig s e.2).bind λf=>some ((⟨path,v,n,pr,e.1,f.1⟩:Ask),f.2)) (uk (u:=pr) (m:=100) (by omega) (by omega) (by decide)) l5
 have l3:=mq (g:=λs p=>dP s p 100) (h:=λn s q=>(dP s q 100).bind λd=>(dP s d.2 100).bind λe=>(ig s e.2).bind λf=>some ((⟨path,v,n,d.1,e.1,f.1⟩:Ask),f.2)) (uk (u:=n) (m:=100) (by omega) (by omega) (by decide)) l4;have l2:=mq (g:=NN) (h:=λv s q=>(dP s q 100).bind λc=>(dP s c.2 100).bind λd=>(dP s d.2 100).bind λe=>(ig s e.2).bind λf=>some ((⟨path,v,c.1,d.1,e.1,f.1⟩:Ask),f.2)) (UF hd) l3
 have l1:=mq (g:=FW 98) (h:=λpath s q=>(NN s q).bind λb=>(dP s b.2 100).bind λc=>(dP s c.2 100).bind λd=>(dP s d.2 100).bind λe=>(ig s e.2).bind λf=>some ((⟨path,b.1,c.1,d.1,e.1,f.1⟩:Ask),f.2)) (Rb (by omega) (by decide)) l2;exact l1
theorem Pf{s:az}{p e:Int}{x:Ask}(h:rP s p=some (x,e))(hx:x.form):tZ s p=some (x,e):=by
 obtain⟨_,_,_,h4⟩:=hx.nums;have hc:=hx.yJ
 unfold rP at h;split at h
 .rename_i path p1 e0;split at h
  .rename_i v p2 e1;split at h
   .rename_i n p3 e2;split at h
    .rename_i pr p4 e3;split at h
     .rename_i tk p5 e4;split at h
      .rename_i sl e' e5;simp only[osI,vab]at h;obtain⟨rfl,rfl⟩:=h;simp only at h4;have f2:=qt e2
       have f3:=qt e3;have f4:=qt e4
       have w:∀{q u r m:Int},(aV s q).ok=true/\(aV s q).u<=m/\u=(aV s q).u/\r=(aV s q).next->aV s q=⟨u,r,true⟩:=by rintro q u r m ⟨a,_,rfl,rfl⟩;rw[<-a]
       have e6:AN s p5=some (sl,e'):=by
        unfold ig at e5;unfold AN;split at e5
        .cases e5
        rename_i n q g;simp only[g,e5,h4,if_true]
       unfold tZ;simp only[e0,e1,w f2,w f3,w f4,e6];rw[if_pos ⟨by rw[f2.2.2.1];exact f2.2.1,by rw[f3.2.2.1];exact f3.2.1,by rw[f4.2.2.1];exact f4.2.1,hc⟩]
      cases h
     cases h
    cases h
   cases h
  cases h
 cases h
structure Jb.form (j:Jb):Prop where
 ask:j.x.form
 id:0<=j.id/\j.id<18446744073709551616
 left:0<=j.left/\j.left<1000
 runs:j.runs=decide (j.left≠0)
 sm:j.x.sm
theorem Jb.form.u64 {j:Jb} (h:j.form):Dem.u64 j.left=j.left/\IntKind.i64.wrap j.left=j.left:=by have:=h.left;refine⟨by unfold Dem.u64;omega,by rw[wrap64 (by omega) (by omega)]⟩
theorem Lb(j:Jb):eL j=aF j.id++(tM j.x++aF (Dem.u64 j.left)):=by unfold eL;rw[vas]
theorem Pg{j:Jb}(h:j.form){s a b:az}{n:Int}(hs:s=a++(eL j++b))(hn:n=a.length):vO s n=some (j,n+((eL j).length:Nat)):=by
 obtain⟨hu,hw⟩:=h.u64;have hl:=h.left
 rw[Lb,hu]at hs ⊢;have e1:=dn h.id.1 h.id.2 (s:=s) (a:=a) (b:=tM j.x++(aF j.left++b)) (n:=n) (by rw[hs];simp) hn
 have e2:=Pf ((HH h.ask).whole s (a++aF j.id) (aF j.left++b) (n+((aF j.id).length:Nat)) (by rw[hs];simp) (by rw[hn];simp)) h.ask;have e3:=dn (u:=j.left) (by omega) (by omega) (s:=s) (a:=a++aF j.id++tM j.x) (b:=b) (n:=n+((aF j.id).length:Nat)+((tM j.x).length:Nat)) (by rw[hs];simp) (by rw[hn];simp;omega)
 unfold vO;simp only[e1,e2,e3,hw];simp only[osI,vab,vaa];refine⟨?_,by omega⟩;rw[<-h.runs]
theorem UH{j:Jb}(h:j.form){s a:az}{n:Int}{k:Nat}(hk:k<(eL j).length)(hs:s=a++(eL j).take k)(hn:n=a.length):DK s n:=by
 obtain⟨hu,hw⟩:=h.u64;have hl:=h.left
 rw[Lb,hu]at hs hk;rw[bO]at hs;simp only[vaa]at hk;split at hs
 .rename_i iw;exact .inl (eg h.id.1 h.id.2 iw hs hn)
 rename_i iw;refine .inr ⟨j.id,_,dn h.id.1 h.id.2 hs hn,?_⟩;rw[bO]at hs;split at hs
 .rename_i hk2;exact .inl ((HH h.ask).rV s (a++aF j.id) _ _ hk2 (by rw[hs];simp) (by rw[hn];simp))
 rename_i hk2;refine .inr ⟨j.x,_,Pf ((HH h.ask).whole s (a++aF j.id) ((aF j.left).take (k-(aF j.id).length-(tM j.x).length)) (n+((aF j.id).length:Nat)) (by rw[hs];simp) (by rw[hn];simp)) h.ask,h.sm,?_⟩;exact eg (u:=j.left) (a:=a++aF j.id++tM j.x) (k:=k-(aF j.id).length-(tM j.x).length) (by omega) (by omega) (by omega) (by rw[hs];simp) (by rw[hn];simp;omega)
def qJ(q:List bR)(l:List Jb):List bR:=l.foldl (λq j=>if j.runs then q else(gk q ⟨j.id,j.x.prio⟩).1) q
theorem HI:∀(l:List Jb),(∀j∈l,j.form)->∀(s a b:az) (n:Int) (acc:List Jb) (q:List bR),s=a++((l.map eL).flatten++b)->n=a.length->
 gT s l.length acc q n=some (acc++l,qJ q l,n+((l.map eL).flatten.length:Nat))
 |[],_,s,a,b,n,acc,q,_,_=>by simp[gT,qJ]|x::l,hl,s,a,b,n,acc,q,hs,hn=>by have e:=Pg (hl x (by simp)) (s:=s) (a:=a) (b:=(l.map eL).flatten++b) (n:=n) (by rw[hs];simp) hn;rw[List.length_cons,gT,e];simp only;rw[HI l (λy hy=>hl y (by simp[hy])) s (a++eL x) b _ _ _ (by rw[hs];simp) (by rw[hn];simp)];simp[qJ];omega
theorem FX:∀(l:List Jb),(∀j∈l,j.form)->∀(s a:az) (n:Int) (k:Nat),k<(l.map eL).flatten.length->s=a++(l.map eL).flatten.take k->n=a.length->BR s l.length n
 |[],_,s,a,n,k,hk,_,_=>by simp at hk|x::l,hl,s,a,n,k,hk,hs,hn=>by
  rw[List.map_cons,List.flatten_cons,bO]at hs;rw[List.map_cons,List.flatten_cons,vaa]at hk;rw[List.length_cons,BR];split at hs
  .rename_i iw;exact .inl (UH (hl x (by simp)) iw hs hn)
  rename_i iw;refine .inr ⟨x,_,Pg (hl x (by simp)) hs hn,(hl x (by simp)).sm,?_⟩;exact FX l (λy hy=>hl y (by simp[hy])) s (a++eL x) _ (k-(eL x).length) (by omega) (by rw[hs];simp) (by rw[hn];simp)
theorem wT:∀(l:List Jb) (q:List bR),zS q->wG l->(∀j∈l,∀x∈q,x.id≠j.id)->(∀j∈l,gA ⟨j.id,j.x.prio⟩=false)->q.length+l.length<=32->
 zS (qJ q l)/\∀x,x∈qJ q l↔x∈q∨∃j∈l,j.runs=false/\x=⟨j.id,j.x.prio⟩
 |[],q,hq,_,_,_,_=>⟨hq,λx=>by simp[qJ]⟩|j::l,q,hq,ha,hn,hw,hl=>by
  have ha2:=(List.pairwise_cons.1 ha);simp only[List.length_cons]at hl;cases hr:j.runs with
  |true=>
   have e:qJ q (j::l)=qJ q l:=by simp[qJ,hr]
   obtain⟨g1,g2⟩:=wT l q hq ha2.2 (λy hy=>hn y (by simp[hy])) (λy hy=>hw y (by simp[hy])) (by omega);rw[e];refine⟨g1,λx=>by rw[g2 x];simp[hr]⟩
  |false=>
   have e:qJ q (j::l)=qJ (gk q ⟨j.id,j.x.prio⟩).1 l:=by simp[qJ,hr]
   rcases tO q ⟨j.id,j.x.prio⟩with⟨_,_,h⟩|⟨h1,_⟩
   .exfalso;rcases h with h|⟨x,hx,h⟩|h
    .rw[hw j (by simp)]at h;cases h
    .exact hn j (by simp) x hx h
    omega
   have ack:=Dn hq (e:=⟨j.id,j.x.prio⟩) (λx hx=>hn j (by simp) x hx);have hmem:∀x,x∈q.take (vu q ⟨j.id,j.x.prio⟩)++⟨j.id,j.x.prio⟩::q.drop (vu q ⟨j.id,j.x.prio⟩)↔x∈q∨x=⟨j.id,j.x.prio⟩:=by
    intro x;have:x∈q↔x∈q.take (vu q ⟨j.id,j.x.prio⟩)∨x∈q.drop (vu q ⟨j.id,j.x.prio⟩):=by rw[<-vaD,List.take_append_drop]
    rw[vaD,vax,this];constructor
    .rintro(h|h|h)
     .exact .inl (.inl h)
     .exact .inr h
     exact .inl (.inr h)
    rintro((h|h)|h)
    .exact .inl h
    .exact .inr (.inr h)
    exact .inr (.inl h)
   have Iv:(gk q ⟨j.id,j.x.prio⟩).1=q.take (vu q ⟨j.id,j.x.prio⟩)++⟨j.id,j.x.prio⟩::q.drop (vu q ⟨j.id,j.x.prio⟩):=by rw[h1]
   rw[<-Iv]at ack hmem;have hlen:(gk q ⟨j.id,j.x.prio⟩).1.length<=q.length+1:=by rw[Iv];simp;omega
   obtain⟨g1,g2⟩:=wT l (gk q ⟨j.id,j.x.prio⟩).1 ack ha2.2 (λy hy x hx=>by
    rcases(hmem x).1 hx with h|rfl
    .exact hn y (by simp[hy]) x h
    have:=ha2.1 y hy;simp only;omega) (λy hy=>hw y (by simp[hy])) (by omega)
   rw[e];refine⟨g1,λx=>?_⟩;rw[g2 x,hmem x];simp[hr,or_assoc]
structure cw.form (x:cw):Prop where
 round:0<=x.round/\x.round<18446744073709551616
 id:0<=x.id/\x.id<18446744073709551616
 kind:0<=x.kind/\x.kind<1000
def Lc(s:az)(p:Int):Option (cw×Int):=(By s p).bind λa=>(By s a.2).bind λb=>(By s b.2).bind λc=>some ((⟨a.1,b.1,IntKind.i64.wrap c.1⟩:cw),c.2)
theorem ul(s:az):∀(n:Nat) (l:List cw) (p:Int),dS s n l p=kV Lc s n l p
 |0,_,_=>rfl|n+1,l,p=>by
  rw[dS,kV];unfold Lc By;rcases aV s p with⟨a,p1,_|_⟩
  .rfl
  simp only[if_true,Option.bind_some];rcases aV s p1 with⟨b,p2,_|_⟩
  .rfl
  simp only[if_true,Option.bind_some];rcases aV s p2 with⟨c,p3,_|_⟩
  .rfl
  simp only[if_true,Option.bind_some];exact ul s n _ _
theorem Ld{x:cw}(h:x.form):sF Lc (oT x) x:=by
 obtain⟨r,i,k⟩:=x;have h1:=h.round
 have h2:=h.id;have h3:=h.kind
 simp only at h1 h2 h3;have hu:u64 k=k:=by unfold u64;omega
 have hw:IntKind.i64.wrap k=k:=wrap64 (by omega) (by omega);have l3:=HG (λc=>(⟨r,i,IntKind.i64.wrap c⟩:cw)) (D5 (u:=k) (by omega) (by omega))
 have l2:=mq (g:=By) (h:=λi s q=>(By s q).bind λc=>some ((⟨r,i,IntKind.i64.wrap c.1⟩:cw),c.2)) (D5 (u:=i) (by omega) (by omega)) l3;have l1:=mq (g:=By) (h:=λr s q=>(By s q).bind λb=>(By s b.2).bind λc=>some ((⟨r,b.1,IntKind.i64.wrap c.1⟩:cw),c.2)) (D5 (u:=r) (by omega) (by omega)) l2
 rw[hw]at l1;unfold oT;simp only;rw[hu,vas];exact l1
structure oq.form (x:oq):Prop where
 first:0<=x.first/\x.first<18446744073709551616
 len:x.l.length<=32
 notes:∀n∈x.l,n.form
theorem HJ(x:oq):bX x=aF x.first++(aF x.l.length++(x.l.map oT).flatten):=by unfold bX;rw[vas]
theorem HK{x:oq}(h:x.form){s a b:az}{n:Int}(hs:s=a++(bX x++b))(hn:n=a.length):fB s n=some (x,n+((bX x).length:Nat)):=by
 have hl:=h.len;rw[HJ]at hs ⊢;have e1:=dn h.first.1 h.first.2 (s:=s) (a:=a) (b:=aF x.l.length++((x.l.map oT).flatten++b)) (n:=n) (by rw[hs];simp) hn
 have e2:=dn (u:=x.l.length) (by omega) (by omega) (s:=s) (a:=a++aF x.first) (b:=(x.l.map oT).flatten++b) (n:=n+((aF x.first).length:Nat)) (by rw[hs];simp) (by rw[hn];simp);have e3:=(zf (g:=Lc) (put:=oT) (l:=x.l) (m:=x.l.length) (λy hy=>Ld (h.notes y hy)) rfl).whole s (a++aF x.first++aF x.l.length) b (n+((aF x.first).length:Nat)+((aF x.l.length).length:Nat)) (by rw[hs];simp) (by rw[hn];simp;omega)
 unfold fB;simp only[e1,e2];rw[ul,vak,e3];simp only[osI,vab,vaa];refine⟨hY,by omega⟩
theorem FY{x:oq}(h:x.form){s a:az}{n:Int}{k:Nat}(hk:k<(bX x).length)(hs:s=a++(bX x).take k)(hn:n=a.length):yU s n:=by
 have hl:=h.len;rw[HJ]at hs hk;rw[bO]at hs;simp only[vaa]at hk;split at hs
 .rename_i iw;exact .inl (eg h.first.1 h.first.2 iw hs hn)
 rename_i iw;refine .inr ⟨x.first,_,dn h.first.1 h.first.2 hs hn,?_⟩;rw[bO]at hs;split at hs
 .rename_i hk2;exact .inl (eg (u:=x.l.length) (a:=a++aF x.first) (by omega) (by omega) hk2 (by rw[hs];simp) (by rw[hn];simp))
 rename_i hk2;refine .inr ⟨x.l.length,_,dn (u:=x.l.length) (a:=a++aF x.first) (b:=(x.l.map oT).flatten.take (k-(aF x.first).length-(aF x.l.length).length)) (by omega) (by omega) (by rw[hs];simp) (by rw[hn];simp),by omega,?_⟩;rw[ul,vak];exact(zf (g:=Lc) (put:=oT) (l:=x.l) (m:=x.l.length) (λy hy=>Ld (h.notes y hy)) rfl).rV s (a++aF x.first++aF x.l.length) _ (k-(aF x.first).length-(aF x.l.length).length) (by omega) (by rw[hs];simp) (by rw[hn];simp;omega)
structure aR.form (e:aR):Prop where
 path:e.path.length<=98
 cU:e.cU.w
 used:e.used.w
theorem vj{e:aR}(h:e.form):NL tN (gm e) e:=by
 have hput:gm e=aB e.path++(eZ e.cU++eZ e.used):=by unfold gm;rw[vas]
 have hp:=h.path;refine⟨λs a b n hs hn=>?_,λs a n k hk hs hn=>?_⟩
 .rw[hput]at hs ⊢;have e1:=kU (t:=e.path) (m:=98) (by omega) (by omega) (s:=s) (a:=a) (b:=eZ e.cU++(eZ e.used++b)) (n:=n) (by rw[hs];simp) hn
  have e2:=wS h.cU (s:=s) (a:=a++aB e.path) (b:=eZ e.used++b) (n:=n+((aB e.path).length:Nat)) (by rw[hs];simp) (by rw[hn];simp);have e3:=wS h.used (s:=s) (a:=a++aB e.path++eZ e.cU) (b:=b) (n:=n+((aB e.path).length:Nat)+((eZ e.cU).length:Nat)) (by rw[hs];simp) (by rw[hn];simp;omega)
  unfold tN;simp only[e1,e2,e3,Bool.not_true,Bool.false_eq_true,if_false,bD.mk.injEq,vaa];refine⟨hY,by omega,hY⟩
 rw[hput]at hs hk;rw[bO]at hs;simp only[vaa]at hk;unfold tN;split at hs
 .rename_i iw;rw[lZ (t:=e.path) (m:=98) (by omega) (by omega) iw hs hn];rfl
 rename_i iw;have e1:=kU (t:=e.path) (m:=98) (by omega) (by omega) hs hn
 rw[bO]at hs;split at hs
 .rename_i hk2;have e2:=uj h.cU (s:=s) (a:=a++aB e.path) (n:=n+((aB e.path).length:Nat)) hk2 (by rw[hs];simp) (by rw[hn];simp)
  simp only[e1,e2];rfl
 rename_i hk2;have e2:=wS h.cU (s:=s) (a:=a++aB e.path) (b:=(eZ e.used).take (k-(aB e.path).length-(eZ e.cU).length)) (n:=n+((aB e.path).length:Nat)) (by rw[hs];simp) (by rw[hn];simp)
 have e3:=uj h.used (s:=s) (a:=a++aB e.path++eZ e.cU) (n:=n+((aB e.path).length:Nat)+((eZ e.cU).length:Nat)) (k:=k-(aB e.path).length-(eZ e.cU).length) (by omega) (by rw[hs];simp) (by rw[hn];simp;omega);simp only[e1,e2,e3];rfl
theorem D6:∀(l:List aR),(∀x∈l,x.form)->(∀x∈l,x≠aR.zero)->∀(s a b:az) (n:Int) (acc:List aR),s=a++((l.map gm).flatten++b)->n=a.length->
 gM s l.length acc n=⟨acc++l,n+((l.map gm).flatten.length:Nat),true⟩
 |[],_,_,s,a,b,n,acc,_,_=>by simp[gM]|x::l,hl,hz,s,a,b,n,acc,hs,hn=>by have e:=(vj (hl x (by simp))).whole s a ((l.map gm).flatten++b) n (by rw[hs];simp) hn;rw[List.length_cons,gM,e];simp only[Bool.not_true,Bool.false_eq_true,if_false,hz x (by simp),decide_false,Bool.false_and];rw[D6 l (λy hy=>hl y (by simp[hy])) (λy hy=>hz y (by simp[hy])) s (a++gm x) b _ _ (by rw[hs];simp) (by rw[hn];simp)];simp;omega
theorem FZ:∀(l:List aR),(∀x∈l,x.form)->(∀x∈l,x≠aR.zero)->∀(s a:az) (n:Int) (k:Nat) (acc:List aR),k<(l.map gm).flatten.length->s=a++(l.map gm).flatten.take k->n=a.length->
 (gM s l.length acc n).ok=false
 |[],_,_,s,a,n,k,acc,hk,_,_=>by simp at hk|x::l,hl,hz,s,a,n,k,acc,hk,hs,hn=>by
  rw[List.map_cons,List.flatten_cons,bO]at hs;rw[List.map_cons,List.flatten_cons,vaa]at hk;rw[List.length_cons,gM];split at hs
  .rename_i iw;rw[(vj (hl x (by simp))).rV s a n k iw hs hn];rfl
  rename_i iw;rw[(vj (hl x (by simp))).whole s a _ n hs hn];simp only[Bool.not_true,Bool.false_eq_true,if_false,hz x (by simp),decide_false,Bool.false_and];exact FZ l (λy hy=>hl y (by simp[hy])) (λy hy=>hz y (by simp[hy])) s (a++gm x) _ (k-(gm x).length) _ (by omega) (by rw[hs];simp) (by rw[hn];simp)
theorem UI{l:List aR}(hr:ic l=true)(TG:l.length<=16)(hf:∀x∈l,x.form){e:aR}{r:List aR}(he:l=e::r)(hz:∀x∈r,x≠aR.zero):NL pG (iY l) l:=by
 subst he;have hf0:=hf e (by simp)
 have hf1:∀x∈r,x.form:=λx hx=>hf x (by simp[hx]);have step:∀(s:az) (n:Int) (q:Int),tN s n=⟨e,q,true⟩->gM s (e::r).length [] n=gM s r.length [e] q:=by intro s n q g;rw[List.length_cons,gM,g];simp
 have hput:iY (e::r)=aF (e::r).length++(gm e++(r.map gm).flatten):=by unfold iY;simp
 refine⟨λs a b n hs hn=>?_,λs a n k hk hs hn=>?_⟩
 .rw[hput]at hs ⊢;have e1:=dn (u:=(e::r).length) (by omega) (by omega) (s:=s) (a:=a) (b:=gm e++((r.map gm).flatten++b)) (n:=n) (by rw[hs];simp) hn
  have e2:=(vj hf0).whole s (a++aF (e::r).length) ((r.map gm).flatten++b) (n+((aF (e::r).length).length:Nat)) (by rw[hs];simp) (by rw[hn];simp);have e3:=D6 r hf1 hz s (a++aF (e::r).length++gm e) b (n+((aF (e::r).length).length:Nat)+((gm e).length:Nat)) [e] (by rw[hs];simp) (by rw[hn];simp;omega)
  have e4:=step _ _ _ e2;rw[e3]at e4;unfold pG;simp only[e1,vak,e4];rw[if_neg (by simp),if_neg (by omega),if_neg (by simp)];simp only[List.singleton_append,hr,Bool.not_true,Bool.false_eq_true,if_false,bD.mk.injEq,vaa];refine⟨hY,by omega,hY⟩
 rw[hput]at hs hk;rw[bO]at hs;rw[vaa,vaa]at hk;unfold pG;split at hs
 .rename_i iw;rw[eg (u:=(e::r).length) (by omega) (by omega) iw hs hn];rfl
 rename_i iw;have e1:=dn (u:=(e::r).length) (by omega) (by omega) hs hn
 have key:(gM s (e::r).length [] (n+((aF (e::r).length).length:Nat))).ok=false:=by
  rw[bO]at hs;split at hs
  .rename_i hk2;have e2:=(vj hf0).rV s (a++aF (e::r).length) (n+((aF (e::r).length).length:Nat)) _ hk2 (by rw[hs];simp) (by rw[hn];simp)
   rw[List.length_cons,gM];rw[List.length_cons]at e2;rw[e2];rfl
  rename_i hk2;have e2:=(vj hf0).whole s (a++aF (e::r).length) ((r.map gm).flatten.take (k-(aF (e::r).length).length-(gm e).length)) (n+((aF (e::r).length).length:Nat)) (by rw[hs];simp) (by rw[hn];simp)
  rw[step _ _ _ e2];exact FZ r hf1 hz s (a++aF (e::r).length++gm e) _ (k-(aF (e::r).length).length-(gm e).length) _ (by omega) (by rw[hs];simp) (by rw[hn];simp;omega)
 simp only[e1,vak];rw[if_neg (by simp),if_neg (by omega),if_pos (by rw[key];rfl)];rfl
structure cI.form (s:cI):Prop where
 ok:s.ok
 round:0<=s.round/\s.round<18446744073709551616
 bt:s.bt.form
 Z3:∀e∈s.tree,e.form
 aJ:∀j∈s.aJ,j.form
 ev:s.ev.form
 au:s.au.form
theorem mb{w r a s:az}{k:Nat}(hk:k<(w++r).length)(hs:s=a++(w++r).take k):(k<w.length/\s=a++w.take k)∨(k-w.length<r.length/\s=a++(w++r.take (k-w.length))):=by
 rw[bO]at hs;rw[vaa]at hk;split at hs
 .rename_i h;exact .inl ⟨h,hs⟩
 rename_i h;exact .inr ⟨by omega,hs⟩
theorem cI.form.tree {s:cI} (h:s.form):NL pG (iY s.tree) s.tree:=by
 have hr:ic s.tree=true:=by
  have:=h.ok.right;unfold gR at this;split at this
  .cases this
  split at this
  .cases this
  rename_i g;simpa using g
 obtain⟨e,r,he,hp⟩:=h.ok.tree.root;refine UI hr h.ok.tree.most h.Z3 he λx hx e0=>?_;have ha:=h.ok.tree.GL
 rw[he,List.pairwise_cons]at ha;have:=ha.1 x hx
 rw[hp,e0]at this;exact absurd this (jJ _)
theorem NO{s:cI}(h:s.ok):qJ [] s.aJ=s.queue:=by
 have hw:∀j∈s.aJ,gA ⟨j.id,j.x.prio⟩=false:=λj hj=>by have:=(fV.1 (h.yJ j hj).1).2.2.1;unfold gA;simp only[Bool.or_eq_false_iff,vap];omega
 obtain⟨g1,g2⟩:=wT s.aJ [] List.Pairwise.nil h.ids (λ_ _ x hx=>by cases hx) hw (by have:=h.most;simp;omega);refine KY g1 h.zU λq=>?_;rw[g2 q,h.vv q];simp
theorem qK(s:cI):eM s=aF s.round++(aF s.next++(iy s.bt++(iY s.tree++(aF s.aJ.length++((s.aJ.map eL).flatten++(bX s.ev++bX s.au)))))):=by unfold eM;simp only[vas]
theorem Bl{S:cI}(h:S.form){s b:az}(hs:s=eM S++b):∃p1 p2 p3 p4 p5 p6 p7,aV s 0=⟨S.round,p1,true⟩/\aV s p1=⟨S.next,p2,true⟩/\tK s p2=⟨S.bt,p3,true⟩/\p3<=s.length/\pG s p3=⟨S.tree,p4,true⟩/\p4<=s.length/\
 aV s p4=⟨S.aJ.length,p5,true⟩/\gT s S.aJ.length [] [] p5=some (S.aJ,S.queue,p6)/\fB s p6=some (S.ev,p7)/\fB s p7=some (S.au,((eM S).length:Int)):=by
 have V8:=h.ok.next
 have hm:=h.ok.most;rw[qK]at hs;have e1:=dn h.round.1 h.round.2 (s:=s) (a:=[]) (b:=aF S.next++(iy S.bt++(iY S.tree++(aF S.aJ.length++((S.aJ.map eL).flatten++(bX S.ev++(bX S.au++b))))))) (n:=0) (by rw[hs];simp) (by simp)
 have e2:=dn (u:=S.next) (by omega) (by omega) (s:=s) (a:=aF S.round) (b:=iy S.bt++(iY S.tree++(aF S.aJ.length++((S.aJ.map eL).flatten++(bX S.ev++(bX S.au++b)))))) (n:=0+((aF S.round).length:Nat)) (by rw[hs];simp) (by simp);have e3:=(D3 h.bt).whole s (aF S.round++aF S.next) (iY S.tree++(aF S.aJ.length++((S.aJ.map eL).flatten++(bX S.ev++(bX S.au++b))))) (0+((aF S.round).length:Nat)+((aF S.next).length:Nat)) (by rw[hs];simp) (by simp)
 have e4:=h.tree.whole s (aF S.round++aF S.next++iy S.bt) (aF S.aJ.length++((S.aJ.map eL).flatten++(bX S.ev++(bX S.au++b)))) (0+((aF S.round).length:Nat)+((aF S.next).length:Nat)+((iy S.bt).length:Nat)) (by rw[hs];simp) (by simp;omega);have e5:=dn (u:=S.aJ.length) (by omega) (by omega) (s:=s) (a:=aF S.round++aF S.next++iy S.bt++iY S.tree) (b:=(S.aJ.map eL).flatten++(bX S.ev++(bX S.au++b))) (n:=0+((aF S.round).length:Nat)+((aF S.next).length:Nat)+((iy S.bt).length:Nat)+((iY S.tree).length:Nat)) (by rw[hs];simp) (by simp;omega)
 have e6:=HI S.aJ h.aJ s (aF S.round++aF S.next++iy S.bt++iY S.tree++aF S.aJ.length) (bX S.ev++(bX S.au++b)) (0+((aF S.round).length:Nat)+((aF S.next).length:Nat)+((iy S.bt).length:Nat)+((iY S.tree).length:Nat)+((aF S.aJ.length).length:Nat)) [] [] (by rw[hs];simp) (by simp;omega);have e7:=HK h.ev (s:=s) (a:=aF S.round++aF S.next++iy S.bt++iY S.tree++aF S.aJ.length++(S.aJ.map eL).flatten) (b:=bX S.au++b) (n:=0+((aF S.round).length:Nat)+((aF S.next).length:Nat)+((iy S.bt).length:Nat)+((iY S.tree).length:Nat)+((aF S.aJ.length).length:Nat)+((S.aJ.map eL).flatten.length:Nat)) (by rw[hs];simp) (by simp only[vaa];omega)
 have e8:=HK h.au (s:=s) (a:=aF S.round++aF S.next++iy S.bt++iY S.tree++aF S.aJ.length++(S.aJ.map eL).flatten++bX S.ev) (b:=b) (n:=0+((aF S.round).length:Nat)+((aF S.next).length:Nat)+((iy S.bt).length:Nat)+((iY S.tree).length:Nat)+((aF S.aJ.length).length:Nat)+((S.aJ.map eL).flatten.length:Nat)+((bX S.ev).length:Nat)) (by rw[hs];simp) (by simp only[vaa];omega);rw[NO h.ok,List.nil_append]at e6;have hl:s.length=(aF S.round).length+((aF S.next).length+((iy S.bt).length+((iY S.tree).length+((aF S.aJ.length).length+((S.aJ.map eL).flatten.length+((bX S.ev).length+(bX S.au).length))))))+b.length:=by rw[hs];simp only[vaa]
 refine⟨_,_,_,_,_,_,_,e1,e2,e3,by omega,e4,by omega,e5,e6,e7,?_⟩;rw[e8,qK];simp only[osI,vab,vaa];refine⟨hY,by omega⟩
theorem NP{S:cI}(h:S.form){s:az}{k:Nat}(hk:k<(eM S).length)(hs:s=(eM S).take k):yW s 0:=by
 have V8:=h.ok.next
 have hm:=h.ok.most;rw[qK]at hs hk;rcases mb hk (a:=[]) (s:=s) (by rw[hs];rfl)with⟨h1,hs⟩|⟨hk,hs⟩
 .exact .inl (eg h.round.1 h.round.2 h1 hs rfl)
 refine .inr ⟨S.round,_,dn h.round.1 h.round.2 hs rfl,?_⟩;rcases mb hk (a:=aF S.round) (s:=s) (by rw[hs];simp)with⟨h1,hs⟩|⟨hk,hs⟩
 .exact .inl (eg (u:=S.next) (by omega) (by omega) h1 hs (by simp))
 refine .inr ⟨S.next,_,dn (u:=S.next) (by omega) (by omega) hs (by simp),?_⟩;rcases mb hk (a:=aF S.round++aF S.next) (s:=s) (by rw[hs];simp)with⟨h1,hs⟩|⟨hk,hs⟩
 .exact .inl ((D3 h.bt).rV s _ _ _ h1 hs (by simp))
 have BJ:(aF S.round).length+(aF S.next).length+(iy S.bt).length<=s.length:=by rw[hs];simp;omega
 refine .inr ⟨S.bt.nodes,S.bt.places,_,(D3 h.bt).whole s _ _ _ hs (by simp),by omega,?_⟩;rcases mb hk (a:=aF S.round++aF S.next++iy S.bt) (s:=s) (by rw[hs];simp)with⟨h1,hs⟩|⟨hk,hs⟩
 .exact .inl (h.tree.rV s _ _ _ h1 hs (by simp;omega))
 have hl4:(aF S.round).length+(aF S.next).length+(iy S.bt).length+(iY S.tree).length<=s.length:=by rw[hs];simp;omega
 refine .inr ⟨S.tree,_,h.tree.whole s _ _ _ hs (by simp;omega),by omega,?_⟩;rcases mb hk (a:=aF S.round++aF S.next++iy S.bt++iY S.tree) (s:=s) (by rw[hs];simp)with⟨h1,hs⟩|⟨hk,hs⟩
 .exact .inl (eg (u:=S.aJ.length) (by omega) (by omega) h1 hs (by simp;omega))
 refine .inr ⟨S.aJ.length,_,dn (u:=S.aJ.length) (by omega) (by omega) hs (by simp;omega),by omega,?_⟩;rw[vak];rcases mb hk (a:=aF S.round++aF S.next++iy S.bt++iY S.tree++aF S.aJ.length) (s:=s) (by rw[hs];simp)with⟨h1,hs⟩|⟨hk,hs⟩
 .exact .inl (FX S.aJ h.aJ s _ _ _ h1 hs (by simp;omega))
 refine .inr ⟨_,_,_,HI S.aJ h.aJ s _ _ _ [] [] hs (by simp;omega),λj hj=>(h.aJ j (by simpa using hj)).sm,?_⟩;rcases mb hk (a:=aF S.round++aF S.next++iy S.bt++iY S.tree++aF S.aJ.length++(S.aJ.map eL).flatten) (s:=s) (by rw[hs];simp)with⟨h1,hs⟩|⟨hk,hs⟩
 .exact .inl (FY h.ev h1 hs (by simp only[vaa];omega))
 refine .inr ⟨S.ev,_,HK h.ev hs (by simp only[vaa];omega),by have:=h.ev.len;omega,?_⟩;exact FY h.au (a:=aF S.round++aF S.next++iy S.bt++iY S.tree++aF S.aJ.length++(S.aJ.map eL).flatten++bX S.ev) hk (by rw[hs];simp) (by simp only[vaa];omega)
theorem Rc{x:oq}(h:x.form){n:cw}(hn:n.form):(tell x n).form:=by
 refine⟨?_,JW h.len n,λy hy=>?_⟩
 .unfold tell;split
  .show 0<=u64 (x.first+1)/\u64 (x.first+1)<18446744073709551616;unfold u64;omega
  exact h.first
 have:y∈x.l++[n]:=by
  unfold tell at hy;split at hy
  .exact List.mem_of_mem_drop hy
  exact hy
 rcases List.mem_append.1 this with g|g
 .exact h.notes y g
 rw[List.mem_singleton.1 g];exact hn
def NF(s t:cI)(id:Int):Prop:=t.round=s.round/\t.au=s.au/\(t.ev=s.ev∨∃k:Int,0<=k/\k<1000/\t.ev=tell s.ev ⟨s.round,id,k⟩)
theorem NF.refl (s:cI) (id:Int):NF s s id:=⟨rfl,rfl,.inl rfl⟩
theorem Rd(s:cI)(x:Ask):NF s (dF s x).1 s.next:=by
 unfold dF;split
 .exact NF.refl _ _
 split
 .exact NF.refl _ _
 split
 .exact NF.refl _ _
 split
 .exact NF.refl _ _
 exact⟨rfl,rfl,.inr ⟨1,by decide,by decide,rfl⟩⟩
theorem Le(s:cI)(id:Int)(names:List az):NF s (dQ s id names).1 id:=by
 unfold dQ;split
 .exact NF.refl _ _
 unfold kP;split
 .exact NF.refl _ _
 split
 .exact NF.refl _ _
 split
 .exact NF.refl _ _
 split
 .exact NF.refl _ _
 split
 .exact NF.refl _ _
 exact⟨rfl,rfl,.inr ⟨2,by decide,by decide,rfl⟩⟩
theorem Xj(s:cI)(id:Int){kind:Int}(h:0<=kind/\kind<1000):NF s (m6 s id kind).1 id:=by
 unfold m6;split
 .exact NF.refl _ _
 split
 .exact NF.refl _ _
 exact⟨rfl,rfl,.inr ⟨kind,h.1,h.2,rfl⟩⟩
theorem Z4(s:cI)(id:Int){kind:Int}(h:0<=kind/\kind<1000):NF s (send s id kind).1 id:=by
 unfold send;split
 .exact NF.refl _ _
 simp only;split
 .exact⟨rfl,rfl,.inr ⟨kind,h.1,h.2,rfl⟩⟩
 exact⟨rfl,rfl,.inr ⟨kind,h.1,h.2,rfl⟩⟩
structure cI.iZ (s:cI):Prop where
 ok:s.ok
 cU:s.cU Bc
 round:0<=s.round/\s.round<18446744073709551616
 ev:s.ev.form
 au:s.au.form
 nodes:∀n∈s.bt.nodes,n.form
 paths:∀e∈s.tree,e.path.length<=98
theorem F0{s t:cI}{id:Int}(h:s.iZ)(ok:t.ok)(cU:t.cU Bc)(hn:t.bt.nodes=s.bt.nodes)(hp:∀e∈t.tree,∃f∈s.tree,e.path=f.path)(n:NF s t id)(hi:0<=id/\id<18446744073709551616):t.iZ:=by
 obtain⟨n1,n2,n3⟩:=n;refine⟨ok,cU,by rw[n1];exact h.round,?_,by rw[n2];exact h.au,by rw[hn];exact h.nodes,λe he=>?_⟩
 .rcases n3 with e|⟨k,k0,k1,e⟩
  .rw[e];exact h.ev
  rw[e];exact Rc h.ev ⟨h.round,hi,⟨k0,k1⟩⟩
 obtain⟨f,hf,e1⟩:=hp e he;rw[e1];exact h.paths f hf
theorem rW{s t:cI}{id:Int}(h:s.iZ)(ok:t.ok)(k:mY s t)(n:NF s t id)(hi:0<=id/\id<18446744073709551616):t.iZ:=
 F0 h ok (k.cU h.cU) k.nodes k.paths n hi
theorem Lf(s:cI)(x:Ask):(dF s x).1.bt=s.bt/\(dF s x).1.tree=s.tree:=by
 unfold dF;split
 .exact⟨rfl,rfl⟩
 split
 .exact⟨rfl,rfl⟩
 split
 .exact⟨rfl,rfl⟩
 split
 .exact⟨rfl,rfl⟩
 exact⟨rfl,rfl⟩
theorem Re{s:cI}(h:s.iZ)(x:iQ):(jS x s).iZ:=by
 have hok:=h.ok.done x;have D7:=KZ oz h.ok h.cU x
 have hid:0<=((x.a%12:Nat):Int)/\((x.a%12:Nat):Int)<18446744073709551616:=by omega
 unfold jS at hok D7 ⊢;split
 .rename_i c;rw[if_pos c]at hok D7;obtain⟨k1,k2⟩:=Lf s (Bu x);exact F0 h hok D7 (by rw[k1]) (λe he=>⟨e,by rw[<-k2];exact he,rfl⟩) (Rd s _) (by have:=h.ok.next;omega)
 rename_i c;rw[if_neg c]at hok D7;split
 .rename_i c2;rw[if_pos c2]at hok D7;split
  .rename_i c3;rw[if_pos c3]at hok D7;exact rW h hok (oX h.ok _ _) (Le s _ _) hid
  exact h
 rename_i c2;rw[if_neg c2]at hok D7;split
 .rename_i c3;rw[if_pos c3]at hok D7;exact rW h hok (DQ h.ok _ _) (Xj s _ (by decide)) hid
 rename_i c3;rw[if_neg c3]at hok D7;split
 .rename_i c4;rw[if_pos c4]at hok D7;exact rW h hok (FK h.ok _ _) (Z4 s _ (by decide)) hid
 rename_i c4;rw[if_neg c4]at hok D7;exact rW h hok (oX h.ok _ _) (Le s _ _) hid
theorem Rf{p:cR}{n:Node}(h:∀x∈p.nodes,x.form)(hn:n.cap.w)(hl:n.name.length<=32)(hq:∀q∈n.labels,q.key.length<=32/\q.value.length<=32):∀x∈(sD p n).1.nodes,x.form:=by
 rcases rH p n with⟨e,_⟩|⟨hf,_,_,e⟩
 .rw[e];exact h
 rw[e];have hr:kL n.labels=true:=by unfold Node.iZ at hf;rw[vae]at hf;exact hf.2
 intro x hx;rcases List.mem_append.1 hx with g|g
 .exact h x (van g)
 rcases List.mem_cons.1 g with rfl|g
 .exact⟨hl,hn,hr,hq⟩
 exact h x (List.mem_of_mem_drop g)
theorem Aj(n:Nat):∀i≤3,∀x∈(fA n i).nodes,x.form
 |0,_=>λx hx=>by cases hx
 |i+1,hi=>by
  unfold fA;split
  .have h1:∀i<3,(pH.getD i []).length<=32/\∀q∈Bv i,q.key.length<=32/\q.value.length<=32:=by decide+kernel
   have:=h1 i (by omega);exact Rf (Aj n i (by omega)) (XW i (by omega)) this.1 this.2
  exact Aj n i (by omega)
theorem HL(n:Nat):(dY n).iZ:=by refine⟨wJ n,Bd _ n,⟨by unfold dY;simp,by unfold dY;simp⟩,⟨⟨by unfold dY;simp,by unfold dY;simp⟩,by unfold dY;simp,λy hy=>by cases hy⟩,⟨⟨by unfold dY;simp,by unfold dY;simp⟩,by unfold dY;simp,λy hy=>by cases hy⟩,Aj n 3 (vad _),λe he=>?_⟩;unfold dY at he;rw[GU _ (Nat.mod_lt _ (by decide))]at he;simp only[qo,vax,List.not_mem_nil,or_false]at he;rcases he with rfl|rfl|rfl|rfl<;>simp
theorem Lg(n:Nat)(l:List iQ)(k:Nat):(dh n l k).iZ:=by unfold dh;exact uR (P:=cI.iZ) (λa b h=>Re h b) _ _ (HL n)
theorem cI.iZ.form {s:cI} (h:s.iZ):s.form where
 ok:=h.ok
 round:=h.round
 bt:={
  right:=wB.2 h.ok.bt
  nodes:=h.nodes
  places:=λx hx=>by obtain⟨j,hj,_,e,ev⟩:=h.ok.places x hx;obtain⟨n,hn,en⟩:=h.ok.bt.here x hx;refine⟨?_,by rw[<-en];exact(h.nodes n hn).name,by rw[ev];exact(h.ok.yJ j hj).2.1⟩;have:=h.ok.GR j hj;have:=h.ok.next;omega
  most:=h.ok.DS}
 Z3:=λe he=>⟨h.paths e he,(h.ok.tree.w e he).1,(h.ok.tree.w e he).2⟩
 aJ:=λj hj=>by
  have ha:=h.cU.xs j hj;have hc:=(h.ok.yJ j hj).1
  have hz:=(fV.1 hc).2.2.2.1;have hl:=h.ok.left j hj
  have hi:=h.ok.GR j hj;have hn:=h.ok.next
  refine⟨⟨hc,by have:=ha.path;omega,(h.ok.yJ j hj).2.1,by have:=ha.cj;omega,λm hm=>?_⟩,by omega,?_,?_,uh ha⟩
  .obtain⟨a,b,c⟩:=ha.key m hm;exact⟨by omega,by omega,λv hv=>by have:=c v hv;omega⟩
  .cases hr:j.runs with
   |true=>have:=hl.1 hr;omega|false=>have:=hl.2 hr;omega
  cases hr:j.runs with
  |true=>have:=hl.1 hr;symm;rw[decide_eq_true_iff];omega|false=>have:=hl.2 hr;symm;rw[vap];omega
 ev:=h.ev
 au:=h.au
theorem kW{α:Type}{f:α->az}{b:Nat}:∀(l:List α),(∀x∈l,(f x).length<=b)->(l.map f).flatten.length<=l.length*b
 |[],_=>by simp|x::r,h=>by
  have:=kW r (λy hy=>h y (by simp[hy]));have:=h x (by simp)
  simp only[List.map_cons,List.flatten_cons,vaa,List.length_cons,Nat.succ_mul];omega
theorem mM(s:az):(aB s).length<=s.length+10:=by have:=bG s.length;simp only[aB,vaa];omega
theorem UJ{l:List bT}(h:∀q∈l,q.key.length<=32/\q.value.length<=32)(hl:l.length<=8):(pF l).length<=1000:=by
 unfold pF;split
 .have h1:=bG l.length;have h2:=kW (f:=qg) (b:=84) l (λq hq=>by
   have:=mM q.key;have:=mM q.value;have:=h q hq
   simp only[qg,vaa];omega)
  simp only[vaa];omega
 simp
theorem NQ{p:cR}(h:p.form)(TG:p.nodes.length<=16)(hl:∀n∈p.nodes,n.labels.length<=8):(iy p).length<=100000:=by
 have h1:=bG p.nodes.length;have h2:=bG p.places.length
 have h3:=kW (f:=oC) (b:=1100) p.nodes (λn hn=>by
  have hf:=h.nodes n hn;have a1:=mM n.name;have a2:=mH n.cap;have a3:=UJ hf.pairs (hl n hn)
  have a4:=bG (if n.up then 1 else 0);have a5:=hf.name
  simp only[oC,vaa];omega)
 have h4:=kW (f:=yy) (b:=100) p.places (λx hx=>by
  have hf:=h.places x hx;have a1:=mM x.node;have a2:=mH x.v;have a4:=bG x.bL
  have a5:=hf.name;simp only[yy,vaa];omega)
 have h5:=h.most;have h6:p.nodes.length*1100<=16*1100:=Nat.mul_le_mul TG (vad _)
 have h7:p.places.length*100<=256*100:=Nat.mul_le_mul h5 (vad _);simp only[iy,vaa];omega
theorem w_u{v:bz}(h:v.w):v.u:=⟨(h 0 (by decide)).2,(h 1 (by decide)).2,(h 2 (by decide)).2,(h 3 (by decide)).2⟩
theorem Lh{n:Node}(h:n.iZ=true):n.labels.length<=8:=by unfold Node.iZ kL at h;simp only[vae,vai]at h;exact h.2.2
theorem Rg(s:cI):0<(eM s).length:=by have:=FQ 9 s.round;rw[qK];simp only[aF,vaa];omega
theorem zg{a b c:Nat}(h:a<=c):a*b<=c*b:=Nat.mul_le_mul h (vad _)
theorem Li{x:oq}(h:x.form):(bX x).length<=2000:=by
 have h1:=bG x.first
 have h2:=bG x.l.length;have h3:=kW (f:=oT) (b:=30) x.l (λy _=>by
  have:=bG y.round;have:=bG y.id;have:=bG (u64 y.kind)
  simp only[oT,vaa];omega)
 have h4:=zg (b:=30) h.len;rw[HJ];simp only[vaa];omega
theorem UK{x:Term}(h:x.form):(jR x).length<=300:=by
 have h1:=mM x.key;have h2:=bG (2*x.fk.length+(if x.no then 1 else 0))
 have h3:=kW (f:=aB) (b:=42) x.fk (λv hv=>by have:=mM v;have:=h.fk v hv;omega);have h4:=zg (b:=42) h.len
 have h5:=h.key;unfold jR;simp only[vaa];omega
theorem Xk{x:Ask}(h:x.form):(tM x).length<=2000:=by
 have hs:(yx x.cj).length<=1300:=by
  unfold yx;split
  .have h1:=bG x.cj.length;have h3:=kW (f:=jR) (b:=300) x.cj (λv hv=>UK (h.cj v hv))
   have h4:=zg (b:=300) h.len;simp only[vaa];omega
  simp
 have h1:=mM x.path;have h2:=mH x.iI
 have h3:=bG x.count;have h4:=bG x.prio
 have h5:=bG x.dX;have h6:=h.path
 unfold tM;split
 .simp
 simp only[vaa];omega
theorem mN{s:cI}(h:s.form):(eM s).length<=1000000:=by
 have h1:=bG s.round;have h2:=bG s.next
 have h3:=NQ h.bt h.ok.bt.most (λn hn=>Lh (h.ok.bt.iZ n hn));have h4:(iY s.tree).length<=5000:=by
  have a1:=bG s.tree.length;have a2:=kW (f:=gm) (b:=200) s.tree (λe he=>by
   have:=mM e.path;have:=(h.Z3 e he).path;have:=mH e.cU;have:=mH e.used
   simp only[gm,vaa];omega)
  have a3:=zg (b:=200) h.ok.tree.most;simp only[iY,vaa];omega
 have h5:=bG s.aJ.length;have h6:=kW (f:=eL) (b:=2100) s.aJ (λj hj=>by
  have:=bG j.id;have:=Xk (h.aJ j hj).ask;have:=bG (u64 j.left)
  simp only[eL,vaa];omega)
 have h7:=zg (b:=2100) h.ok.most;have h8:=Li h.ev
 have h9:=Li h.au;rw[qK];simp only[vaa];omega
end Dem
end
section
open Go Dem Go.Proofs
namespace Dem
variable {t:Th}
theorem UL{n c:Nat}(h:0<n)(hn:n<=1000000)(hc:c<65536):IntKind.i64.wrap (IntKind.i64.wrap ((n:Int)-1)-(IntKind.i64.wrap (c:Int)).tmod (n:Int))=((n-1-c%n:Nat):Int):=by
 have h1:c%n<n:=Nat.mod_lt _ h;rw[wrap64 (x:=(n:Int)-1) (by omega) (by omega),wrap64 (x:=(c:Int)) (by omega) (by omega),Int.tmod_eq_emod_of_nonneg (by omega)];have h2:(c:Int)%(n:Int)=((c%n:Nat):Int):=by simp
 rw[h2,wrap64 (by omega) (by omega)];omega
theorem UM(ht:TT t){S:cI}(h:S.form)(sm:S.sm):FC 6 [rS t S] [] (.ret (rD (t _ λ_=>eM S))) []:=by
 have hb:=mN h;have hn:=h.ok.next
 have k:=K9 ht S.round S.next S.ev.first S.au.first (nl:=S.bt.nodes) (pl:=S.bt.places) (tl:=S.tree) (jl:=S.aJ) (ql:=S.queue) (el:=S.ev.l) (al:=S.au.l) rfl rfl rfl rfl rfl rfl rfl h.round.2 hn.2 (by have:=h.ok.bt.most;omega) (by have:=h.bt.most;omega) sm.nodes.2 (λx hx=>w_u (h.ok.sx.cap x hx)) (λx hx=>⟨w_u (h.bt.places x hx).v,(h.bt.places x hx).bL.2⟩)
  (by have:=h.ok.tree.most;omega) (λe he=>⟨w_u (h.ok.tree.w e he).1,w_u (h.ok.tree.w e he).2⟩) sm.aJ.1 (λj hj=>⟨(sm.aJ.2 j hj).1,(sm.aJ.2 j hj).2.1.2⟩) h.ev.first.2 (by have:=h.ev.len;omega) (λn hn=>⟨(h.ev.notes n hn).round.2,(h.ev.notes n hn).id.2⟩)
  h.au.first.2 (by have:=h.au.len;omega) (λn hn=>⟨(h.au.notes n hn).round.2,(h.au.notes n hn).id.2⟩) (by show(eM S).length<_;omega)
 simp only[rS,ht]at k ⊢;exact k
theorem Lj(ht:TT t){S:cI}(h:S.form)(sm:S.sm){s:az}(hs:s=eM S):FC 7 [ST s] [] (.ret (.c5 [rS t S,BL true])) []:=by
 have hb:=mN h;obtain⟨p1,p2,p3,p4,p5,p6,p7,g1,g2,g3,l3,g4,l4,g5,g6,g7,g8⟩:=Bl h (s:=s) (b:=[]) (by rw[hs];simp);have k:=Ud ht s S.round S.next S.ev.first S.au.first (nl:=S.bt.nodes) (pl:=S.bt.places) (tl:=S.tree) (jl:=S.aJ) (ql:=S.queue) (el:=S.ev.l) (al:=S.au.l) rfl rfl rfl rfl rfl rfl rfl (by rw[hs];omega) (by rw[hs]) g1 g2 g3 l3 g4 l4 g5 (by rw[vak];exact g6) g7 g8 sm h.ok.right
 simp only[rS,ht];exact k
theorem Rh(ht:TT t){S:cI}(h:S.form){s:az}{k:Nat}(hk:k<(eM S).length)(hs:s=(eM S).take k):FC 7 [ST s] [] (.ret (.c5 [ZST,BL false])) []:=by have hb:=mN h;exact Uh ht s (by rw[hs,vav];omega) (NP h hk hs)
theorem Ri(ht:TT t){S:cI}(h:S.form)(sm:S.sm){bh:az}(hbh:bh.length<=140737488355328):∃(r x f g:Int) (n p q j u e a:List (List D)),∀s,s=eM S++bh->FC 7 [ST s] [] (.ret (.c5 [.agg [aA r,aA x,SL n,SL p,SL q,SL j,SL u,aA f,SL e,aA g,SL a],BL (decide (bh=[]))])) []:=by
 have hb:=mN h;by_cases c:bh=[]
 .subst c;refine⟨S.round,S.next,S.ev.first,S.au.first,S.bt.nodes.map Node.cells,S.bt.places.map Place.cells,S.tree.map aR.cells,S.aJ.map Jb.cells,S.queue.map bR.cells,S.ev.l.map cw.cells,S.au.l.map cw.cells,λs hs=>?_⟩;have k:=Lj ht h sm (s:=s) (by rw[hs];simp)
  simp only[rS,ht]at k;exact k
 refine⟨0,0,0,0,[],[],[],[],[],[],[],λs hs=>?_⟩;obtain⟨p1,p2,p3,p4,p5,p6,p7,g1,g2,g3,l3,g4,l4,g5,g6,g7,g8⟩:=Bl h (s:=s) (b:=bh) hs;have hl:s.length=(eM S).length+bh.length:=by rw[hs];simp
 have hp:0<bh.length:=List.length_pos_iff.2 c;have k:=Uf ht s S.round S.next S.ev.first S.au.first (nl:=S.bt.nodes) (pl:=S.bt.places) (tl:=S.tree) (jl:=S.aJ) (ql:=S.queue) (el:=S.ev.l) (al:=S.au.l) rfl rfl rfl rfl rfl rfl rfl (by omega) (by omega) g1 g2 g3 l3 g4 l4 g5 (by rw[vak];exact g6) g7 g8 sm
 rw[decide_eq_false c];exact k
theorem Rj(ht:TT t){S:cI}(sm:S.sm):FC 8 [rS t S,rS t S] [] (.ret (cA (t _ λ_=>true))) []:=by
 have b:S.bt.nodes.length<1000000/\S.bt.places.length<1000000/\S.tree.length<100000/\S.aJ.length<1000000/\S.queue.length<1000000/\S.ev.l.length<1000000/\S.au.l.length<1000000:=⟨sm.nodes.1,sm.places,sm.tree.1,sm.aJ.1,sm.queue,sm.notes.1,sm.notes.2⟩;have k:=FP ht S.round S.next S.ev.first S.au.first (nl:=S.bt.nodes) (pl:=S.bt.places) (tl:=S.tree) (jl:=S.aJ) (ql:=S.queue) (el:=S.ev.l) (al:=S.au.l) rfl rfl rfl rfl rfl rfl rfl S.round S.next S.ev.first S.au.first (nl':=S.bt.nodes) (pl':=S.bt.places) (tl':=S.tree) (Z1:=S.aJ) (ql':=S.queue) (el':=S.ev.l) (al':=S.au.l) rfl rfl rfl rfl rfl rfl rfl b b (λx hx=>(sm.nodes.2 x hx).2.1) (λx hx=>(sm.nodes.2 x hx).2.1) (λx hx=>(sm.aJ.2 x hx).1) (λx hx=>(sm.aJ.2 x hx).1)
 have e:Dg S S=true:=by simp[Dg]
 simp only[rS,cA,ht]at k ⊢;rw[show Dg ⟨S.round,S.next,⟨S.bt.nodes,S.bt.places⟩,S.tree,S.aJ,S.queue,⟨S.ev.first,S.ev.l⟩,⟨S.au.first,S.au.l⟩⟩ ⟨S.round,S.next,⟨S.bt.nodes,S.bt.places⟩,S.tree,S.aJ,S.queue,⟨S.ev.first,S.ev.l⟩,⟨S.au.first,S.au.l⟩⟩=true from e]at k;exact k
theorem Ll(ht:TT t)(hx0:FC 4 [] [] (.ret (BL true)) [])(N:Nat)(hN:N<256){a:Int}(ea:a=N){l:List iQ}{dl:List (List D)}(Yd:dl=l.map iQ.cells)(hlu:∀x∈l,x.u)(hll:l.length<9223372036854775808)(cut:Nat)(U7:cut<65536){c:Int}(ec:c=cut)(bh:az)(hbh:bh.length<=140737488355328):
 FC 3 [U8 a,SL dl,.d (.int .u16 c),ST bh] [] (.ret (BL true)) []:=by
 obtain⟨S,hS⟩:∃S,S=dh N l (min l.length 40):=⟨_,rfl⟩;have iZ:S.iZ:=by rw[hS];exact Lg _ _ _
 have form:=iZ.form;have sm:S.sm:=iZ.ok.small iZ.cU
 have cL:FC 5 [U8 a,SL dl] [] (.ret (rS t (t _ λ_=>S))) []:=by rw[hS];exact Uw ht N hN ea Yd hlu hll
 have acm:=mN form;have bpos:=Rg S
 have cP:=UM ht form sm;have cS:=Rj ht sm
 obtain⟨r3,x3,f3,g3,n3,p3,q3,j3,u3,e3,a3,cG3⟩:=Ri ht form sm hbh;have cG1:∀s,s=eM S->FC 7 [ST s] [] (.ret (.c5 [rS t S,BL true])) []:=λs hs=>Lj ht form sm hs
 have cG2:∀(k:Nat) s,k<(eM S).length->s=(eM S).take k->FC 7 [ST s] [] (.ret (.c5 [ZST,BL false])) []:=λk s hk hs=>Rh ht form hk hs;obtain⟨P,hP⟩:∃P,P=eM S:=⟨_,rfl⟩;rw[<-hP]at cP cG1 cG2 cG3 acm bpos;have hb0:decide (P=[])=false:=by simp;intro h;rw[h]at bpos;simp at bpos
 obtain⟨kc,hkc⟩:∃k,k=P.length-1-cut%P.length:=⟨_,rfl⟩;have hkl:kc<P.length:=by omega
 have hce:IntKind.i64.wrap (IntKind.i64.wrap ((P.length:Int)-1)-(IntKind.i64.wrap c).tmod (P.length:Int))=kc:=by rw[ec,UL bpos acm U7,hkc]
 obtain⟨hd,hhd⟩:∃b,b=decide (bh=[]):=⟨_,rfl⟩;rw[<-hhd]at cG3;clear hS hP hkc iZ form;refine cC ht Tryz.func3 (N:=82) ?_;cbv;have wR:dl.length=l.length:=by rw[Yd,lgM]
 (refine iW hY hx0 hY rfl rfl ?_);cbv;apply aj<;>intro h0
 .simp[ht,aa,wR,hb0]at h0
 simp[ht,aa,wR,hb0]at h0;cbv;(refine aM cL (by simp[ht]) (λr1 ej=>?_);simp only[ht]at ej;subst r1);cbv;(first|(refine ar cP (by simp[ht]) (λr2 dj=>?_);simp only[ht]at dj;subst r2)|(refine aT (E:=rD) (r0:=t _ λ_=>P) (λg=>⟨by first|(simp[ht];done)|(simpa[ht]using g)|(simp_all[ht];done),by first|(simp[ht];done)|(simpa[ht]using g)|(simp_all[ht];done),cP⟩) rfl rfl (λr5 lp=>?_);simp only[ht]at lp;subst r5));cbv;(refine yl hY (cG1 _ (by simp only[ht])) (by simp[ht]) rfl rfl rfl ?_);cbv;iterate 2 refine gI (by simp[ht,ah]) ?_
 refine pI (by simp[ht,ah]) ?_;iterate 2 refine gI (by simp[ht,ah]) ?_
 (refine aT (E:=cA) (r0:=t _ λ_=>true) (λg=>⟨by simp[ht,hb0],by simp[ht,hb0],cS⟩) rfl rfl (λr4 eY=>?_);simp only[ht]at eY;subst eY);cbv;refine gI (by simp[ht,ah]) ?_;refine pI (by simp[ht,ah]) ?_;apply aj<;>intro h1
 .simp[ht,aa,wR,hb0]at h1
 simp[ht,aa,wR,hb0]at h1;cbv;refine⟨?_,?_⟩
 ·(simp only[ht,aa]at*;omega)
 refine⟨?_,?_⟩
 ·(simp only[ht,hce];simp[b9];omega)
 cbv;(refine yl hY (cG2 kc _ hkl (by simp only[ht,hce,gZ,vak])) (by simp[ht]) rfl rfl rfl ?_);cbv;refine⟨?_,?_⟩
 ·(simp only[ht,aa]at*;omega)
 cbv;(refine yl hY (cG3 _ (by simp only[ht])) (by simp[ht]) rfl rfl rfl ?_);cbv;iterate 2 refine gI (by simp[ht,ah]) ?_
 refine pI (by simp[ht,ah]) ?_;iterate 4 refine gI (by simp[ht,ah]) ?_
 refine pI (by simp[ht,ah]) ?_;refine gI (by simp[ht,ah]) ?_;(first|(refine ar cP (by simp[ht]) (λr2 dj=>?_);simp only[ht]at dj;subst r2)|(refine aT (E:=rD) (r0:=t _ λ_=>P) (λg=>⟨by first|(simp[ht];done)|(simpa[ht]using g)|(simp_all[ht];done),by first|(simp[ht];done)|(simpa[ht]using g)|(simp_all[ht];done),cP⟩) rfl rfl (λr5 lp=>?_);simp only[ht]at lp;subst r5));cbv;iterate 2 refine gI (by simp[ht,ah]) ?_
 refine pI (by simp[ht,ah]) ?_;refine ak ?_;(simp only[ht,hce];simp[b9];omega)
end Dem
end
section
open Go
namespace Dem
deriving instance DecidableEq for cR
deriving instance DecidableEq for cI
deriving instance DecidableEq for bD
deriving instance DecidableEq for BK
def xA:Ask:=⟨[97],⟨2,0,0,0⟩,2,0,3,[]⟩
def xN:List Node:=[⟨[110,49],⟨4,9,9,9⟩,[⟨[122,111,110,101],[97]⟩],true⟩,⟨[110,50],⟨6,9,9,9⟩,[⟨[122,111,110,101],[98]⟩],true⟩,⟨[110,51],⟨8,9,9,9⟩,[],true⟩]
def xT:List aR:=[⟨[],⟨30,30,30,30⟩,⟨0,0,0,0⟩⟩,⟨[97],⟨6,20,20,20⟩,⟨0,0,0,0⟩⟩,⟨[97,47,98],⟨10,20,20,20⟩,⟨0,0,0,0⟩⟩,⟨[98],⟨14,20,20,20⟩,⟨0,0,0,0⟩⟩]
def xU:List aR:=[⟨[],⟨30,30,30,30⟩,⟨4,0,0,0⟩⟩,⟨[97],⟨6,20,20,20⟩,⟨4,0,0,0⟩⟩,⟨[97,47,98],⟨10,20,20,20⟩,⟨0,0,0,0⟩⟩,⟨[98],⟨14,20,20,20⟩,⟨0,0,0,0⟩⟩]
def xP:List Place:=[⟨1,[110,49],⟨2,0,0,0⟩⟩,⟨1,[110,49],⟨2,0,0,0⟩⟩]
def xJ:List Jb:=[⟨1,xA,false,0⟩]
def xR:List Jb:=[⟨1,xA,true,3⟩]
def xQ:List bR:=[⟨1,0⟩]
def xE1:List cw:=[⟨0,1,1⟩]
def Yb:List cw:=[⟨0,1,1⟩,⟨0,1,2⟩]
def xE3:List cw:=[⟨0,1,1⟩,⟨0,1,2⟩,⟨0,1,5⟩]
def xE4:List cw:=[⟨0,1,1⟩,⟨0,1,2⟩,⟨0,1,3⟩]
def xW:List aR:=[⟨[],bz.zero,bz.zero⟩]
theorem xf0:dY 0=⟨0,1,⟨xN,[]⟩,xT,[],[],⟨0,[]⟩,⟨0,[]⟩⟩:=by decide+kernel
theorem xfn:V2=⟨0,1,⟨[],[]⟩,xW,[],[],⟨0,[]⟩,⟨0,[]⟩⟩:=by decide+kernel
theorem xf1:dF ⟨0,1,⟨[],[]⟩,xW,[],[],⟨0,[]⟩,⟨0,[]⟩⟩ ⟨[97],⟨2,0,0,0⟩,2,0,3,[]⟩=(⟨0,1,⟨[],[]⟩,xW,[],[],⟨0,[]⟩,⟨0,[]⟩⟩,0,7):=by decide+kernel
theorem xf2:dF ⟨0,1,⟨xN,[]⟩,xT,[],[],⟨0,[]⟩,⟨0,[]⟩⟩ ⟨[97],⟨2,0,0,0⟩,2,0,3,[]⟩=(⟨0,2,⟨xN,[]⟩,xT,xJ,xQ,⟨0,xE1⟩,⟨0,[]⟩⟩,1,0):=by decide+kernel
theorem xf3:dQ ⟨0,2,⟨xN,[]⟩,xT,xJ,xQ,⟨0,xE1⟩,⟨0,[]⟩⟩ 1 [[110,49],[110,49]]=(⟨0,2,⟨xN,xP⟩,xU,xR,[],⟨0,Yb⟩,⟨0,[]⟩⟩,0):=by decide+kernel
theorem xf4:dQ ⟨0,2,⟨xN,xP⟩,xU,xR,[],⟨0,Yb⟩,⟨0,[]⟩⟩ 1 []=(⟨0,2,⟨xN,xP⟩,xU,xR,[],⟨0,Yb⟩,⟨0,[]⟩⟩,15):=by decide+kernel
theorem xf5:dQ ⟨0,2,⟨xN,[]⟩,xT,xJ,xQ,⟨0,xE1⟩,⟨0,[]⟩⟩ 9 []=(⟨0,2,⟨xN,[]⟩,xT,xJ,xQ,⟨0,xE1⟩,⟨0,[]⟩⟩,7):=by decide+kernel
theorem xf6:m6 ⟨0,2,⟨xN,xP⟩,xU,xR,[],⟨0,Yb⟩,⟨0,[]⟩⟩ 1 5=(⟨0,2,⟨xN,[]⟩,xT,xJ,xQ,⟨0,xE3⟩,⟨0,[]⟩⟩,0):=by decide+kernel
theorem xf7:send ⟨0,2,⟨xN,xP⟩,xU,xR,[],⟨0,Yb⟩,⟨0,[]⟩⟩ 1 3=(⟨0,2,⟨xN,[]⟩,xT,[],[],⟨0,xE4⟩,⟨0,[]⟩⟩,0):=by decide+kernel
theorem xf8:qi xU []=(⟨[],⟨30,30,30,30⟩,⟨4,0,0,0⟩⟩,true):=by decide+kernel
theorem xf9:fy xR 1=(⟨1,xA,true,3⟩,true):=by decide+kernel
theorem ae3:JL ⟨0,xE4⟩ 1=([⟨0,1,2⟩,⟨0,1,3⟩],3):=by decide+kernel
def xB:cI:=⟨0,2,⟨xN,xP⟩,xU,xR,[],⟨0,Yb⟩,⟨0,[]⟩⟩
theorem xg1:aV (eM xB) 0=⟨0,1,true⟩:=by decide+kernel
theorem xg2:aV (eM xB) 1=⟨2,2,true⟩:=by decide+kernel
theorem xg3:tK (eM xB) 2=⟨⟨xN,xP⟩,61,true⟩:=by decide+kernel
theorem xg4:pG (eM xB) 61=⟨xU,103,true⟩:=by decide+kernel
theorem xg5:aV (eM xB) 103=⟨1,104,true⟩:=by decide+kernel
theorem xg6:lV (eM xB) (1:Int).toNat [] 104=some (xR,116):=by decide+kernel
theorem xg7:fB (eM xB) 116=some (⟨0,Yb⟩,124):=by decide+kernel
theorem xg8:fB (eM xB) 124=some (⟨0,[]⟩,126):=by decide+kernel
theorem xgl:(eM xB).length=126:=by decide+kernel
theorem xr1:gR xB=true:=by decide+kernel
theorem xr2:gR ⟨0,0,⟨[],[]⟩,[],[],[],⟨0,[]⟩,⟨0,[]⟩⟩=false:=by decide+kernel
theorem xs1:Dg xB xB=true:=by decide+kernel
theorem Z5:xA.sm:=⟨by decide,by decide,by decide,by intro m hm;cases hm⟩
theorem aco:∀x∈xN,x.sm:=by intro x hx;simp only[xN,vax,List.not_mem_nil,or_false]at hx;rcases hx with rfl|rfl|rfl<;>refine⟨by decide,by decide,?_⟩<;>intro p hp<;>simp only[vax,List.not_mem_nil,or_false]at hp<;>first|(subst hp;exact⟨by decide,by decide⟩)|cases hp
theorem xNl:∀x∈xN,x.labels.length<1000000000:=by decide+kernel
theorem xNu:∀x∈xN,x.cap.u:=by intro x hx;simp only[xN,vax,List.not_mem_nil,or_false]at hx;rcases hx with rfl|rfl|rfl<;>exact⟨by decide,by decide,by decide,by decide⟩
theorem xPu:∀x∈xP,x.v.u/\x.bL<18446744073709551616:=by intro x hx;simp only[xP,vax,List.not_mem_nil,or_false]at hx;rcases hx with rfl|rfl<;>exact⟨⟨by decide,by decide,by decide,by decide⟩,by decide⟩
theorem xUu:∀x∈xU,x.cU.u/\x.used.u:=by intro x hx;simp only[xU,vax,List.not_mem_nil,or_false]at hx;rcases hx with rfl|rfl|rfl|rfl<;>exact⟨⟨by decide,by decide,by decide,by decide⟩,by decide,by decide,by decide,by decide⟩
theorem xUp:∀x∈xU,x.path.length<1000000000000:=by decide+kernel
theorem Z6:∀x∈xR,x.x.sm:=by intro x hx;rw[List.mem_singleton.1 hx];exact Z5
theorem xJw:∀x∈xJ,x.x.iI.u'/\x.x.path.length<1000000000000:=by decide+kernel
theorem xRw:∀x∈xR,x.x.iI.u'/\x.x.path.length<1000000000000:=by decide+kernel
theorem ae4:xB.sm:=⟨⟨by decide,aco⟩,by decide,⟨by decide,xUp⟩,⟨by decide,λx hx=>⟨Z6 x hx,by rw[List.mem_singleton.1 hx];decide,by rw[List.mem_singleton.1 hx];decide⟩⟩,by decide,by decide,by decide⟩
theorem ae5:(⟨0,0,⟨[],[]⟩,[],[],[],⟨0,[]⟩,⟨0,[]⟩⟩:cI).sm:=⟨⟨by decide,by intro x hx;cases hx⟩,by decide,⟨by decide,by intro x hx;cases hx⟩,⟨by decide,by intro x hx;cases hx⟩,by decide,by decide,by decide⟩
end Dem
end
section
open Go Dem Go.Proofs
namespace Dem
variable {t:Th}
theorem Xl(k m:Nat){F:Nat->List AV->List av->eP->List av->Prop}{T:Nat->Option TI}{G:Nat->Option (List D)}{N K i:Nat}{ops:Array Oper}{b:Code}{Q Q2:Ex->St->Prop}{s:St}(h:∀l10,l10=((((((((((ops.toList.drop k).drop m).drop m).drop m).drop m).drop m).drop m).drop m).drop m).drop m)->∀l9,l9=(((((((((ops.toList.drop k).drop m).drop m).drop m).drop m).drop m).drop m).drop m).drop m).take m++l10->∀l8,l8=((((((((ops.toList.drop k).drop m).drop m).drop m).drop m).drop m).drop m).drop m).take m++l9->∀l7,l7=(((((((ops.toList.drop k).drop m).drop m).drop m).drop m).drop m).drop m).take m++l8->∀l6,l6=((((((ops.toList.drop k).drop m).drop m).drop m).drop m).drop m).take m++l7->∀l5,l5=(((((ops.toList.drop k).drop m).drop m).drop m).drop m).take m++l6->∀l4,l4=((((ops.toList.drop k).drop m).drop m).drop m).take m++l5->∀l3,l3=(((ops.toList.drop k).drop m).drop m).take m++l4->∀l2,l2=((ops.toList.drop k).drop m).take m++l3->∀l1,l1=(ops.toList.drop k).take m++l2->Jf t F T G N ops.toList (ops.toList.take k++l1) (λe s1=>mv (λs1=>ph t F T G N K b Q s1) Q e s1) s):ph t F T G N K .skip (mv (ph t F T G N K (.seq (.region i ops false) b) Q) Q2) s:=by have:=h _ rfl _ rfl _ rfl _ rfl _ rfl _ rfl _ rfl _ rfl _ rfl _ rfl;rw[List.take_append_drop,List.take_append_drop,List.take_append_drop,List.take_append_drop,List.take_append_drop,List.take_append_drop,List.take_append_drop,List.take_append_drop,List.take_append_drop,List.take_append_drop]at this;exact this
theorem NR(ht:TT t):FC 4 [] [] (.ret (BL true)) []:=by
 obtain⟨N,hN⟩:∃n,n=xN:=⟨_,rfl⟩;obtain⟨T,hT⟩:∃n,n=xT:=⟨_,rfl⟩;obtain⟨U,hU⟩:∃n,n=xU:=⟨_,rfl⟩;obtain⟨P,hP⟩:∃n,n=xP:=⟨_,rfl⟩;obtain⟨J,hJ⟩:∃n,n=xJ:=⟨_,rfl⟩;obtain⟨K,hK⟩:∃n,n=xR:=⟨_,rfl⟩;obtain⟨Q,hQ⟩:∃n,n=xQ:=⟨_,rfl⟩;obtain⟨E1,nB⟩:∃n,n=xE1:=⟨_,rfl⟩;obtain⟨E2,nC⟩:∃n,n=Yb:=⟨_,rfl⟩;obtain⟨E3,nD⟩:∃n,n=xE3:=⟨_,rfl⟩;obtain⟨E4,nE⟩:∃n,n=xE4:=⟨_,rfl⟩;obtain⟨W,hW⟩:∃n,n=xW:=⟨_,rfl⟩;obtain⟨pb,UN⟩:∃s,s=eM xB:=⟨_,rfl⟩;have e0:dY 0=⟨0,1,⟨N,[]⟩,T,[],[],⟨0,[]⟩,⟨0,[]⟩⟩:=by subst hN hT hU hP hJ hK hQ nB nC nD nE hW;exact xf0
 have eN:V2=⟨0,1,⟨[],[]⟩,W,[],[],⟨0,[]⟩,⟨0,[]⟩⟩:=by subst hN hT hU hP hJ hK hQ nB nC nD nE hW;exact xfn
 have e1:dF ⟨0,1,⟨[],[]⟩,W,[],[],⟨0,[]⟩,⟨0,[]⟩⟩ ⟨[97],⟨2,0,0,0⟩,2,0,3,[]⟩=(⟨0,1,⟨[],[]⟩,W,[],[],⟨0,[]⟩,⟨0,[]⟩⟩,0,7):=by subst hN hT hU hP hJ hK hQ nB nC nD nE hW;exact xf1
 have e2:dF ⟨0,1,⟨N,[]⟩,T,[],[],⟨0,[]⟩,⟨0,[]⟩⟩ ⟨[97],⟨2,0,0,0⟩,2,0,3,[]⟩=(⟨0,2,⟨N,[]⟩,T,J,Q,⟨0,E1⟩,⟨0,[]⟩⟩,1,0):=by subst hN hT hU hP hJ hK hQ nB nC nD nE hW;exact xf2
 have e3:dQ ⟨0,2,⟨N,[]⟩,T,J,Q,⟨0,E1⟩,⟨0,[]⟩⟩ 1 [[110,49],[110,49]]=(⟨0,2,⟨N,P⟩,U,K,[],⟨0,E2⟩,⟨0,[]⟩⟩,0):=by subst hN hT hU hP hJ hK hQ nB nC nD nE hW;exact xf3
 have e4:dQ ⟨0,2,⟨N,P⟩,U,K,[],⟨0,E2⟩,⟨0,[]⟩⟩ 1 []=(⟨0,2,⟨N,P⟩,U,K,[],⟨0,E2⟩,⟨0,[]⟩⟩,15):=by subst hN hT hU hP hJ hK hQ nB nC nD nE hW;exact xf4
 have e5:dQ ⟨0,2,⟨N,[]⟩,T,J,Q,⟨0,E1⟩,⟨0,[]⟩⟩ 9 []=(⟨0,2,⟨N,[]⟩,T,J,Q,⟨0,E1⟩,⟨0,[]⟩⟩,7):=by subst hN hT hU hP hJ hK hQ nB nC nD nE hW;exact xf5
 have e6:m6 ⟨0,2,⟨N,P⟩,U,K,[],⟨0,E2⟩,⟨0,[]⟩⟩ 1 5=(⟨0,2,⟨N,[]⟩,T,J,Q,⟨0,E3⟩,⟨0,[]⟩⟩,0):=by subst hN hT hU hP hJ hK hQ nB nC nD nE hW;exact xf6
 have e7:send ⟨0,2,⟨N,P⟩,U,K,[],⟨0,E2⟩,⟨0,[]⟩⟩ 1 3=(⟨0,2,⟨N,[]⟩,T,[],[],⟨0,E4⟩,⟨0,[]⟩⟩,0):=by subst hN hT hU hP hJ hK hQ nB nC nD nE hW;exact xf7
 have e8:qi U []=(⟨[],⟨30,30,30,30⟩,⟨4,0,0,0⟩⟩,true):=by subst hN hT hU hP hJ hK hQ nB nC nD nE hW;exact xf8
 have e9:fy K 1=(⟨1,⟨[97],⟨2,0,0,0⟩,2,0,3,[]⟩,true,3⟩,true):=by subst hN hT hU hP hJ hK hQ nB nC nD nE hW;exact xf9
 have e10:JL ⟨0,E4⟩ 1=([⟨0,1,2⟩,⟨0,1,3⟩],3):=by subst hN hT hU hP hJ hK hQ nB nC nD nE hW;exact ae3
 have hJw:∀x∈J,x.x.iI.u'/\x.x.path.length<1000000000000:=by subst hN hT hU hP hJ hK hQ nB nC nD nE hW;exact xJw
 have hKw:∀x∈K,x.x.iI.u'/\x.x.path.length<1000000000000:=by subst hN hT hU hP hJ hK hQ nB nC nD nE hW;exact xRw
 have nsm:∀x∈N,x.sm:=by subst hN hT hU hP hJ hK hQ nB nC nD nE hW;exact aco
 have nu:∀x∈N,x.cap.u:=by subst hN hT hU hP hJ hK hQ nB nC nD nE hW;exact xNu
 have nl9:∀x∈N,x.labels.length<1000000000:=by subst hN hT hU hP hJ hK hQ nB nC nD nE hW;exact xNl
 have pu:∀x∈P,x.v.u/\x.bL<18446744073709551616:=by subst hN hT hU hP hJ hK hQ nB nC nD nE hW;exact xPu
 have uu:∀x∈U,x.cU.u/\x.used.u:=by subst hN hT hU hP hJ hK hQ nB nC nD nE hW;exact xUu
 have ku:∀x∈K,x.x.sm/\x.id<18446744073709551616:=by subst hN hT hU hP hJ hK hQ nB nC nD nE hW;exact λx hx=>⟨Z6 x hx,by rw[List.mem_singleton.1 hx];decide⟩
 have ksm:∀x∈K,x.x.sm:=by subst hN hT hU hP hJ hK hQ nB nC nD nE hW;exact Z6
 have eu:∀x∈E2,x.round<18446744073709551616/\x.id<18446744073709551616:=by subst hN hT hU hP hJ hK hQ nB nC nD nE hW;exact by decide+kernel
 have bsm:(⟨0,2,⟨N,P⟩,U,K,[],⟨0,E2⟩,⟨0,[]⟩⟩:cI).sm:=by subst hN hT hU hP hJ hK hQ nB nC nD nE hW;exact ae4
 have br:gR ⟨0,2,⟨N,P⟩,U,K,[],⟨0,E2⟩,⟨0,[]⟩⟩=true:=by subst hN hT hU hP hJ hK hQ nB nC nD nE hW;exact xr1
 have es1:Dg ⟨0,2,⟨N,P⟩,U,K,[],⟨0,E2⟩,⟨0,[]⟩⟩ ⟨0,2,⟨N,P⟩,U,K,[],⟨0,E2⟩,⟨0,[]⟩⟩=true:=by subst hN hT hU hP hJ hK hQ nB nC nD nE hW;exact xs1
 have lN:N.length=3:=by subst hN hT hU hP hJ hK hQ nB nC nD nE hW;exact rfl
 have lT:T.length=4:=by subst hN hT hU hP hJ hK hQ nB nC nD nE hW;exact rfl
 have lU:U.length=4:=by subst hN hT hU hP hJ hK hQ nB nC nD nE hW;exact rfl
 have lP:P.length=2:=by subst hN hT hU hP hJ hK hQ nB nC nD nE hW;exact rfl
 have lJ:J.length=1:=by subst hN hT hU hP hJ hK hQ nB nC nD nE hW;exact rfl
 have lK:K.length=1:=by subst hN hT hU hP hJ hK hQ nB nC nD nE hW;exact rfl
 have lQ:Q.length=1:=by subst hN hT hU hP hJ hK hQ nB nC nD nE hW;exact rfl
 have lE1:E1.length=1:=by subst hN hT hU hP hJ hK hQ nB nC nD nE hW;exact rfl
 have lE2:E2.length=2:=by subst hN hT hU hP hJ hK hQ nB nC nD nE hW;exact rfl
 have lE3:E3.length=3:=by subst hN hT hU hP hJ hK hQ nB nC nD nE hW;exact rfl
 have lE4:E4.length=3:=by subst hN hT hU hP hJ hK hQ nB nC nD nE hW;exact rfl
 have lW:W.length=1:=by subst hN hT hU hP hJ hK hQ nB nC nD nE hW;exact rfl
 have hb:N.length<1000000/\P.length<1000000/\U.length<100000/\K.length<1000000/\([]:List bR).length<1000000/\E2.length<1000000/\([]:List cw).length<1000000:=by subst hN hT hU hP hJ hK hQ nB nC nD nE hW;exact by decide+kernel
 have g1:aV pb 0=⟨0,1,true⟩:=by subst hN hT hU hP hJ hK hQ nB nC nD nE hW UN;exact xg1
 have g2:aV pb 1=⟨2,2,true⟩:=by subst hN hT hU hP hJ hK hQ nB nC nD nE hW UN;exact xg2
 have g3:tK pb 2=⟨⟨N,P⟩,61,true⟩:=by subst hN hT hU hP hJ hK hQ nB nC nD nE hW UN;exact xg3
 have g4:pG pb 61=⟨U,103,true⟩:=by subst hN hT hU hP hJ hK hQ nB nC nD nE hW UN;exact xg4
 have g5:aV pb 103=⟨1,104,true⟩:=by subst hN hT hU hP hJ hK hQ nB nC nD nE hW UN;exact xg5
 have g6:lV pb (1:Int).toNat [] 104=some (K,116):=by subst hN hT hU hP hJ hK hQ nB nC nD nE hW UN;exact xg6
 have g7:fB pb 116=some (⟨0,E2⟩,124):=by subst hN hT hU hP hJ hK hQ nB nC nD nE hW UN;exact xg7
 have g8:fB pb 124=some (⟨0,[]⟩,126):=by subst hN hT hU hP hJ hK hQ nB nC nD nE hW UN;exact xg8
 have oB:pb.length=126:=by subst hN hT hU hP hJ hK hQ nB nC nD nE hW UN;exact xgl
 obtain⟨nr,Zt⟩:∃r,r=N.map Node.cells:=⟨_,rfl⟩;obtain⟨pr,hpr⟩:∃r,r=P.map Place.cells:=⟨_,rfl⟩;obtain⟨tr,htr⟩:∃r,r=U.map aR.cells:=⟨_,rfl⟩;obtain⟨jr,hjr⟩:∃r,r=K.map Jb.cells:=⟨_,rfl⟩;obtain⟨er,her⟩:∃r,r=E2.map cw.cells:=⟨_,rfl⟩;have lpb:pb.length<9223372036854775000:=by omega
 have hpe:(126:Int)=pb.length:=by omega
 have e11:eM ⟨0,2,⟨N,P⟩,U,K,[],⟨0,E2⟩,⟨0,[]⟩⟩=pb:=by subst hN hT hU hP hJ hK hQ nB nC nD nE hW UN;rfl
 have hn:(eM ⟨0,2,⟨N,P⟩,U,K,[],⟨0,E2⟩,⟨0,[]⟩⟩).length<9223372036854775000:=by rw[e11];exact lpb
 clear hN hT hU hP hJ hK hQ nB nC nD nE hW UN;refine cC ht Tryz.func4 (N:=208) ?_;cbv;have G6:nr.length=N.length:=by rw[Zt,lgM]
 have ae8:pr.length=P.length:=by rw[hpr,lgM]
 have ae9:tr.length=U.length:=by rw[htr,lgM]
 have afa:jr.length=K.length:=by rw[hjr,lgM]
 have afb:er.length=E2.length:=by rw[her,lgM]
 ((refine aM (DX ht 0 (by decide) rfl) (by simp) (λr0 bM=>?_);simp only[ht]at bM;replace bM:=bM.trans e0;subst bM));cbv;refine mV [] [3,4,5,6] [false,false,false,false,false,false,false,false,true,true,true] ?_;cbv;refine .inl ?_;((refine iJ (λg9=>⟨by simp,by simp,O1 ht⟩) rfl rfl rfl (λr1 ej=>?_);simp only[ht]at ej;replace ej:=ej.trans eN;subst ej));cbv;refine gI (by simp) ?_;refine .inl ?_;((refine iJ (λg9=>⟨by simp,by simp,qG ht 0 1 0 0 (nl:=[]) (pl:=[]) (tl:=W) (jl:=[]) (ql:=[]) (el:=[]) (al:=[]) (by(simp only[ht]<;>rfl)) (by(simp only[ht]<;>rfl)) (by(simp only[ht]<;>rfl)) (by(simp only[ht]<;>rfl)) (by(simp only[ht]<;>rfl)) (by(simp only[ht]<;>rfl)) (by(simp only[ht]<;>rfl)) 2 0 0 0 2 0 3 [97] (iv:=[]) (by rfl) Z5 (by omega) (by omega) (by omega) (by omega)⟩) rfl rfl rfl (λr2 dj=>?_);simp only[ht]at dj;replace dj:=dj.trans e1;subst dj));cbv;iterate 4 refine gI (by simp) ?_
 ((refine aM (qG ht 0 1 0 0 (nl:=N) (pl:=[]) (tl:=T) (jl:=[]) (ql:=[]) (el:=[]) (al:=[]) (by(simp only[ht]<;>rfl)) (by(simp only[ht]<;>rfl)) (by(simp only[ht]<;>rfl)) (by(simp only[ht]<;>rfl)) (by(simp only[ht]<;>rfl)) (by(simp only[ht]<;>rfl)) (by(simp only[ht]<;>rfl)) 2 0 0 0 2 0 3 [97] (iv:=[]) (by rfl) Z5 (by omega) (by omega) (by omega) (by omega)) (by simp) (λr3 iR=>?_);simp only[ht]at iR;replace iR:=iR.trans e2;subst iR));cbv;((refine aM (qH ht 0 2 0 0 (nl:=N) (pl:=[]) (tl:=T) (jl:=J) (ql:=Q) (el:=E1) (al:=[]) (by(simp only[ht]<;>rfl)) (by(simp only[ht]<;>rfl)) (by(simp only[ht]<;>rfl)) (by(simp only[ht]<;>rfl)) (by(simp only[ht]<;>rfl)) (by(simp only[ht]<;>rfl)) (by(simp only[ht]<;>rfl)) 1 (names:=[[110,49],[110,49]]) (by rfl) hJw (by omega) (by omega) (by omega) (by omega) (by omega) (by omega) (by decide)) (by simp) (λr4 eY=>?_);simp only[ht]at eY;replace eY:=eY.trans e3;subst eY));cbv;((refine aM (qH ht 0 2 0 0 (nl:=N) (pl:=P) (tl:=U) (jl:=K) (ql:=[]) (el:=E2) (al:=[]) (by(simp only[ht]<;>rfl)) (by(simp only[ht]<;>rfl)) (by(simp only[ht]<;>rfl)) (by(simp only[ht]<;>rfl)) (by(simp only[ht]<;>rfl)) (by(simp only[ht]<;>rfl)) (by(simp only[ht]<;>rfl)) 1 (names:=[]) (by rfl) hKw (by omega) (by omega) (by omega) (by omega) (by omega) (by omega) (by omega)) (by simp) (λr5 lp=>?_);simp only[ht]at lp;replace lp:=lp.trans e4;subst lp));cbv;((refine aM (qH ht 0 2 0 0 (nl:=N) (pl:=[]) (tl:=T) (jl:=J) (ql:=Q) (el:=E1) (al:=[]) (by(simp only[ht]<;>rfl)) (by(simp only[ht]<;>rfl)) (by(simp only[ht]<;>rfl)) (by(simp only[ht]<;>rfl)) (by(simp only[ht]<;>rfl)) (by(simp only[ht]<;>rfl)) (by(simp only[ht]<;>rfl)) 9 (names:=[]) (by rfl) hJw (by omega) (by omega) (by omega) (by omega) (by omega) (by omega) (by omega)) (by simp) (λr6 jK=>?_);simp only[ht]at jK;replace jK:=jK.trans e5;subst jK));cbv;((refine aM (O4 ht 0 2 0 0 (nl:=N) (pl:=P) (tl:=U) (jl:=K) (ql:=[]) (el:=E2) (al:=[]) (by(simp only[ht]<;>rfl)) (by(simp only[ht]<;>rfl)) (by(simp only[ht]<;>rfl)) (by(simp only[ht]<;>rfl)) (by(simp only[ht]<;>rfl)) (by(simp only[ht]<;>rfl)) (by(simp only[ht]<;>rfl)) 1 5 hKw (by omega) (by omega) (by omega) (by omega) (by omega)) (by simp) (λr7 jU=>?_);simp only[ht]at jU;replace jU:=jU.trans e6;subst jU));cbv;((refine aM (T4 ht 0 2 0 0 (nl:=N) (pl:=P) (tl:=U) (jl:=K) (ql:=[]) (el:=E2) (al:=[]) (by(simp only[ht]<;>rfl)) (by(simp only[ht]<;>rfl)) (by(simp only[ht]<;>rfl)) (by(simp only[ht]<;>rfl)) (by(simp only[ht]<;>rfl)) (by(simp only[ht]<;>rfl)) (by(simp only[ht]<;>rfl)) 1 3 hKw (by omega) (by omega) (by omega) (by omega) (by omega)) (by simp) (λr8 tV=>?_);simp only[ht]at tV;replace tV:=tV.trans e7;subst tV));cbv;((refine ar (Ku ht [] (l:=U) (by(simp only[ht]<;>rfl)) (by omega)) (by simp) (λr9 dR=>?_);simp only[ht]at dR;replace dR:=dR.trans e8;subst dR));cbv;((refine aM (yX ht 1 0 2 0 0 _ _ _ _ _ _ (l:=K) (by(simp only[ht]<;>rfl)) (by omega)) (by simp) (λr10 Dz=>?_);simp only[ht]at Dz;replace Dz:=Dz.trans e9;subst Dz));cbv;((refine ar (K9 ht 0 2 0 0 (nl:=N) (pl:=P) (tl:=U) (jl:=K) (ql:=[]) (el:=E2) (al:=[]) (by(simp only[ht]<;>rfl)) (by(simp only[ht]<;>rfl)) (by(simp only[ht]<;>rfl)) (by(simp only[ht]<;>rfl)) (by(simp only[ht]<;>rfl)) (by(simp only[ht]<;>rfl)) (by(simp only[ht]<;>rfl)) (by decide) (by decide) (by omega) (by omega) nsm nu pu (by omega) uu (by omega) ku (by decide) (by omega) eu (by decide) (by omega) (by simp) hn) (by simp) (λWf mW=>?_);simp only[ht]at mW;replace mW:=mW.trans e11;subst mW));cbv;((refine yl hY (W4 ht _ 0 2 0 0 (nl:=N) (pl:=P) (tl:=U) (jl:=K) (ql:=[]) (el:=E2) (al:=[]) Zt hpr htr hjr rfl her rfl lpb rfl hpe g1 g2 g3 (by omega) g4 (by omega) g5 g6 g7 g8 bsm br) (by simp) rfl rfl rfl ?_));cbv;((refine aM (WW ht 0 1 (l:=E4) (by(simp only[ht]<;>rfl)) (by omega)) (by simp) (λZn qx=>?_);simp only[ht]at qx;replace qx:=qx.trans e10;subst qx));cbv;iterate 5 refine gI (by simp[ht]) ?_
 refine pI (by simp[ht]) ?_;apply aj<;>intro h0
 .simp[ht,lP]at h0
 simp[ht,lP]at h0;(refine Xl 24 8 (λl10 afc l9 hl9 l8 hl8 l7 hl7 l6 hl6 l5 hl5 l4 hl4 l3 BJ l2 pV l1 hl1=>?_));cbv;iterate 2 refine gI (by simp[ht]) ?_
 refine pI (by simp[ht]) ?_;iterate 2 refine gI (by simp[ht]) ?_
 refine pI (by simp[ht]) ?_;iterate 2 refine gI (by simp[ht]) ?_
 refine pI (by simp[ht]) ?_;iterate 2 refine gI (by simp[ht]) ?_
 refine pI (by simp[ht]) ?_;iterate 2 refine gI (by simp[ht]) ?_
 refine pI (by simp[ht]) ?_;refine gI (by simp[ht]) ?_;(subst hl1);cbv;refine gI (by simp[ht]) ?_;refine pI (by simp[ht]) ?_;iterate 2 refine gI (by simp[ht]) ?_
 refine pI (by simp[ht]) ?_;refine gI (by simp[ht]) ?_;(subst pV);cbv;iterate 3 refine gI (by simp[ht]) ?_
 refine pI (by simp[ht]) ?_;refine gI (by simp[ht]) ?_;refine pI (by simp[ht]) ?_;(subst BJ);cbv;iterate 2 refine gI (by simp[ht]) ?_
 refine pI (by simp[ht]) ?_;iterate 3 refine gI (by simp[ht]) ?_
 refine pI (by simp[ht]) ?_;(subst hl4);cbv;iterate 4 refine gI (by simp[ht]) ?_
 refine pI (by simp[ht]) ?_;refine gI (by simp[ht]) ?_;(subst hl5);cbv;iterate 3 refine gI (by simp[ht]) ?_
 refine pI (by simp[ht]) ?_;iterate 3 refine gI (by simp[ht]) ?_
 (subst hl6);cbv;iterate 2 refine gI (by simp[ht]) ?_
 refine pI (by simp[ht]) ?_;iterate 4 refine gI (by simp[ht]) ?_
 (subst hl7);cbv;refine pI (by simp[ht]) ?_;refine gI (by simp[ht]) ?_;refine pI (by simp[ht]) ?_;iterate 2 refine gI (by simp[ht]) ?_
 ((refine aT (λg9=>⟨by simp[ht,lQ],by simp,FP ht 0 2 0 0 (nl:=N) (pl:=P) (tl:=U) (jl:=K) (ql:=[]) (el:=E2) (al:=[]) ‹_› ‹_› ‹_› ‹_› (by rfl) ‹_› (by rfl) 0 2 0 0 (nl':=N) (pl':=P) (tl':=U) (Z1:=K) (ql':=[]) (el':=E2) (al':=[]) (by(simp only[ht]<;>rfl)) (by(simp only[ht]<;>rfl)) (by(simp only[ht]<;>rfl)) (by(simp only[ht]<;>rfl)) (by(simp only[ht]<;>rfl)) (by(simp only[ht]<;>rfl)) (by(simp only[ht]<;>rfl)) hb hb nl9 nl9 ksm ksm⟩) rfl rfl (λr13 G2=>?_);simp only[ht]at G2;replace G2:=G2.trans es1;subst G2));cbv;(subst hl8);cbv;refine pI (by simp[ht]) ?_;refine gI (by simp[ht]) ?_;((refine aT (λg9=>⟨by simp[ht,lQ],by simp,rU ht 0 2 0 0 (nl:=N) (pl:=P) (tl:=U) (jl:=K) (ql:=[]) (el:=E2) (al:=[]) (by(simp only[ht]<;>rfl)) (by(simp only[ht]<;>rfl)) (by(simp only[ht]<;>rfl)) (by(simp only[ht]<;>rfl)) (by(simp only[ht]<;>rfl)) (by(simp only[ht]<;>rfl)) (by(simp only[ht]<;>rfl)) bsm⟩) rfl rfl (λZo qy=>?_);simp only[ht]at qy;replace qy:=qy.trans br;subst qy));cbv;refine pI (by simp[ht]) ?_;refine gI (by simp[ht]) ?_;((refine SA [.int .u64 0,.int .u64 1,.int .i64 3] (λhg=>⟨⟨(by exact⟨hg,hY⟩),(by simp[ht,cw.cells])⟩,(by simp[ht,cw.cells])⟩) ?_));cbv;(subst hl9);cbv;iterate 3 refine gI (by simp[ht]) ?_
 refine pI (by simp[ht]) ?_;iterate 2 refine gI (by simp[ht]) ?_
 refine pI (by simp[ht]) ?_;(subst afc);cbv;refine gI (by simp[ht]) ?_;((refine aT (λg9=>⟨by simp[ht,lQ],by simp,rU ht 0 0 0 0 (nl:=[]) (pl:=[]) (tl:=[]) (jl:=[]) (ql:=[]) (el:=[]) (al:=[]) (by rfl) (by rfl) (by rfl) (by rfl) (by rfl) (by rfl) (by rfl) ae5⟩) rfl rfl (λr15 M2=>?_);simp only[ht]at M2;replace M2:=M2.trans xr2;subst M2));cbv;refine gI (by simp[ht]) ?_;refine pI (by simp[ht]) ?_;refine ak ?_;(simp[ht,lQ];done)
end Dem
end
