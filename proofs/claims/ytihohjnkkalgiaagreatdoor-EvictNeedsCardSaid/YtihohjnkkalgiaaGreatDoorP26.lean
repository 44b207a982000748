/- Parts of a proof, joined. -/
import Derived.Test.YtihohjnkkalgiaaGreatDoorP25
set_option linter.all false
set_option maxRecDepth 100000
set_option maxHeartbeats 4000000
open Go Dem Go.Proofs
namespace Dem
variable {t:Th}
theorem Qw {F:Nat→List AV→List ay→iy→List ay→Prop} {T:Nat→Option TI} {G:Nat→Option (List D)} {N:Nat} {ops:List Oper} {Q:Ex→St→Prop} {S:List St} {k:Nat} {l:List Nd} (h:∀Q:Ex→St→Prop,Ab t F T G N ops Q S k l):Ab t F T G N ops Q S k l:=h Q
theorem Qx {F:Nat→List AV→List ay→iy→List ay→Prop} {T:Nat→Option TI} {G:Nat→Option (List D)} {N:Nat} {ops:List Oper} {i:Nat} {K:St→Prop} {Q:Ex→St→Prop} {s:St} (h:rF t F T G N ops i K Q s):rF t F T G N ops i K Q s:=h
theorem Oh {A:List Int} {p:Nat} {y7 y8:Int} {met:Bool} (h7:A[p]?=some y7) (h:met=decide (y8∈A.take p)):(bif met then true else decide (y7=y8))=decide (y8∈A.take (p+1)):=by
 rw [ek h7,h]
 by_cases g:y8∈A.take p
 ·simp [g]
 by_cases g2:y7=y8
 ·simp [g,g2]
 simp [g,g2,show ¬y8=y7 from fun e=>g2 e.symm]
theorem SX (ht:TT t) (hx0:FC 14 [] [] (.ret (BL true)) []) {a kk gg x:Int} {g:Nat} (OX:g<256) (hg:gg=g) {dl:List (List D)} {SY SZ S2 S3:Int} {S4 S5 S6 S7 S8 S9 HS:List (List D)} {VV XK XL XM:Int} {XN XO XP XQ XR XS Ta:List (List D)} {XT XU XW XX:Int} {XY XZ X1 X2 X3 X4 Tb:List (List D)} {I:Int} {ok:Bool} {vl A:List Int} {nl:List aQ} {vr nr lr br:List (List D)} (wH:vr=vl.map Int.cells) (Re:nr=nl.map bg) (hlr:lr=A.map Int.cells) (hvl:vl.length<1000000) (Ld:nl.length<1000000) (hal:A.length<1000)
 (hL:FC 15 [U8 a,SL dl] [] (.ret (.agg [az SY,az SZ,SL S4,SL S5,SL S6,SL S7,SL S8,az S2,SL S9,az S3,SL HS])) []) (hW:FC 16 [.agg [az SY,az SZ,SL S4,SL S5,SL S6,SL S7,SL S8,az S2,SL S9,az S3,SL HS],U8 kk] [] (.ret (az I)) []) (cv:FC 19 [.agg [az SY,az SZ,SL S4,SL S5,SL S6,SL S7,SL S8,az S2,SL S9,az S3,SL HS],az I] [] (.ret (.dL [SL vr,SL nr,BL ok])) []) (cl:FC 18 [.agg [az SY,az SZ,SL S4,SL S5,SL S6,SL S7,SL S8,az S2,SL S9,az S3,SL HS],az I] [] (.ret (SL lr)) []) (cw:FC 21 [.agg [az SY,az SZ,SL S4,SL S5,SL S6,SL S7,SL S8,az S2,SL S9,az S3,SL HS],SL vr] [] (.ret (.agg [az VV,az XK,SL XN,SL XO,SL XP,SL XQ,SL XR,az XL,SL XS,az XM,SL Ta])) []) (cf:ok=true→FC 20 [.agg [az VV,az XK,SL XN,SL XO,SL XP,SL XQ,SL XR,az XL,SL XS,az XM,SL Ta],az I] [] (.ret (.dL [SL nr,BL true])) [])
 (hx:¬vl=[]→∃y:Nat,y<vl.length∧gg.tmod (vl.length:Int)=x∧x=y∧FC 21 [.agg [az SY,az SZ,SL S4,SL S5,SL S6,SL S7,SL S8,az S2,SL S9,az S3,SL HS],SL (vr.take y++vr.drop (y+1))] [] (.ret (.agg [az XT,az XU,SL XY,SL XZ,SL X1,SL X2,SL X3,az XW,SL X4,az XX,SL Tb])) [])
 (cg:ok=true→¬vl=[]→FC 20 [.agg [az XT,az XU,SL XY,SL XZ,SL X1,SL X2,SL X3,az XW,SL X4,az XX,SL Tb],az I] [] (.ret (.dL [SL br,BL false])) []) (hno:ok=false→vl=[]∧nl=[]) (hin:ok=true→∀y∈vl,y∈A):
 FC 4 [U8 a,SL dl,U8 kk,U8 gg] [] (.ret (BL true)) []:=by
 have w1:IntKind.i64.wrap gg=gg:=by rw [hg];exact wrap64 (by omega) (by omega)
 have rl:∀r∈vr,r.length=1:=by subst wH;intro r hr;obtain ⟨z,_,rfl⟩:=List.mem_map.1 hr;rfl
 have f3:∀y:Nat,y<vl.length→bJ vl.length none (some (y:Int)):=fun y h=>⟨by omega,by omega⟩
 have f8:∀y:Nat,y<vl.length→bJ vl.length (some ((y:Int)+1)) none:=fun y h=>⟨by omega,by omega⟩
 have w2:∀y:Nat,y<vl.length→IntKind.i64.wrap ((y:Int)+1)=(y:Int)+1:=fun y h=>aD (by omega)
 have p1:∀y:Nat,gq vr none (some (y:Int))=vr.take y:=fun y=>by simp [gq]
 have p2:∀y:Nat,gq vr (some ((y:Int)+1)) none=vr.drop (y+1):=fun y=>by show vr.drop ((y:Int)+1).toNat=_;congr 1
 have f4:∀y:Nat,(vr.take y).length*8≤140737488355328∧∀r∈vr.take y,r.length=1:=fun y=>⟨by rw [List.length_take];rw [wH,lgM];omega,fun r hr=>rl r (List.mem_of_mem_take hr)⟩
 have f9:∀y:Nat,((vr.take y).length+(vr.drop (y+1)).length)*8≤140737488355328∧∀r∈vr.take y++vr.drop (y+1),r.length=1:=fun y=>⟨by rw [List.length_take,List.length_drop];rw [wH,lgM];omega,fun r hr=>rl r (by rcases List.mem_append.1 hr with h|h;exact List.mem_of_mem_take h;exact List.mem_of_mem_drop h)⟩
 refine bL ht (aI:=[]) Tryz.func4 rfl rfl (N:=128) rfl rfl (n:=0) rfl rfl ?_
 cbv
 have eG:vr.length=vl.length:=by rw [wH,lgM]
 have gm:nr.length=nl.length:=by rw [Re,lgM]
 have gz:lr.length=A.length:=by rw [hlr,lgM]
 (refine fO trv hx0 trv rfl rfl ?_)
 cbv
 refine an (fun h0=>?_) (fun h0=>?_)
 ·simp [ht,aa,eG,gm,gz] at h0
 simp [ht,aa,eG,gm,gz] at h0
 cbv
 (refine o4 trv hL trv rfl rfl rfl ?_)
 cbv
 (refine fO trv hW trv rfl rfl ?_)
 cbv
 (refine o4 trv cv trv rfl rfl rfl ?_)
 cbv
 refine an (fun h1=>?_) (fun h1=>?_)
 ·simp [ht,aa,eG,gm,gz] at h1
  cbv
  iterate 3 refine gI (by simp [ht,ah]) ?_
  refine pI (by simp [ht,ah]) ?_
  iterate 3 refine gI (by simp [ht,ah]) ?_
  refine pI (by simp [ht,ah]) ?_
  refine ax trv trv rfl rfl rfl ?_
  (simp [ht,fL,zb,qD,cP,EC,CS,ve,Kj,UW, *];done)
 simp [ht,aa,eG,gm,gz] at h1
 cbv
 (refine o4 trv cw trv rfl rfl rfl ?_)
 cbv
 (refine o4 trv (cf ‹_›) trv rfl rfl rfl ?_)
 cbv
 iterate 2 refine gI (by simp [ht,ah]) ?_
 (refine cY (fun g9=>⟨(by first|trivial|exact ⟨g9,trv⟩|exact ⟨g9,g9,trv⟩|exact ⟨g9,g9,g9,trv⟩|exact ⟨g9,g9,g9,g9,trv⟩),by simp [ht],ze ht (l:=nl) (m:=nl) (by first|rfl|exact Re|(simp only [ht];first|done|exact Re)) (by first|rfl|exact Re|(simp only [ht];first|done|exact Re)) (by omega) (by omega)⟩) rfl rfl (fun q9 Vx=>?_);simp only [ht,decide_true] at Vx;subst q9)
 cbv
 refine gI (by simp [ht,ah]) ?_
 refine pI (by simp [ht,ah]) ?_
 refine an (fun h2=>?_) (fun h2=>?_)
 ·simp [ht,aa,eG,gm,gz] at h2
 simp [ht,aa,eG,gm,gz] at h2
 cbv
 refine an (fun h3=>?_) (fun h3=>?_)
 ·simp [ht,aa,eG,gm,gz] at h3
  cbv
  refine ax trv trv rfl rfl rfl ?_
  rfl
 simp [ht,aa,eG,gm,gz] at h3
 cbv
 refine ⟨?_,?_⟩
 ·(simp [ht,aa,wH,Re,hlr];omega)
 cbv
 (obtain ⟨y,y1,y2,y3,cu⟩:=hx ‹_›;replace w2:=w2 y y1;replace f3:=f3 y y1;replace f8:=f8 y y1;replace p1:=p1 y;replace p2:=p2 y;replace f4:=f4 y;replace f9:=f9 y;generalize hX:(t Int fun _=>(t Int fun _=>IntKind.i64.wrap gg).tmod (t Int fun _=>(vr.length:Int)))=X;have YO:X=(y:Int):=hX.symm.trans (by simp only [ht,w1,eG,y2,y3]);clear hX;generalize AV.agg [az SY,az SZ,SL S4,SL S5,SL S6,SL S7,SL S8,az S2,SL S9,az S3,SL HS]=g1;generalize AV.agg [az VV,az XK,SL XN,SL XO,SL XP,SL XQ,SL XR,az XL,SL XS,az XM,SL Ta]=g2;generalize AV.dL [SL vr,SL nr,BL ok]=g3;generalize AV.dL [SL nr,BL true]=g4;generalize (AV.cond (t Bool fun _=>!t Bool fun _=>!true) (SL nr))=g5;generalize (AV.cond (t Bool fun _=>!t Bool fun _=>!true) (BL true))=g6;generalize (AV.cond (t Bool fun _=>!t Bool fun _=>!true) (BL (t Bool fun _=>!true)))=g7;generalize BL (t Bool fun _=>!true)=g8;generalize BL (t Bool fun _=>!ok)=g9;replace cg:=cg ‹_› ‹_›;apply T6 (bR 18 1 [(0,0)]::bR 18 2 [(0,1)]::bR 18 4 [(0,2)]::bR 18 32 [(0,5)]::bR 18 64 [(0,6)]::bR 18 2048 [(0,11)]::bR 18 3 [(1,1),(2,0)]::bR 18 5 [(1,2),(3,0)]::bR 18 6 [(2,2),(3,1)]::bR 18 33 [(1,5),(4,0)]::bR 18 34 [(2,5),(4,1)]::bR 18 36 [(3,5),(4,2)]::bR 18 65 [(1,6),(5,0)]::bR 18 66 [(2,6),(5,1)]::bR 18 68 [(3,6),(5,2)]::bR 18 96 [(4,6),(5,5)]::bR 18 192 [(5,7)]::bR 18 2049 [(1,11),(6,0)]::bR 18 2050 [(2,11),(6,1)]::bR 18 2052 [(3,11),(6,2)]::bR 18 2080 [(4,11),(6,5)]::bR 18 2112 [(5,11),(6,6)]::bR 18 7 [(7,2),(8,1),(9,0)]::bR 18 14 [(9,3)]::bR 18 35 [(7,5),(10,1),(11,0)]::bR 18 37 [(8,5),(10,2),(12,0)]::bR 18 38 [(9,5),(11,2),(12,1)]::bR 18 67 [(7,6),(13,1),(14,0)]::bR 18 69 [(8,6),(13,2),(15,0)]::bR 18 70 [(9,6),(14,2),(15,1)]::bR 18 97 [(10,6),(13,5),(16,0)]::bR 18 98 [(11,6),(14,5),(16,1)]::bR 18 100 [(12,6),(15,5),(16,2)]::bR 18 193 [(13,7),(17,0)]::bR 18 194 [(14,7),(17,1)]::bR 18 196 [(15,7),(17,2)]::bR 18 224 [(16,7),(17,5)]::bR 18 2051 [(7,11),(18,1),(19,0)]::bR 18 2053 [(8,11),(18,2),(20,0)]::bR 18 2054 [(9,11),(19,2),(20,1)]::bR 18 2081 [(10,11),(18,5),(21,0)]::bR 18 2082 [(11,11),(19,5),(21,1)]::bR 18 2084 [(12,11),(20,5),(21,2)]::bR 18 2113 [(13,11),(18,6),(22,0)]::bR 18 2114 [(14,11),(19,6),(22,1)]::bR 18 2116 [(15,11),(20,6),(22,2)]::bR 18 2144 [(16,11),(21,6),(22,5)]::bR 18 2240 [(17,11),(22,7)]::bR 18 15 [(23,3),(24,0)]::bR 18 30 [(24,4)]::bR 18 39 [(23,5),(25,2),(26,1),(27,0)]::bR 18 46 [(24,5),(27,3)]::bR 18 71 [(23,6),(28,2),(29,1),(30,0)]::bR 18 78 [(24,6),(30,3)]::bR 18 99 [(25,6),(28,5),(31,1),(32,0)]::bR 18 101 [(26,6),(29,5),(31,2),(33,0)]::bR 18 102 [(27,6),(30,5),(32,2),(33,1)]::bR 18 195 [(28,7),(34,1),(35,0)]::bR 18 197 [(29,7),(34,2),(36,0)]::bR 18 198 [(30,7),(35,2),(36,1)]::bR 18 225 [(31,7),(34,5),(37,0)]::bR 18 226 [(32,7),(35,5),(37,1)]::bR 18 228 [(33,7),(36,5),(37,2)]::bR 18 480 [(37,8)]::bR 18 2055 [(23,11),(38,2),(39,1),(40,0)]::bR 18 2062 [(24,11),(40,3)]::bR 18 2083 [(25,11),(38,5),(41,1),(42,0)]::bR 18 2085 [(26,11),(39,5),(41,2),(43,0)]::bR 18 2086 [(27,11),(40,5),(42,2),(43,1)]::bR 18 2115 [(28,11),(38,6),(44,1),(45,0)]::bR 18 2117 [(29,11),(39,6),(44,2),(46,0)]::bR 18 2118 [(30,11),(40,6),(45,2),(46,1)]::bR 18 2145 [(31,11),(41,6),(44,5),(47,0)]::bR 18 2146 [(32,11),(42,6),(45,5),(47,1)]::bR 18 2148 [(33,11),(43,6),(46,5),(47,2)]::bR 18 2241 [(34,11),(44,7),(48,0)]::bR 18 2242 [(35,11),(45,7),(48,1)]::bR 18 2244 [(36,11),(46,7),(48,2)]::bR 18 2272 [(37,11),(47,7),(48,5)]::bR 18 31 [(49,4),(50,0)]::bR 18 47 [(49,5),(51,3),(52,0)]::bR 18 62 [(50,5),(52,4)]::bR 18 79 [(49,6),(53,3),(54,0)]::bR 18 94 [(50,6),(54,4)]::bR 18 103 [(51,6),(53,5),(55,2),(56,1),(57,0)]::bR 18 110 [(52,6),(54,5),(57,3)]::bR 18 199 [(53,7),(58,2),(59,1),(60,0)]::bR 18 206 [(54,7),(60,3)]::bR 18 227 [(55,7),(58,5),(61,1),(62,0)]::bR 18 229 [(56,7),(59,5),(61,2),(63,0)]::bR 18 230 [(57,7),(60,5),(62,2),(63,1)]::bR 18 481 [(61,8),(64,0)]::bR 18 482 [(62,8),(64,1)]::bR 18 484 [(63,8),(64,2)]::bR 18 2063 [(49,11),(65,3),(66,0)]::bR 18 2078 [(50,11),(66,4)]::bR 18 2087 [(51,11),(65,5),(67,2),(68,1),(69,0)]::bR 18 2094 [(52,11),(66,5),(69,3)]::bR 18 2119 [(53,11),(65,6),(70,2),(71,1),(72,0)]::bR 18 2126 [(54,11),(66,6),(72,3)]::bR 18 2147 [(55,11),(67,6),(70,5),(73,1),(74,0)]::bR 18 2149 [(56,11),(68,6),(71,5),(73,2),(75,0)]::bR 18 2150 [(57,11),(69,6),(72,5),(74,2),(75,1)]::bR 18 2243 [(58,11),(70,7),(76,1),(77,0)]::bR 18 2245 [(59,11),(71,7),(76,2),(78,0)]::bR 18 2246 [(60,11),(72,7),(77,2),(78,1)]::bR 18 2273 [(61,11),(73,7),(76,5),(79,0)]::bR 18 2274 [(62,11),(74,7),(77,5),(79,1)]::bR 18 2276 [(63,11),(75,7),(78,5),(79,2)]::bR 18 2528 [(64,11),(79,8)]::bR 18 63 [(80,5),(81,4),(82,0)]::bR 18 95 [(80,6),(83,4),(84,0)]::bR 18 111 [(81,6),(83,5),(85,3),(86,0)]::bR 18 126 [(82,6),(84,5),(86,4)]::bR 18 207 [(83,7),(87,3),(88,0)]::bR 18 222 [(84,7),(88,4)]::bR 18 231 [(85,7),(87,5),(89,2),(90,1),(91,0)]::bR 18 238 [(86,7),(88,5),(91,3)]::bR 18 483 [(89,8),(92,1),(93,0)]::bR 18 485 [(90,8),(92,2),(94,0)]::bR 18 486 [(91,8),(93,2),(94,1)]::bR 18 2079 [(80,11),(95,4),(96,0)]::bR 18 2095 [(81,11),(95,5),(97,3),(98,0)]::bR 18 2110 [(82,11),(96,5),(98,4)]::bR 18 2127 [(83,11),(95,6),(99,3),(100,0)]::bR 18 2142 [(84,11),(96,6),(100,4)]::bR 18 2151 [(85,11),(97,6),(99,5),(101,2),(102,1),(103,0)]::bR 18 2158 [(86,11),(98,6),(100,5),(103,3)]::bR 18 2247 [(87,11),(99,7),(104,2),(105,1),(106,0)]::bR 18 2254 [(88,11),(100,7),(106,3)]::bR 18 2275 [(89,11),(101,7),(104,5),(107,1),(108,0)]::bR 18 2277 [(90,11),(102,7),(105,5),(107,2),(109,0)]::bR 18 2278 [(91,11),(103,7),(106,5),(108,2),(109,1)]::bR 18 2529 [(92,11),(107,8),(110,0)]::bR 18 2530 [(93,11),(108,8),(110,1)]::bR 18 2532 [(94,11),(109,8),(110,2)]::bR 18 127 [(111,6),(112,5),(113,4),(114,0)]::bR 18 223 [(112,7),(115,4),(116,0)]::bR 18 239 [(113,7),(115,5),(117,3),(118,0)]::bR 18 254 [(114,7),(116,5),(118,4)]::bR 18 487 [(117,8),(119,2),(120,1),(121,0)]::bR 18 494 [(118,8),(121,3)]::bR 18 2111 [(111,11),(122,5),(123,4),(124,0)]::bR 18 2143 [(112,11),(122,6),(125,4),(126,0)]::bR 18 2159 [(113,11),(123,6),(125,5),(127,3),(128,0)]::bR 18 2174 [(114,11),(124,6),(126,5),(128,4)]::bR 18 2255 [(115,11),(125,7),(129,3),(130,0)]::bR 18 2270 [(116,11),(126,7),(130,4)]::bR 18 2279 [(117,11),(127,7),(129,5),(131,2),(132,1),(133,0)]::bR 18 2286 [(118,11),(128,7),(130,5),(133,3)]::bR 18 2531 [(119,11),(131,8),(134,1),(135,0)]::bR 18 2533 [(120,11),(132,8),(134,2),(136,0)]::bR 18 2534 [(121,11),(133,8),(135,2),(136,1)]::bR 18 255 [(137,7),(138,5),(139,4),(140,0)]::bR 18 495 [(139,8),(141,3),(142,0)]::bR 18 510 [(140,8),(142,4)]::bR 18 2175 [(137,11),(143,6),(144,5),(145,4),(146,0)]::bR 18 2271 [(138,11),(144,7),(147,4),(148,0)]::bR 18 2287 [(139,11),(145,7),(147,5),(149,3),(150,0)]::bR 18 2302 [(140,11),(146,7),(148,5),(150,4)]::bR 18 2535 [(141,11),(149,8),(151,2),(152,1),(153,0)]::bR 18 2542 [(142,11),(150,8),(153,3)]::bR 18 511 [(154,8),(155,4),(156,0)]::bR 18 1022 [(156,9)]::bR 18 2303 [(154,11),(157,7),(158,5),(159,4),(160,0)]::bR 18 2543 [(155,11),(159,8),(161,3),(162,0)]::bR 18 2558 [(156,11),(160,8),(162,4)]::bR 18 1023 [(163,9),(164,0)]::bR 18 2559 [(163,11),(165,8),(166,4),(167,0)]::bR 18 3070 [(164,11),(167,9)]::bR 18 2047 [(168,10)]::bR 18 3071 [(168,11),(169,9),(170,0)]::bR 18 4095 [(171,11),(172,10)]::bR 18 8191 [(173,12)]::bR 18 16383 [(174,13)]::bR 18 32767 [(175,14)]::bR 18 49151 [(175,15)]::bR 18 65535 [(176,15),(177,14)]::bR 18 98303 [(176,16)]::bR 18 131071 [(178,16),(179,15)]::bR 18 262143 [(180,17)]::[]) (_::_::_::_::_::_::_::_::_::_::_::_::_::_::_::_::_::_::_::_::_::_::_::_::_::_::_::_::_::_::_::_::_::_::_::_::_::_::_::_::_::_::_::_::_::_::_::_::_::_::_::_::_::_::_::_::_::_::_::_::_::_::_::_::_::_::_::_::_::_::_::_::_::_::_::_::_::_::_::_::_::_::_::_::_::_::_::_::_::_::_::_::_::_::_::_::_::_::_::_::_::_::_::_::_::_::_::_::_::_::_::_::_::_::_::_::_::_::_::_::_::_::_::_::_::_::_::_::_::_::_::_::_::_::_::_::_::_::_::_::_::_::_::_::_::_::_::_::_::_::_::_::_::_::_::_::_::_::_::_::_::_::_::_::_::_::_::_::_::_::_::_::_::_::_::_::_::_::_::_::_::_::[]);kernel_rfl;(next=>refine Pb.wD [8,9,10,11,12,17] rfl rfl (Qw fun Q=>?_);repeat (first|((with_reducible apply Ab.cons);exact rfl)|(with_reducible exact Ab.nil)|((with_reducible apply Qx);focus (cbv;first|done|exact rfl|(refine And.intro ?_ ?_;(next=>(simp only [ht,aa,eG,YO,w2,p1,p2,List.nil_append,List.length_nil,Nat.zero_add,true_and,true_or];first|done|with_reducible exact ⟨f3,rl⟩|with_reducible exact f4|with_reducible exact ⟨f8,rl⟩|with_reducible exact f9));(first|exact rfl|exact True.intro))|(refine Mx trv rfl (by simp [ht]) (by exact dw [] rfl rfl rfl rfl (by simp only [ht,aa,YO,w2,p1,p2,List.nil_append];exact cu)) ?_;cbv;first|done|exact rfl)|(refine o4 trv cg trv rfl rfl rfl ?_;cbv;first|done|exact rfl)))|(apply yq.cons;exact rfl)|exact yq.nil));(next=>exact rfl))
 cbv
 (refine o4 trv cl trv rfl rfl rfl ?_)
 cbv
 obtain ⟨J4,FM⟩:∃J4:Nat→Int→Prop,∀n i,J4 n i↔(∃k:Nat,i=k∧k+n=vl.length):=⟨fun n v=>match v with|i=>(∃k:Nat,i=k∧k+n=vl.length),fun _ _=>Iff.rfl⟩
 refine bI ⟨[9,12,19,20,21],[],[]⟩ (σ:=Int) (fun v=>[(21,.d (.int .i64 (t _ fun _=>v)))]) (fun v=>[]) J4 ?_
 cbv
 refine aC ⟨vl.length,_,(FM _ _).2 ?_,by simp only [ht];rfl,?_⟩
 ·exact ⟨0,rfl,by simp⟩
 rintro n i hj
 replace hj:=(FM _ _).1 hj
 obtain ⟨k,rfl,j1⟩:=hj
 cbv
 refine an (fun h5=>?_) (fun h5=>?_)
 ·simp [ht,aa,eG,gm,gz] at h5
  cbv
  obtain ⟨J6,Lf⟩:∃J6:Nat→Bool×Int→Prop,∀m met qq,J6 m (met,qq)↔(∃p:Nat,qq=p∧p+m=A.length∧∀x,vl[k]?=some x→met=decide (x∈A.take p)):=⟨fun m v=>match v with|(met,qq)=>(∃p:Nat,qq=p∧p+m=A.length∧∀x,vl[k]?=some x→met=decide (x∈A.take p)),fun _ _ _=>Iff.rfl⟩
  refine bI ⟨[9,12,19,20,21,22,23],[],[]⟩ (σ:=Bool×Int) (fun v=>[(22,.d (.bool (t _ fun _=>v.1))),(23,.d (.int .i64 (t _ fun _=>v.2)))]) (fun v=>[]) J6 ?_
  cbv
  refine aC ⟨A.length,(_,_),(Lf _ _ _).2 ?_,by simp only [ht];rfl,?_⟩
  ·exact ⟨0,rfl,by simp,fun x _=>by simp⟩
  rintro m ⟨met,qq⟩ hj
  replace hj:=(Lf _ _ _).1 hj
  obtain ⟨p,rfl,i1,i2⟩:=hj
  cbv
  refine an (fun h7=>?_) (fun h7=>?_)
  ·simp [ht,aa,eG,gm,gz] at h7
   cbv
   refine c7 [true,true,false,false,false,false,false,false,false,false,true,true,true] (by kernel_rfl) (by kernel_rfl) ?_
   cbv
   iterate 2 refine gI (by simp [ht,ah]) ?_
   (first|(obtain ⟨y7,VX⟩:=elemAt A p;refine Bc ht (cT:=Int.bC t) hlr p y7 (fun _=>⟨by simp only [ht,aa],VX (by ((try simp only [aa] at*);omega))⟩) (fun _=>rfl) (fun _=>rfl) (fun hg=>by first|exact ⟨hg,hg,trv⟩|exact ⟨hg,hg,hg,trv⟩|exact ⟨hg,trv⟩) ?_)|(obtain ⟨y8,Vy⟩:∃y,vl[k]?=some y:=⟨_,List.getElem?_eq_getElem (by ((try simp only [aa] at*);omega))⟩;refine Bc ht (cT:=Int.bC t) wH k y8 (fun _=>⟨by simp only [ht,aa],Vy⟩) (fun _=>rfl) (fun _=>rfl) (fun hg=>by first|exact ⟨hg,hg,trv⟩|exact ⟨hg,hg,hg,trv⟩|exact ⟨hg,trv⟩) ?_))
   cbv
   iterate 3 refine gI (by simp [ht,ah]) ?_
   (first|(obtain ⟨y7,VX⟩:=elemAt A p;refine Bc ht (cT:=Int.bC t) hlr p y7 (fun _=>⟨by simp only [ht,aa],VX (by ((try simp only [aa] at*);omega))⟩) (fun _=>rfl) (fun _=>rfl) (fun hg=>by first|exact ⟨hg,hg,trv⟩|exact ⟨hg,hg,hg,trv⟩|exact ⟨hg,trv⟩) ?_)|(obtain ⟨y8,Vy⟩:∃y,vl[k]?=some y:=⟨_,List.getElem?_eq_getElem (by ((try simp only [aa] at*);omega))⟩;refine Bc ht (cT:=Int.bC t) wH k y8 (fun _=>⟨by simp only [ht,aa],Vy⟩) (fun _=>rfl) (fun _=>rfl) (fun hg=>by first|exact ⟨hg,hg,trv⟩|exact ⟨hg,hg,hg,trv⟩|exact ⟨hg,trv⟩) ?_))
   cbv
   iterate 2 refine gI (by simp [ht,ah]) ?_
   refine pI (by simp [ht,ah]) ?_
   refine cL (_,_) (by simp only [ht];rfl) (m-1) ?_ ((Lf _ _ _).2 ?_)
   ·omega
   simp only [ht,aa]
   exact ⟨p+1,aD (by ((try simp only [aa] at*);omega)),by ((try simp only [aa] at*);omega),fun x hx=>by rw [Vy] at hx;cases hx;exact Oh (VX (by ((try simp only [aa] at*);omega))) (i2 _ Vy)⟩
  simp [ht,aa,eG,gm,gz] at h7
  cbv
  refine an (fun h8=>?_) (fun h8=>?_)
  ·simp [ht,aa,eG,gm,gz] at h8
   cbv
   refine ax trv trv rfl rfl rfl ?_
   (exfalso;have Z8:=List.getElem?_eq_getElem h5;have i3:=i2 _ Z8;(first|rw [h9,List.take_of_length_le h7] at i3|rw [h8,List.take_of_length_le h7] at i3);have i4:=hin ‹_› _ (List.getElem_mem h5);simp [i4] at i3)
  simp [ht,aa,eG,gm,gz] at h8
  cbv
  refine cL _ (by simp only [ht];rfl) (n-1) ?_ ((FM _ _).2 ?_)
  ·omega
  simp only [ht,aa]
  exact ⟨k+1,aD (by ((try simp only [aa] at*);omega)),by ((try simp only [aa] at*);omega)⟩
 simp [ht,aa,eG,gm,gz] at h5
 cbv
 iterate 2 refine gI (by simp [ht,ah]) ?_
 refine pI (by simp [ht,ah]) ?_
 refine ax trv trv rfl rfl rfl ?_
 (simp [ht,fL,zb,qD,cP,EC,CS,ve,Kj,UW];done)
end Dem
