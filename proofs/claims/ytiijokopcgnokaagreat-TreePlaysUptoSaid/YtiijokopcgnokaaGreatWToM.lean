import Derived.Deep.DeepCutAuto
import Derived.Deep.CutBlock
import Derived.Test.YtiijokopcgnokaaGreatWToE
set_option maxRecDepth 100000
set_option maxHeartbeats 4000000
set_option linter.unusedSimpArgs false
set_option linter.unusedVariables false
namespace Go.Proofs.YtiijokopcgnokaaGreat
namespace I
open Go Go.RowKit B Tryz
theorem Xix {P:Program} {w:World} {ops:Array Oper} {rest:List Oper} {o:Oper} {a:Act} {Q:Exit→Act→World→Prop} (hgd:o.guard=none) (s x:Operand) (t:TypeId)
  (ho:o.op=.call { callee:=.builtin .append,args:=#[s,x],argTypes:=#[t,t] }) (e:TypeId) (size:Nat) (ht:P.underlying t=some (.slice e)) (hi:∃ i,P.info? e=some i∧i.size=size)
  (g n sCap:Nat) (cur:List Value) (hg:Blk w g cur e) (hs:a.eval s=.slice (some ⟨g,0,none⟩) n sCap) (ad:Addr) (m c:Nat) (hx:a.eval x=.slice (some ad) m c) (news:List Value) (hl:news.length=m*size)
  (hnews:∀ j u,news[j]?=some u→w.cell? (ad.add j)=some u) (h1:∀ u∈news,u.oneCell'=true) (hroom:n+m≤sCap) (hfit:n*size+news.length≤cur.length)
  (r:Nat) (hr0:n+m=r) (h:∀ w',Blk w' g (splice cur (n*size) news) e→Only [g] w w'→wpList P ops Q rest (a.put o.dst (.slice (some ⟨g,0,none⟩) r sCap)) w'):wpList P ops Q (o :: rest) a w:=by
 obtain ⟨i,hi1,hi2⟩:=hi;subst hi2;subst hr0;have hr:=run_append_room (P:=P) w t o.type e i ht hi1 g n sCap cur.toArray hg ad m c news hl hnews h1 hroom (by simpa using hfit)
 refine wpList_plain hgd fun _ hK=>?_
 unfold Oper.wp execOp;simp only [ho,resolve,invoke,builtin,Sem.run_bind,Sem.run_pure,Result.andThen_ok,List.map_toArray,Zx,Wu,hs,hx,hr];exact hK _ _ (h _ ((hg.row _).to (by simp [splice])) ((Only.refl _ _).setRow (.inl (by simp)) _))
theorem zero_el (w:World):(zeroValue 43).run prog w=.ok (.agg #[.slice none 0 0,.int .u64 0]) w:=by
 obtain ⟨i,hi,hz,_⟩:=info_parts Xec
 simp [zeroValue,typeInfo,hi,hz]
theorem del_take {cur xs zs:List Value} {i r cap:Nat} (hc:cur.length=cap*2) (hr:r+1≤cap) (hi:i≤r) (ht:cur.take ((r+1)*2)=xs) (hx:xs.length=(r+1)*2) :
  (splice (splice cur (i*2) (xs.drop ((i+1)*2))) (r*2) zs).take (r*2)=xs.take (i*2)++xs.drop ((i+1)*2):=by
 have hd:(xs.drop ((i+1)*2)).length=(r-i)*2:=by rw [Zy,hx];omega
 have h1:cur.take (i*2)=xs.take (i*2):=by rw [←ht,Wb,Yt (by omega)]
 have h2:(cur.take (i*2)++xs.drop ((i+1)*2)).length=r*2:=by rw [Ze,hd,Zj];omega
 have h3:(splice cur (i*2) (xs.drop ((i+1)*2))).take (r*2)=cur.take (i*2)++xs.drop ((i+1)*2):=by
  have e:splice cur (i*2) (xs.drop ((i+1)*2))=(cur.take (i*2)++xs.drop ((i+1)*2))++cur.drop (i*2+(xs.drop ((i+1)*2)).length):=by simp [splice]
  rw [e];exact Xdu h2
 have e2:splice (splice cur (i*2) (xs.drop ((i+1)*2))) (r*2) zs=(splice cur (i*2) (xs.drop ((i+1)*2))).take (r*2)++(zs++(splice cur (i*2) (xs.drop ((i+1)*2))).drop (r*2+zs.length)):=by simp [splice]
 rw [e2,h3,←h1];exact Xdu h2
theorem slDelete_any {w:World} {g r cap i:Nat} {xs:List Value} (h:w.ownsRow 0 43 2 (.slice (some ⟨g,0,none⟩) (r+1) cap) (r+1) xs) (hi:i≤r) (h1:∀ u∈xs,u.oneCell'=true) (hl:r≤1000000) :
  Calls prog 39 #[.slice (some ⟨g,0,none⟩) (r+1) cap,.int .i64 i,.int .i64 (i+1:Nat)] w fun e w'=>e=.returned (.slice (some ⟨g,0,none⟩) r cap)∧w'.ownsRow 0 43 2 (.slice (some ⟨g,0,none⟩) r cap) r (xs.take (i*2)++xs.drop ((i+1)*2))∧Only [g] w w':=by
 obtain ⟨hxl,h2⟩:=id h
 rcases h2 with ⟨he,_⟩ | ⟨g',cap',cur,he,_,hg,hnc,hcm,hcs,hct⟩
 ·simp only [Value.slice.injEq] at he;cases he.1
 simp only [Value.slice.injEq,Zw,Addr.mk.injEq] at he;obtain ⟨⟨rfl,_⟩,_,rfl⟩:=he
 have HB:Hid (Blk w g cur.toList 43):=by show Blk _ _ _ _;unfold Blk;rw [Array.toArray_toList];exact hg
 have HCL:Hid (cur.toList.length=cap*2):=by show _=_;rw [Array.length_toList];exact hcs
 have HCT:=Th hct;have HXL:=Th hxl;have H1:=Th h1;have HCM:=Th hcm;have HNC:=Th hnc
 have g0:(0:Int)≤i:=by omega
 have g1:((i:Nat):Int)≤((i+1:Nat):Int):=by omega
 have g2:((i+1:Nat):Int)≤((r+1:Nat):Int):=by omega
 have g3:((r+1:Nat):Int)≤cap:=by omega
 have g4:¬((i:Nat):Int)=((i+1:Nat):Int):=by omega
 have g5:¬cap=r:=by omega
 have DL:Hid ((xs.drop ((i+1)*2)).length=(r-i)*2):=by show _=_;rw [Zy,hxl];omega
 have D1:Hid (∀ u∈xs.drop ((i+1)*2),u.oneCell'=true):=fun u hu=>h1 u (Ys hu)
 have SRC:Hid (∃ ad,(if cap=i+1 then some (⟨g,0,none⟩:Addr) else some ⟨g,(i+1)*2,none⟩)=some ad∧∀ j u,(xs.drop ((i+1)*2))[j]?=some u→w.drew.cell? (ad.add j)=some u):=by
  by_cases hc:cap=i+1
  ·refine ⟨_,if_pos hc,fun j u hu=>?_⟩
   have:(xs.drop ((i+1)*2)).length=0:=by rw [DL.out];omega
   rw [Xd this] at hu;simp at hu
  ·refine ⟨_,if_neg hc,fun j u hu=>?_⟩
   rw [Xh] at hu
   have hadd:(⟨g,(i+1)*2,none⟩:Addr).add j=⟨g,(i+1)*2+j,none⟩:=by unfold Addr.add;split <;> simp_all
   rw [hadd];show w.cell? _=_;rw [HB.out.cell,←hu,←hct];have hj:=(Zh.1 hu).1;rw [Yq,if_pos (by rw [hxl] at hj;omega)]
 obtain ⟨ad,had,hsrc⟩:=SRC.out;have HS:=Th hsrc;clear h hg hcs hct hxl h1 hcm hsrc SRC hnc
 go_enter func39,ntmps39
 go_upto_region 5 with fail
 refine Xbf 6 (C:=fun w'=>w'=w.drew) (by kernel_rfl) (by kernel_rfl) rfl ?_
 simp only [Xv,Wc,Wh,Xp]
 repeat (go_big_quiet_step (fail))
 refine wpQuiet_nil ?_
 rintro _ rfl;clear had
 refine Xix rfl (.tmp 22) (.tmp 25) 48 rfl 43 2 underlying48 (by obtain ⟨q,h1,_,h2,_⟩:=info_parts Xec;exact ⟨q,h1,h2⟩) g i cap cur.toList HB.out.drew rfl ad (r-i) (cap-(i+1)) rfl (xs.drop ((i+1)*2)) DL.out HS.out D1.out (by omega) (by rw [DL.out,HCL.out];omega) r (by omega) ?_
 intro w2 hb2 hO2;have B2:=Th hb2;have O2:Hid (Only [g] w w2):=((Only.refl [g] w).drew).trans hO2 (fun x hx=>.inl hx);clear hb2 hO2
 go_upto_region 6 with fail
 have BL2:Hid ((splice cur.toList (i*2) (xs.drop ((i+1)*2))).length=cap*2):=by
  show _=_;rw [splice_len (by rw [DL.out,HCL.out];have:=HNC.out;omega)]
  exact HCL.out
 obtain ⟨w3,hrun,hb3,hO3⟩:=run_clear_n (P:=prog) w2 48 43 0 (.agg #[.slice none 0 0,.int .u64 0]) underlying48 zero_el g (r*2) 1 (cap-r) _ 43 B2.out (by omega) [.slice none 0 0,.int .u64 0] (by first | kernel_rfl | simp [Builtin.zeroCells,Value.cells]) (by intro v hv;simp at hv;rcases hv with rfl | rfl <;> rfl) (by rw [BL2.out];have:=HNC.out;simp;omega);have B3:=Th hb3;have O3:=Th (O2.out.trans hO3 (fun x hx=>.inl hx));clear hb3 hO3
 go_wp2_with fail
 go_ret;refine ⟨rfl,?_,O3.out⟩;have hlen:(splice cur.toList (i*2) (xs.drop ((i+1)*2))).length=cap*2:=BL2.out
 refine blk_owns B3.out ?_ (by have:=HNC.out;omega) HCM.out (del_take HCL.out HNC.out hi HCT.out HXL.out) ?_
 ·rw [splice_len (by rw [hlen];have:=HNC.out;simp;omega),hlen]
 ·rw [Ze,DL.out,Zj,HXL.out];omega
end I
namespace T
open Go Go.RowKit D B C G P H Tryz
theorem delP_eq (l:List Pr) (x:Pr):delP l x=l.take (low l x)++l.drop (low l x+1):=List.eraseIdx_eq_take_drop_succ _ _
theorem delP_fits {l:List Pr} {x:Pr} (h:fitsP true l=true):fitsP true (delP l x)=true:=by
 have h1:=Xcf.1 h
 refine Xcf.2 ?_
 rw [delP_eq,Xbn];have h2:=Xde true l (low l x)
 have h3:sumE true (l.drop (low l x+1))≤sumE true (l.drop (low l x)):=by
  have:=Xde true (l.drop (low l x)) 1;rw [List.drop_drop] at this;omega
 omega
theorem delP_keys {l:List Pr} {x:Pr} (h:Keys l):Keys (delP l x):=fun e he=>h e ((Wa _ _).subset he)
def MNd.delE (m:MNd) (v':Value) (c:Nat):MNd:={ m with n:={ m.n with es:=m.n.es.take c++m.n.es.drop (c+1) },ev:=v',L:=m.L.take c++m.L.drop (c+1) }
theorem delE_turn {w1 w2:World} {M:List Nat} {m:MNd} {g r cc c:Nat} (h1:NodeAt w1 M m) (hM:∀ x∈M,x<w1.heap.size) (hev:m.ev=.slice (some ⟨g,0,none⟩) (r+1) cc) (hl:m.n.es.length=r+1) (hc:c≤r)
  (ho:w2.ownsRow 0 43 2 (.slice (some ⟨g,0,none⟩) r cc) r ((kvsC m.L).take (c*2)++(kvsC m.L).drop ((c+1)*2))) (hO:Only [g] w1 w2) :
  w2.cell? ⟨m.nb,3,none⟩=some (.slice (some ⟨g,0,none⟩) (r+1) cc)∧w2.frozen? ⟨m.nb,3,none⟩=false∧Turn w1 (w2.setCell ⟨m.nb,3,none⟩ (.slice (some ⟨g,0,none⟩) r cc)) M m (m.delE (.slice (some ⟨g,0,none⟩) r cc) c):=by
 have hlen:(m.L.take c++m.L.drop (c+1)).length=r:=by
  have:=h1.len
  simp only [Ze,Zj,Zy];omega
 have hkv:kvsC (m.L.take c++m.L.drop (c+1))=(kvsC m.L).take (c*2)++(kvsC m.L).drop ((c+1)*2):=by
  rw [←Xed,←Xfq,Xbm]
 have hg3:Grew w1 w2 43 2 m.ev (.slice (some ⟨g,0,none⟩) r cc) (m.L.take c++m.L.drop (c+1)).length (kvsC (m.L.take c++m.L.drop (c+1))):=by
  rw [hlen,hkv,hev];exact ⟨ho,by simpa [Value.ownBlock] using hO,fun k hk=>.inl (by simpa [Value.ownBlock] using hk),⟨_,_,rfl⟩⟩
 have hb:=hg3.only.blk h1.blk (fun hm=>Xaj h1.ents h1.blk (by decide) (by simpa using hm))
 have hT:=h1.setEs hg3 (fun p hp=>by
  rcases Za.1 hp with h | h
  ·exact h1.keys p (Yn h)
  ·exact h1.keys p (Ys h)) hM
 refine ⟨?_,hb.frozen 3,?_⟩
 ·rw [hb.cell 3]
  simp [hev]
 ·have e:(m.L.take c++m.L.drop (c+1)).map (·.2)=m.n.es.take c++m.n.es.drop (c+1):=by rw [Zs,Xx,Wk,h1.es]
  rw [e] at hT;exact hT
theorem delete_long {w:World} {tb x:Nat} {kv:Value} {l:List UInt8} (hb:Xae w kv l) (hl:300<l.length) :
  Calls prog 14 #[.pointer (some ⟨tb,0,none⟩),kv,.int .u64 x] w fun e w'=>e=.returned (.int .i64 80)∧Only [] w w':=by
 have EN:=Th (Xhz hb hl x);obtain ⟨ka,kc,hkv,_⟩:=id hb;subst hkv;clear hb hl
 go_enter func14,ntmps14
 go_wp2_with (go_at_call 30;refine EN.out.mono ?_;rintro e w1 ⟨rfl,ho1⟩;have O1:=Th ho1;clear ho1)
 go_ret;refine ⟨by rfl,O1.out.trans (M':=[]) ((Only.refl _ _).alloc _) (by simp)⟩
theorem deleteT_any {w:World} {p k tb root H x:Nat} {M:List Nat} {u:List Bool} {pg:Nat→List UInt8} {T:Tr H} {kv:Value} {l:List UInt8} {hb0:Bool} (hP:PoolV w p M u pg k) (hT:Xax w tb p root) (htb:tb∉M) (hI:InPages u pg root T) (hk:k+8*(nodes H T).length≤900000) (hb:Xae w kv l) (hl:l.length≤300) (hx:x<18446744073709551616)
  (hH:H≤1000) (he:(entsT T).length≤99000) (hhas:has (entsT T) (l,x)=hb0) :
  Calls prog 14 #[.pointer (some ⟨tb,0,none⟩),kv,.int .u64 x] w fun e w' =>
   (hb0=false∧∃ M',e=.returned (.int .i64 82)∧PoolV w' p M' u pg (k+2*(H+1))∧Step M M' w w') ∨
   (hb0=true∧∃ M' u' pg' H' T',e=.returned (.int .i64 0)∧OpRes w w' p M u pg (k+2*(H+1)+2+2*(nodes H T).length+2*(nodes H' T').length) root T (delP (entsT T) (l,x)) M' u' pg' (H':=H') T'):=by
 have EN:=Th (Xju hb hl hx hP.lt);obtain ⟨ka,kc,hkv,_⟩:=id hb;subst hkv;have hN1:=Xct hI.wf
 have WAY:Hid (∀ w1 xv,Only [] w w1→KeyOk w1 M (xv,(l,x))→Calls prog 31 #[.pointer (some ⟨tb,0,none⟩),.agg #[xv,.int .u64 x]] w1 fun e w'=>∃ ms c i E ov M',e=.returned (.tuple #[ov,.int .i64 0])∧WayIs T (l,x) root ms c i E∧Nodes w' M' w1.heap.size ms∧PtrRow w' M' w1.heap.size ov ms∧PoolV w' p M' u pg (k+2*(H+1))∧Step M M' w1 w'):=fun w1 xv hO hx1 =>
  way_any (hP.past hO) (by omega) (hO.blk hT (by simp)) htb hI hx1 hH
 have HI:=Th hI;have HT:=Th hT;have HTB:=Th htb;have HPL:=Th hP.lt;have HK:=Th hk;have HE:=Th he;have HHAS:=Th hhas;have HN1:=Th hN1;have USZ:=Th hP.size;have IC:=Xbh;clear hP hT htb hI hb hk he hhas hN1
 go_enter func14,ntmps14
 go_upto_region 2 with (go_at_call 30;refine EN.out.mono ?_;rintro e w1 ⟨v',rfl,hk1,ho1⟩;obtain ⟨qa,qk,hqv,_⟩:=id hk1.bytes;dsimp only at hqv;obtain rfl:v'=_:=hqv;have K1:=Th hk1;have O1:=Th ho1;clear hk1 ho1)
 obtain ⟨w2,hw2⟩:∃ w2,w1.alloc (.cells #[.slice qa l.length qk,.int .u64 x] 43)=w2:=⟨_,rfl⟩
 have O2:Hid (Only [] w1 w2):=by show Only _ _ _;rw [←hw2];exact (Only.refl _ _).alloc _
 have BX:Hid (Blk w2 w1.heap.size [.slice qa l.length qk,.int .u64 x] 43):=by show Blk _ _ _ _;rw [←hw2];exact Blk.new [.slice qa l.length qk,.int .u64 x] 43 w1
 obtain ⟨bx,hbx⟩:∃ bx,w1.heap.size=bx:=⟨_,rfl⟩;rw [hbx] at BX;rw [hw2,hbx];have x0:=BX.out.cell 0;have x1:=BX.out.cell 1;simp only [Zd,Zb] at x0 x1;have O12:=Th (O1.out.trans O2.out (by simp));have WA:=Th (WAY.out w2 _ O12.out (K1.out.past O2.out));have HBX:=Th hbx;clear hw2 hbx
 go_upto_region 7 with (go_at_call 31;refine WA.out.mono ?_;rintro e w3 ⟨ms,c,i,E,ov,M3,rfl,hw,hn3,hr3,hp3,hs3⟩;have W3:=Th hw;have N3:=Th hn3;have R3:=Th hr3;have P3:=Th hp3;have S3:=Th hs3;clear hw hn3 hr3 hp3 hs3)
 obtain ⟨ms0,ml,hms,hms0,hml⟩:=W3.out.last;subst hms;have LF:=Th (W3.out.leaf HI.out);obtain ⟨rg,rc,hrv,hrc,hrcell⟩:=R3.out.get (i:=ms0.length) (m:=ml) (by simp);subst hrv;rw [Ze,Zt] at hrc;rw [Ze,Zt];obtain ⟨nm,hnm⟩:∃ nm,ms0.length=nm:=⟨_,rfl⟩
 have hnmH:nm=H:=by
  have h1:=congrArg List.length hms0;rw [Zl] at h1;have h2:=Xfg c i;omega
 subst hnmH;rw [hnm] at hrc hrcell;rw [hnm];have NM:=Th hnm;have MS0:=Th hms0;have ML:=Th hml;have A3:=Th (N3.out.at_ ml (by simp));have b3:=A3.out.blk.cell 3;simp only [Zd,Zb] at b3;obtain ⟨ea,ec,hev⟩:=Xac A3.out.ents;rw [hev] at b3;have EV0:=Th hev
 have BSF:Hid (∀ w4,Only [] w3 w4→Calls prog 32 #[.slice ea ml.L.length ec,.agg #[.slice qa l.length qk,.int .u64 x],.func (.func 33) #[] #[]] w4 fun e w'=>e=.returned (.tuple #[.int .i64 (low E (l,x):Nat),.bool (has E (l,x))])∧Only [] w4 w'):=fun w4 hO=>by
  have hq:=((K1.out.past O2.out).step S3.out).past hO;have h1:=Xjj (q:=(.slice qa l.length qk,(l,x))) (A3.out.past hO).prs hq.bytes (by rw [A3.out.es,ML.out];exact LF.out.up.weak) (by rw [A3.out.len,ML.out];have:=Xca LF.out.fit;simp only;omega)
  rw [A3.out.es,ML.out,EV0.out] at h1;exact h1
 have HAS:Hid (has E (l,x)=hb0):=by
  show _=_;have hr:=HI.out.ris;have h1:=HHAS.out;rw [←W3.out.plug] at hr h1;rw [←Xhh W3.out.good W3.out.sep hr LF.out.up];exact h1
 have hbxM:bx∉M:=fun hm=>by
  have h1:=HPL.out bx hm;have h2:=O1.out.size;have h3:=HBX.out;omega
 have y0:=S3.out.1.cell x0 hbxM;have y1:=S3.out.1.cell x1 hbxM;have Y0:=Th y0;have Y1:=Th y1;obtain ⟨el,hel⟩:∃ el,ml.L.length=el:=⟨_,rfl⟩
 have hel2:E.length=el:=by rw [←hel,A3.out.len,ML.out]
 have helb:el≤50:=by rw [←hel2];exact Xca LF.out.fit
 rw [hel] at b3 BSF hev;have EV:=Th hev;have EL:=Th hel2;have LLE:=Th hel;have B3:=Th b3;obtain ⟨lo,hlo⟩:∃ lo,low E (l,x)=lo:=⟨_,rfl⟩
 have hlob:lo≤el:=by rw [←hlo,←hel2];exact Xet _ _
 have LO:=Th hlo;rw [hlo,HAS.out] at BSF
 have BSL:Hid (∀ y:Later w3,Calls prog 32 #[.slice ea el ec,.agg #[.slice qa l.length qk,.int .u64 x],.func (.func 33) #[] #[]] y.v fun e w'=>e=.returned (.tuple #[.int .i64 (lo:Nat),.bool hb0])∧∃ z:Later w3,w'=z.v):=fun y=>Calls.later (fun w1 hO=>BSF.out w1 hO) y
 have l0:∀ y:Later w3,y.v.cell? ⟨bx,0,none⟩=some (.slice qa l.length qk):=fun y=>y.cell y0
 have l1:∀ y:Later w3,y.v.cell? ⟨bx,1,none⟩=some (.int .u64 x):=fun y=>y.cell y1
 have l2:∀ y:Later w3,y.v.cell? ⟨ml.nb,3,none⟩=some (.slice ea el ec):=fun y=>y.cell b3
 have hw1:IntKind.i64.wrap (nm:Int)=nm:=by rw [Yi];omega
 clear hnm hms0 hml hev hel hlo y0 y1 b3 x0 x1 hel2 hbxM
 go_upto_region 8 with fail
 clear hrcell hw1
 refine Xaa (Only.refl _ _) (by kernel_rfl) (by kernel_rfl) ?_
 repeat (go_big_quiet_step ((go_at_call 32;exact BSL.out _)))
 refine wpQuiet_nil ?_
 rintro _ ⟨xq,rfl⟩;obtain ⟨w4,O4,hw4⟩:∃ w4,Hid (Only [] w3 w4)∧xq.v=w4:=⟨xq.v,Th xq.h,rfl⟩;rw [hw4];clear hw4 l0 l1 l2 BSL BSF
 cases hb0 with
 | false =>
  go_wp2_with fail
  go_ret;exact ⟨rfl,M3,P3.out.past O4.out,(Step.ahead O12.out S3.out).then O4.out⟩
 | true =>
  have S4:Hid (Step M M3 w2 w4):=S3.out.then O4.out
  have P4:Hid (PoolV w4 p M3 u pg (k+2*(nm+1))):=P3.out.past O4.out;have N4:Hid (Nodes w4 M3 w2.heap.size (ms0++[ml])):=N3.out.past O4.out;have A4:Hid (NodeAt w4 M3 ml):=A3.out.past O4.out;have b3:=O4.out.cell B3.out (by simp)
  have hlol:lo<el:=by
   have h1:E[low E (l,x)]?=some (l,x):=by simpa [has] using HAS.out
   have h2:=(Zh.1 h1).1;rw [LO.out,EL.out] at h2;exact h2
  obtain ⟨r,hr⟩:∃ r,el=r+1:=⟨el-1,by omega⟩;subst hr
  have hg:∃ g,ea=some ⟨g,0,none⟩:=by
   have h1:=A4.out.ents;rw [EV.out,LLE.out] at h1
   rcases h1.2 with ⟨he,_⟩ | ⟨g',_,_,he,_⟩
   ·simp only [Value.slice.injEq] at he
    omega
   ·simp only [Value.slice.injEq] at he
    exact ⟨g',he.1⟩
  obtain ⟨g,rfl⟩:=hg
  have OE4:Hid (w4.ownsRow 0 43 2 (.slice (some ⟨g,0,none⟩) (r+1) ec) (r+1) (kvsC ml.L)):=by show World.ownsRow _ _ _ _ _ _ _;have:=A4.out.ents;rw [EV.out,LLE.out] at this;exact this
  have DEL:=Th (I.slDelete_any OE4.out (i:=lo) (by omega) (Xdh A4.out.keys) (by omega))
  have hwl:IntKind.i64.wrap ((lo:Int)+1)=((lo+1:Nat):Int):=by rw [Yi];omega
  have HLOL:=Th hlol;clear A3 P3 N3 R3 hlol
  go_upto_region 11 with fail
  have DELT:Hid (∀ w6,w6.ownsRow 0 43 2 (.slice (some ⟨g,0,none⟩) r ec) r ((kvsC ml.L).take (lo*2)++(kvsC ml.L).drop ((lo+1)*2))→Only [g] w4 w6→w6.cell? ⟨ml.nb,3,none⟩=some (.slice (some ⟨g,0,none⟩) (r+1) ec)∧w6.frozen? ⟨ml.nb,3,none⟩=false∧Turn w4 (w6.setCell ⟨ml.nb,3,none⟩ (.slice (some ⟨g,0,none⟩) r ec)) M3 ml (ml.delE (.slice (some ⟨g,0,none⟩) r ec) lo)):=fun w6 h1 h2 =>
   delE_turn A4.out (fun x hx=>P4.out.lt x hx) EV.out (by rw [ML.out];exact EL.out) (by have:=HLOL.out;omega) h1 h2
  go_upto_region 12 with (go_at_call 39;refine DEL.out.mono ?_;rintro e w6 ⟨rfl,ho6,hO6⟩;obtain ⟨k4,kf,hT6⟩:=DELT.out w6 ho6 hO6;have T6:=Th hT6;clear ho6 hO6 hT6)
  clear k4 kf b3 hwl DEL DELT;obtain ⟨m7,hm7⟩:∃ m7,ml.delE (.slice (some ⟨g,0,none⟩) r ec) lo=m7:=⟨_,rfl⟩;obtain ⟨w7,hw7⟩:∃ w7,w6.setCell ⟨ml.nb,3,none⟩ (.slice (some ⟨g,0,none⟩) r ec)=w7:=⟨_,rfl⟩;rw [hm7,hw7] at T6;rw [hw7]
  have N7:Hid (m7.nb=ml.nb∧m7.root=ml.root∧m7.n=⟨i,true,delP E (l,x),[]⟩):=by
   show _∧_∧_;rw [←hm7];refine ⟨rfl,rfl,?_⟩;rw [MNd.delE,ML.out];simp only [delP_eq,LO.out]
  have NS7:Hid (Nodes w7 M3 w2.heap.size (ms0++[m7])):=N4.out.turnN T6.out (by have h1:=S3.out.1.size;have h2:=O4.out.size;omega);have P7:Hid (PoolV w7 p M3 u pg (k+2*(nm+1))):=Xpi P4.out T6.out A4.out;have HKE:Hid (Keys (delP E (l,x))):=delP_keys LF.out.keys;have HFE:Hid (fitsP true (delP E (l,x))=true):=delP_fits LF.out.fit;have ED:=Th (ents_delete (i:=i) (j:=i) W3.out.good W3.out.sep (by rw [W3.out.plug];exact HI.out.ris) LF.out.up HAS.out)
  have OW7:Hid (Only (M++ml.blocks) w w7):=by
   show Only _ _ _;have h1:=(Step.ahead O12.out S4.out).1;exact (h1.mono (fun x hx=>.inl (Yb _ hx))).trans T6.out.only (fun x hx=>.inl (Yk _ hx))
  have MLN:Hid (∀ x∈ml.blocks,w2.heap.size≤x):=N4.out.new ml (by simp)
  have T7T:Hid (Xax w7 tb p root):=OW7.out.blk HT.out (fun hm=>by
   rcases Za.1 hm with h | h
   ·exact HTB.out h
   ·have h1:=MLN.out tb h;have h2:=HT.out.lt;have h3:=O12.out.size;omega)
  have TB3:Hid (tb∉M3):=P.Step.keep (Step.ahead O12.out S4.out) HT.out.lt HTB.out;clear hm7 hw7;obtain ⟨id,hid,hui⟩:=LF.out.page;have HID:=Th hid;have hT:=W3.out.plug
  have hin:InPages u pg root (plug c (.leaf i E)):=by rw [hT];exact HI.out
  have HIN:=Th hin
  have hrt:m7.root=decide (id=root):=by
   rw [N7.out.2.1,W3.out.roots ml (by simp),ML.out];show decide (i=(root:Int))=_
   refine decide_eq_decide.2 ?_
   have:=HID.out;omega
  have HRT:=Th hrt;have hp1:=Xbb c (.leaf i E);have hp2:=Xbb c (.leaf i (delP E (l,x)));rw [Tr.leaf_id,Xan] at hp1 hp2;rw [hT] at hp1;have HP1:=Th hp1;have HP2:=Th hp2
  have hids:((nodes nm (plug c (.leaf i (delP E (l,x))))).map (·.id)).Perm ((nodes nm T).map (·.id)):=by
   refine (hp2.map (·.id)).trans (List.Perm.trans (List.Perm.of_eq ?_) (hp1.map (·.id)).symm);simp
  have hex:∀ j:Nat,(∃ n∈nodes nm (plug c (.leaf i (delP E (l,x)))),n.id=(j:Nat))↔∃ n∈nodes nm T,n.id=(j:Nat):=fun j=>by
   constructor
   ·rintro ⟨n,hn,e⟩
    obtain ⟨m,hm,e2⟩:=Zi.1 (hids.mem_iff.1 (Zi.2 ⟨n,hn,rfl⟩));exact ⟨m,hm,by rw [e2,e]⟩
   ·rintro ⟨n,hn,e⟩
    obtain ⟨m,hm,e2⟩:=Zi.1 (hids.mem_iff.2 (Zi.2 ⟨n,hn,rfl⟩));exact ⟨m,hm,by rw [e2,e]⟩
  have hlen:(nodes nm (plug c (.leaf i (delP E (l,x))))).length=(nodes nm T).length:=by have:=hids.length_eq;simpa using this
  have HEX:=Th hex;have HLEN:=Th hlen
  have EQ:Hid (entsT (plug c (.leaf i (delP E (l,x))))=delP (entsT T) (l,x)):=by show _=_;rw [ED.out.2,hT]
  have WRT:Hid (∀ w8,w7.alloc (.cells #[.pointer (some ⟨ml.nb,0,none⟩)] 75)=w8→Calls prog 40 #[.pointer (some ⟨tb,0,none⟩),.slice (some ⟨w7.heap.size,0,none⟩) 1 1] w8 fun e w'=>e=.returned (.int .i64 0)∧∃ M' u' pg' H' T' pg1 M1 w1,Wrote pg pg1 [m7]∧TidyRes w1 w' p M1 u pg1 (k+2*(nm+1)+2 * [m7].length) root (plug c (.leaf i (delP E (l,x)))) M' u' pg' (H':=H') T'∧Step M3 M1 w8 w1):=fun w8 hw8=>by
   have O8:Only [] w7 w8:=by rw [←hw8];exact (Only.refl _ _).alloc _
   have B8:Blk w8 w7.heap.size [.pointer (some ⟨ml.nb,0,none⟩)] 75:=by rw [←hw8];exact Blk.new [.pointer (some ⟨ml.nb,0,none⟩)] 75 w7
   have N8:Nodes w8 M3 w2.heap.size [m7]:=by
    have h1:=NS7.out.past O8;exact ⟨fun m hm=>h1.at_ m (by simp at hm;simp [hm]),fun m hm=>h1.new m (by simp at hm;simp [hm]),by simp⟩
   have R8:PtrOn w8 M3 w2.heap.size (.slice (some ⟨w7.heap.size,0,none⟩) 1 1) [m7]:=by
    refine ⟨⟨rfl,.inr ⟨w7.heap.size,1,_,rfl,B8,Zq _,Zq _,?_⟩⟩,fun k0 hk0=>?_⟩
    ·simp [ptrN,N7.out.1]
    ·simp only [Value.ownBlock,Zw] at hk0
     subst hk0;refine ⟨fun hm=>by have:=P7.out.lt _ hm;omega,?_⟩
     have h1:=S4.out.1.size;have h2:=T6.out.only.size;omega
   refine Xmm (P7.out.past O8) (O8.blk T7T.out (by simp)) TB3.out N8 R8 ⟨fun m hm=>?_,by simp⟩ (fun pg1 hW=>?_) ?_ ?_
   ·simp at hm
    subst hm;rw [N7.out.2.2];exact ⟨id,HID.out,hui,HKE.out,⟨rfl,by simp⟩,HFE.out⟩
   ·refine leaf_in HIN.out W3.out.good HID.out HFE.out HKE.out ED.out.1 ?_ (fun y hy=>hW.same y fun m hm=>?_)
    ·have h1:=hW.done m7 (by simp) id (by rw [N7.out.2.2];exact HID.out)
     rw [HRT.out,N7.out.2.2] at h1;exact h1
    ·simp at hm
     subst hm;rw [N7.out.2.2];show i≠_;have:=HID.out;omega
   ·rw [HLEN.out]
    have h1:=HK.out;have h2:=HN1.out;simp only [Zt];omega
   ·rw [EQ.out]
    have h1:=HE.out;have h2:=(Wa (entsT T) (low (entsT T) (l,x))).length_le;unfold delP;omega
  clear hid hui hT hin hrt hp1 hp2 hids hex hlen
  go_wp2_with (go_at_call 40;refine (WRT.out _ rfl).mono ?_;rintro e w9 ⟨rfl,M9,u9,pg9,H9,T9,pg1,M1,w1,hw9,ht9,hs9⟩;have WT:=Th hw9;have TD:=Th ht9;have S9:=Th hs9;clear hw9 ht9 hs9)
  go_ret;have td:=TD.out;have O8:Only [] w7 (w7.alloc (.cells #[.pointer (some ⟨ml.nb,0,none⟩)] 75)):=(Only.refl _ _).alloc _
  have hsame:∀ j:Nat,(j:Int)≠i→pg1 j=pg j:=fun j hj=>WT.out.same j (fun m hm=>by
   simp at hm;subst hm;rw [N7.out.2.2]
   exact fun e=>hj e.symm)
  refine ⟨rfl,M9,u9,pg9,H9,T9,?_,td.tree,by rw [td.ents,EQ.out],by rw [←EQ.out];exact td.few,td.len,fun j=>?_,fun j hj hne=>?_,fun j hj=>.inl ((HEX.out j).1 (td.mine j hj)),fun Q hQ hl'=>td.kept Q (fun n hn=>?_),?_,?_⟩
  ·have h1:=td.pool
   rw [HLEN.out] at h1;exact h1.more (by simp only [Zt];omega)
  ·rw [td.used]
   refine or_congr (and_congr Iff.rfl ?_) Iff.rfl
   constructor
   ·intro h n hn e
    obtain ⟨m,hm,e2⟩:=(HEX.out j).2 ⟨n,hn,e⟩;exact h m hm e2
   ·intro h n hn e
    obtain ⟨m,hm,e2⟩:=(HEX.out j).1 ⟨n,hn,e⟩;exact h m hm e2
  ·rw [td.same j (fun n hn e=>by
    obtain ⟨m,hm,e2⟩:=(HEX.out j).1 ⟨n,hn,e⟩
    exact hne m hm e2)]
   exact hsame j (fun e=>hne ⟨i,true,E,[]⟩ (HP1.out.mem_iff.2 (by simp)) e.symm)
  ·rcases Za.1 (HP2.out.mem_iff.1 hn) with h | h
   ·rcases Za.1 h with h | h
    ·exact hQ n (HP1.out.mem_iff.2 (by simp [h]))
    ·rw [Zo] at h
     subst h;intro e he;exact hQ ⟨i,true,E,[]⟩ (HP1.out.mem_iff.2 (by simp)) e ((Wa _ _).subset he)
   ·exact hQ n (HP1.out.mem_iff.2 (by simp [h]))
  ·have hw2:=O12.out.size
   have hM3:∀ y∈M3,y∈M∨w.heap.size≤y:=(Step.ahead O12.out S4.out).2
   have h17:Only M w w7:=OW7.out.mono (fun y hy=>by
    rcases Za.1 hy with h | h
    ·exact .inl h
    ·exact .inr (Zp hw2 (MLN.out y h)))
   have h18:=h17.trans O8 (by simp);have h19:Only M w w1:=h18.trans S9.out.1 hM3
   exact h19.trans td.step.1 (fun y hy=>by
    rcases S9.out.2 y hy with h | h
    ·exact hM3 y h
    ·exact .inr (Zp h18.size h))
  ·intro y hy
   have hM3:∀ y∈M3,y∈M∨w.heap.size≤y:=(Step.ahead O12.out S4.out).2;have h78:w.heap.size≤(w7.alloc (.cells #[.pointer (some ⟨ml.nb,0,none⟩)] 75)).heap.size:=Zp OW7.out.size O8.size
   rcases td.step.2 y hy with h | h
   ·rcases S9.out.2 y h with h | h
    ·exact hM3 y h
    ·exact .inr (by omega)
   ·have:=S9.out.1.size
    exact .inr (by omega)
end T
end Go.Proofs.YtiijokopcgnokaaGreat
