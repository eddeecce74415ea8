import Derived.Test.YtiijokopcgnokaaGreatWTrW
import Derived.Test.YtiijokopcgnokaaGreatWFrame
import Derived.Test.YtiijokopcgnokaaGreatWRegionW
set_option maxRecDepth 100000
set_option linter.unusedSimpArgs false
set_option linter.unusedVariables false
namespace Go.Proofs.YtiijokopcgnokaaGreat
namespace G
open Go Go.RowKit B C Tryz
theorem Xac {w:World} {base:Nat} {e:TypeId} {size:Nat} {v:Value} {n:Nat} {xs:List Value} (h:w.ownsRow base e size v n xs):∃ ao cap,v=.slice ao n cap:=by
 rcases h.2 with ⟨rfl,rfl⟩ | ⟨g,cap,cur,rfl,_⟩
 ·exact ⟨none,0,rfl⟩
 ·exact ⟨_,cap,rfl⟩
def arr (p:List UInt8):Value:=.agg (u8s p).toArray
theorem Xfc : (prog.info? 154).map (·.size)=some 512:=by kernel_rfl
theorem two_bytes {p:List UInt8} {at_:Nat} (h:at_+2≤p.length):((p.drop at_).take 2).length=2∧unle ((p.drop at_).take 2)=two p at_:=by
 have hl:((p.drop at_).take 2).length=2:=by rw [Zj,Zy];omega
 refine ⟨hl,?_⟩
 have h0:g ((p.drop at_).take 2) 0=g p at_:=by rw [Xjx,if_pos (by omega),Xit];rfl
 have h1:g ((p.drop at_).take 2) 1=g p (at_+1):=by rw [Xjx,if_pos (by omega),Xit]
 match (p.drop at_).take 2,hl,h0,h1 with
 | [a,b],_,h0,h1=>simp only [unle];unfold two;rw [←h0,←h1];simp [g]
theorem Xfi {w:World} {p:List UInt8} (hl:p.length=512) (at_:Nat) (h:at_+2≤512) :
  Calls prog 97 #[arr p,.int .i64 at_] w fun e w'=>e=.returned (.int .i64 (two p at_:Nat))∧Only [] w w':=by
 obtain ⟨h1,h2⟩:=two_bytes (p:=p) (at_:=at_) (by omega);have ht:=Xkv p at_
 have U:Hid (∀ w1,Blk w1 w.heap.size (u8s p) 154→Calls prog 99 #[.slice (some ⟨w.heap.size,at_,none⟩) 2 (512-at_)] w1 fun e w'=>e=.returned (.int .u64 (two p at_:Nat))∧w1=w'):=fun w1 hb=>by
  have:=Xdl (w:=w1) w.heap.size at_ (512-at_) ((p.drop at_).take 2) (by omega) (fun j hj=>by
   rw [hb.cell,Xej,Zc (by omega)]
   rw [Zf,Zc hj,List.getElem_take,List.getElem_drop];rfl)
  rw [h1,h2] at this;exact this
 have HL:Hid ((u8s p).length=512):=by show _=_;rw [Xaf];exact hl
 have AL:prog.arrayLen 154=512:=by kernel_rfl
 have b0:(0:Int)≤at_:=by omega
 have b1:(at_:Int)≤at_+2:=by omega
 have b2:(at_:Int)+2≤512:=by omega
 have b3:(at_:Int)+2-at_=2:=by omega
 clear h1 h2 hl;generalize two p at_=z at *;unfold arr
 go_enter func97,ntmps97
 have HB:Hid (Blk (w.alloc (.cells (u8s p).toArray 154)) w.heap.size (u8s p) 154):=Blk.new _ _ _
 go_wp2_with (go_at_call 99;refine (U.out _ HB.out).mono ?_;rintro e w1 ⟨rfl,rfl⟩)
 go_ret;exact ⟨rfl,(Only.refl _ _).alloc _⟩
theorem Xgd {w:World} {v:Value} {p:List UInt8} (h:Xae w v p) (hl:p.length=512) :
  Calls prog 81 #[v] w fun e w'=>e=.returned (arr p)∧Only [] w w':=by
 obtain ⟨ao,cap,rfl,hc⟩:=h;obtain ⟨b,o,rfl,hb⟩:=hc (by omega);rw [hl] at hb ⊢
 go_enter func81,ntmps81
 have EA:∀ w1,(Instr.arrayAt 154 (.slice (some ⟨b,o,none⟩) 512 cap)).run prog w1=.ok (.pointer (some ⟨b,o,none⟩)) w1:=fun w1=>run_arrayAt w1 154 5 512 _ 512 cap underlying154 (Zq _)
 have HZ:Hid (Blk (w.alloc (.cells Tryz.zeroCells154 154)) w.heap.size Tryz.zeroCells154.toList 154):=Blk.new' _ _ _ rfl
 have HR:Hid ((w.alloc (.cells Tryz.zeroCells154 154)).rangeAt b o (u8s p)):=fun j v hv=>by
  have hj:j<p.length:=by
   rcases Yv j p.length with h | h
   ·exact h
   ·rw [Xb (by rw [Xaf];exact h)] at hv;cases hv
  rw [((Only.refl [] w).alloc _).cell (hb j (by omega)) (by simp),←hv,Xej,Zc hj,Zf,Zc hj];rfl
 have HI:Hid ((prog.info? 154).map (·.size)=some (u8s p).length):=by show _=_;rw [Xfc,Xaf,hl]
 have HLZ:Hid ((u8s p).length=Tryz.zeroCells154.toList.length):=by show _=_;rw [Xaf,hl];kernel_rfl
 clear hc hb
 go_wp2_with (first | (refine wpList_load_mid rfl 154 (.tmp 4) rfl b o rfl (u8s p) _ HR.out underlying154 rfl HI.out ?_) | (refine Xak rfl 154 (.tmp 2) (.tmp 5) rfl w.heap.size (u8s p) rfl rfl HZ.out HLZ.out HI.out (Xba _) ?_;intro w2 hb2 hO2;have B2:=Th hb2;have O2:=Th (((Only.refl [] w).alloc _).trans hO2 (by simp));clear hb2 hO2))
 (try simp only [Exit.inBlock,Exit.then])
 refine bodyPost_ret (results_cell_row rfl _ _ w.heap.size 154 (u8s p).toArray (0,0) _ rfl B2.out underlying154 rfl (by simpa using HI.out)) rfl ?_
 exact ⟨rfl,O2.out⟩
theorem Xlr {w:World} {b:Nat} {p:List UInt8} {t:TypeId} (hb:Blk w b (u8s p) t) (hl:p.length=512) (x:Later w) :
  (Instr.loadAt 154 (.pointer (some ⟨b,0,none⟩))).run prog x.v=.ok (arr p) x.v:=by
 have h1:x.v.rangeAt b 0 (u8s p):=fun j v hv=>by
  rw [Yd,(x.h.blk hb (by simp)).cell,hv]
 exact run_loadAt_mid x.v b 0 154 (u8s p) _ h1 underlying154 rfl (by rw [Xfc,Xaf,hl])
theorem free_any {w:World} {p:List UInt8} (hl:p.length=512) (hf:10+4*nS p≤bg p) :
  Calls prog 85 #[arr p] w fun e w'=>e=.returned (.int .i64 ((bg p-10-4*nS p:Nat):Int))∧Only [] w w':=by
 have hn:=Xkv p 6;have hbl:=Xkv p 8
 have T6:Hid (∀ x:Later (w.alloc (.cells (u8s p).toArray 154)),Calls prog 97 #[.agg (u8s p).toArray,.int .i64 6] x.v fun e w'=>e=.returned (.int .i64 (nS p:Nat))∧∃ y:Later (w.alloc (.cells (u8s p).toArray 154)),w'=y.v):=fun x=>Calls.later (fun w1 _=>Xfi hl 6 (by omega)) x
 have T8:Hid (∀ x:Later (w.alloc (.cells (u8s p).toArray 154)),Calls prog 97 #[.agg (u8s p).toArray,.int .i64 8] x.v fun e w'=>e=.returned (.int .i64 (bg p:Nat))∧∃ y:Later (w.alloc (.cells (u8s p).toArray 154)),w'=y.v):=fun x=>Calls.later (fun w1 _=>Xfi hl 8 (by omega)) x
 have hn:nS p<65536:=hn;have hbl:bg p<65536:=hbl;generalize nS p=n at *;generalize bg p=b at *;have HB:Hid (Blk (w.alloc (.cells (u8s p).toArray 154)) w.heap.size (u8s p) 154):=Blk.new _ _ _
 have HI:Hid ((prog.info? 154).map (·.size)=some (u8s p).length):=by show _=_;rw [Xfc,Xaf,hl]
 obtain ⟨f,hf2⟩:∃ f,b-10-4*n=f:=⟨_,rfl⟩
 have ef:(b:Int)-10-4*n=f:=by omega
 rw [hf2];clear hf2;have LD:=Th (fun x=>Xlr HB.out hl x);unfold arr at LD ⊢;clear hl
 go_enter func85,ntmps85
 go_wp2_with fail
 refine Xaa (Only.refl _ _) (by kernel_rfl) (by kernel_rfl) ?_
 repeat (first
  | (go_big_quiet_want;refine Xly 154 (.tmp 1) rfl (.agg (u8s p).toArray) (by rintro _ ⟨y,rfl⟩;exact LD.out y) ?_;go_big_quiet_on;simp only [Act.put,qSa,qSs,qSz])
  | go_big_quiet_step ((first | (go_at_call_of 97 (Value.int .i64 8);exact T8.out _) | (go_at_call 97;exact T6.out _))))
 refine wpQuiet_nil ?_
 rintro _ ⟨xq,rfl⟩
 go_wp2_with fail
 go_ret;exact ⟨rfl,((Only.refl [] w).alloc _).trans xq.h (by simp)⟩
theorem Xor : (prog.info? 160).map (fun i=>(i.zero,i.size,i.bytes))=some (some (.agg #[.int .i64 0,.int .i64 0]),2,16):=by kernel_rfl
def encC (c:Nat × Nat):List Value:=[.int .i64 c.1,.int .i64 c.2]
def rowC (l:List (Nat × Nat)):List Value:=l.flatMap encC
theorem Xkm (l k:List (Nat × Nat)):rowC (l++k)=rowC l++rowC k:=by simp [rowC]
def Xbd (p:List UInt8) (j:Nat):List (Nat × Nat):=(List.range j).map fun i=>(sP p i,sL p i)
theorem Xoc (p:List UInt8) (j:Nat):Xbd p (j+1)=Xbd p j++[(sP p j,sL p j)]:=by simp [Xbd,List.range_succ]
theorem Xcq {w w':World} {b:Nat} {cs:List Value} (h:w.rangeAt b 0 cs) (hO:Only [] w w'):w'.rangeAt b 0 cs:=fun j v hv=>hO.cell (h j v hv) (by simp)
set_option maxHeartbeats 2000000 in
theorem Xkp {w:World} {p:List UInt8} (hl:p.length=512) (hn:10+4*nS p≤512) :
  Calls prog 82 #[arr p] w fun e w'=>∃ v,e=.returned v∧w'.ownsRow 0 160 2 v (nS p) (rowC (cells p))∧(∀ k,v.ownBlock=some k→w.heap.size≤k)∧Only [] w w':=by
 have HCS:Hid (cells p=Xbd p (nS p)):=rfl
 have T6:Hid (∀ w1,Calls prog 97 #[.agg (u8s p).toArray,.int .i64 6] w1 fun e w'=>e=.returned (.int .i64 (nS p:Nat))∧Only [] w1 w'):=fun w1=>Xfi hl 6 (by omega)
 have TP:Hid (∀ (j q:Nat),q=10+4*j→q+4≤512→∀ w1,Calls prog 97 #[.agg (u8s p).toArray,.int .i64 (q:Nat)] w1 fun e w'=>e=.returned (.int .i64 (sP p j:Nat))∧Only [] w1 w'):=fun j q hq hj w1=>by
  subst hq;exact Xfi (w:=w1) hl (10+4*j) (by omega)
 have TL:Hid (∀ (j q:Nat),q=12+4*j→q+2≤512→∀ w1,Calls prog 97 #[.agg (u8s p).toArray,.int .i64 (q:Nat)] w1 fun e w'=>e=.returned (.int .i64 (sL p j:Nat))∧Only [] w1 w'):=fun j q hq hj w1=>by
  subst hq;exact Xfi (w:=w1) hl (12+4*j) (by omega)
 generalize nS p=n at *;have HB:Hid (Blk (w.alloc (.cells (u8s p).toArray 154)) w.heap.size (u8s p) 154):=Blk.new _ _ _
 have HI:Hid ((prog.info? 154).map (·.size)=some (u8s p).length):=by show _=_;rw [Xfc,Xaf,hl]
 have LDX:Hid (∀ w':World,w'.rangeAt w.heap.size 0 (u8s p)→(Instr.loadAt 154 (.pointer (some ⟨w.heap.size,0,none⟩))).run prog w'=.ok (.agg (u8s p).toArray) w'):=fun w' h=>run_loadAt_mid w' w.heap.size 0 154 (u8s p) _ h underlying154 rfl HI.out
 unfold arr
 go_enter func82,ntmps82
 go_wp2_with (first | (refine Xbo rfl 154 (.tmp 1) rfl w.heap.size rfl HB.out _ underlying154 rfl HI.out ?_) | (go_at_call 97;refine (T6.out _).mono ?_;rintro e w1 ⟨rfl,hO1⟩;have O1:=Th (((Only.refl [] w).alloc _).trans hO1 (by simp));have R1:Hid (w1.rangeAt w.heap.size 0 (u8s p)):=Xcq (fun j v hv=>by rw [Yd,HB.out.cell,hv]) hO1;clear hO1))
 go_loopg [3,7] n (fun gk s3 s7 wx=>∃ j:Nat,gk=n-j∧j≤n∧s7=.int .i64 j∧wx.ownsRow 0 160 2 s3 j (rowC (Xbd p j))∧(∀ k,s3.ownBlock=some k→w.heap.size<k)∧Only [] w wx∧wx.rangeAt w.heap.size 0 (u8s p))
 case atStart=>exact ⟨0,rfl,Yc _,rfl,⟨rfl,.inl ⟨rfl,rfl⟩⟩,fun k hk=>by simp [Value.ownBlock] at hk,O1.out,R1.out⟩
 case round =>
  obtain ⟨j,hgk,hj,rfl,hrow,hnew,hO,hR⟩:=hrel;have HGK:=Th hgk;have ROW:=Th hrow;have NEW:=Th hnew;have OO:=Th hO;obtain ⟨a3,c3,rfl⟩:=Xac hrow
  have NEB:Hid ((Value.slice a3 j c3).ownBlock≠some w.heap.size):=fun hx=>Nat.lt_irrefl _ (NEW.out _ hx)
  have LTB:Hid (w.heap.size<wr.heap.size):=by
   show _<_;exact cell_lt (o:=0+0) (hR 0 (.int .u8 (p.getD 0 0).toNat) (by rw [Xej,Zc (by omega),Zf,Zc (by omega)];rfl))
  clear hgk hrow hnew hO R1 O1
  by_cases hlt:j<n
  ·have hj0:(0:Int)≤j:=by omega
   have hj1:(j:Int)<n:=by omega
   have hn125:n≤125:=by omega
   obtain ⟨q0,hq0⟩:∃ q,4*j=q:=⟨_,rfl⟩;obtain ⟨q1,hq1⟩:∃ q,10+4*j=q:=⟨_,rfl⟩;obtain ⟨q2,hq2⟩:∃ q,12+4*j=q:=⟨_,rfl⟩;have TPj:=Th (TP.out j q1 hq1.symm (by omega));have TLj:=Th (TL.out j q2 hq2.symm (by omega))
   have ew0:IntKind.i64.wrap (4*(j:Int))=q0:=by simp [Yi];omega
   have ew1:IntKind.i64.wrap (10+(q0:Int))=q1:=by simp [Yi];omega
   have ew2:IntKind.i64.wrap ((q1:Int)+2)=q2:=by simp [Yi];omega
   clear hq0 hq1 hq2;have CS:=Th (Xoc p j);generalize sP p j=a at *;generalize sL p j=b at *;have UA:=underlying154;have IA:=HI.out
   go_wp2_with fail
   refine wp_region_held_drew (S:=fun w'=>w'.rangeAt w.heap.size 0 (u8s p)) (by kernel_rfl) (Xcq hR (Only.refl [] _).drew) (fun hH=>?_)
   refine tkA 0 10 (.slice a3 j c3) hH ?_
   refine Xaq 1 11 (.agg (u8s p).toArray) rfl rfl (by kernel_rfl) (by kernel_rfl) (by kernel_rfl) (fun _ _ _ h=>h) (yieldsIf_load_mid (by rfl) _ _ rfl _ _ rfl _ _ (fun w1 hw1=>hw1) UA rfl IA) hH ?_
   (try simp only [Act.put,qSa,qSz,qSs])
   refine tkA 2 12 (.int .i64 j) hH ?_
   refine tkA 3 13 (.int .i64 q0) hH ?_
   refine tkA 4 14 (.int .i64 q1) hH ?_
   refine Xaq 6 16 (.agg (u8s p).toArray) rfl rfl (by kernel_rfl) (by kernel_rfl) (by kernel_rfl) (fun _ _ _ h=>h) (yieldsIf_load_mid (by rfl) _ _ rfl _ _ rfl _ _ (fun w1 hw1=>hw1) UA rfl IA) hH ?_
   (try simp only [Act.put,qSa,qSz,qSs])
   refine tkA 7 17 (.int .i64 j) hH ?_
   refine tkA 8 18 (.int .i64 q0) hH ?_
   refine tkA 9 19 (.int .i64 q1) hH ?_
   refine tkA 10 20 (.int .i64 q2) hH ?_
   refine oneA 5 fun K hK=>?_
   go_wp2_with (go_at_call 97;refine (TPj.out _).mono ?_;rintro e w3 ⟨rfl,hO3⟩)
   refine hK.out _ _ (Xcq hH hO3) ?_
   have hHeld3:=Xcq hH hO3;clear hK K
   (try simp only [Act.put,qSa,qSz,qSs])
   refine oneA 11 fun K hK=>?_
   go_wp2_with (go_at_call 97;refine (TLj.out _).mono ?_;rintro e w5 ⟨rfl,hO5⟩)
   refine hK.out _ _ (Xcq hHeld3 hO5) ?_
   have hH:=Xcq hHeld3 hO5;clear hK K
   (try simp only [Act.put,qSa,qSz,qSs])
   refine tkA 12 22 (.agg #[.int .i64 a,.int .i64 b]) hH ?_
   refine oneA 13 fun K hK=>?_
   go_wp2_with fail
   refine hK.out _ _ (Xcq hH ((Only.refl [] _).alloc _)) ?_
   clear hK K
   (try simp only [Act.put,qSa,qSz,qSs])
   refine oneA 14 fun K hK=>?_
   have O5:=Th (((Only.refl [] wr).drew.trans hO3 (by simp)).trans hO5 (by simp))
   refine Xbl 24 rfl (.tmp 10) (.tmp 23) 156 rfl 160 underlying156 (info_parts Xor) rfl (by omega) (.slice a3 j c3) j (rowC (Xbd p j)) rfl (by exact Xad ROW.out (O5.out.alloc _)) (some ⟨w5.heap.size,0,none⟩) 1 1 rfl [.int .i64 a,.int .i64 b] rfl (fun _=>⟨_,rfl,fun j u hj=>(Blk.new [.int .i64 a,.int .i64 b] 160 w5).add_cell j u hj⟩) (by intro u hu;simp at hu;rcases hu with rfl | rfl <;> rfl) (by omega) (by decide) ?_
   intro v8 w8 hg8;have G8:=Th ((hg8.pre (O5.out.alloc _)).to rfl (show rowC (Xbd p j)++[.int .i64 a,.int .i64 b]=rowC (Xbd p (j+1)) by rw [CS.out,Xkm];rfl))
   have hR8:w8.rangeAt w.heap.size 0 (u8s p):=fun i v hv=>G8.out.only.cell (hR i v hv) (fun hx=>NEB.out (by simpa using hx))
   obtain ⟨a8,c8,rfl⟩:=G8.out.shape
   refine hK.out _ _ hR8 ?_
   have hH:=hR8;clear hK K hg8
   (try simp only [Act.put,qSa,qSz,qSs])
   refine tkA 15 3 (.slice a8 (j+1) c8) hH ?_
   refine wpAnyH_done (by kernel_rfl) ?_ _;clear hH hHeld3 hO3 hO5 UA IA
   go_wp2_with fail
   go_roundg (n-(j+1))
   case measure=>have:=HGK.out;omega
   case rel =>
    refine ⟨j+1,rfl,by omega,by go_num,G8.out.own,fun k hk=>?_,OO.out.trans G8.out.only (fun x hx=>.inr (Nat.le_of_lt (NEW.out x (by simpa using hx)))),hR8⟩
    rcases G8.out.lies k hk with h1 | h1
    ·exact NEW.out k h1
    ·exact Ye LTB.out h1
  ·obtain rfl:j=n:=by omega
   go_wp2_with fail
   go_ret;rw [HCS.out];exact ⟨_,rfl,ROW.out,fun k hk=>Nat.le_of_lt (NEW.out k hk),OO.out⟩
end G
namespace G
open Go Go.RowKit B C Tryz
theorem Xnk : ∀ (l:List (Nat × Nat)) (i:Nat),(rowC l)[i]?=(l[i / 2]?).bind fun c=>(encC c)[i % 2]?
 | [],i=>by simp [rowC]
 | c :: r,0=>by simp [rowC,encC]
 | c :: r,1=>by simp [rowC,encC]
 | c :: r,i+2=>by
  have h:rowC (c :: r)=.int .i64 c.1 :: .int .i64 c.2 :: rowC r:=by simp [rowC,encC]
  rw [h,Zd,Zd,Xnk r i,show (i+2) / 2=i / 2+1 by omega,Zd,show (i+2) % 2=i % 2 by omega]
theorem Xcw {w:World} {e:TypeId} {size:Nat} {v:Value} {n:Nat} {xs:List Value} (h:w.ownsRow 0 e size v n xs) (h0:0<n):∃ g c,v=.slice (some ⟨g,0,none⟩) n c∧n≤c:=by
 rcases h.2 with ⟨_,rfl⟩ | ⟨g,cap,cur,rfl,_,_,h3,_⟩
 ·omega
 ·exact ⟨g,cap,rfl,h3⟩
theorem Xeh {w:World} {g n c:Nat} {cs:List (Nat × Nat)} (h:w.ownsRow 0 160 2 (.slice (some ⟨g,0,none⟩) n c) n (rowC cs)) {j:Nat} (hj:j<n) {a b:Nat} (hc:cs[j]?=some (a,b)):w.rangeAt g (j*2) [.int .i64 a,.int .i64 b]:=fun i v hv=>by
 have hi:i<2:=by
  rcases Yv i 2 with h | h
  ·exact h
  ·rw [Xb (by simpa using h)] at hv;cases hv
 rw [h.cellAt (j*2+i) (by omega),Xnk,show (j*2+i) / 2=j by omega,show (j*2+i) % 2=i by omega,hc];exact hv
theorem Xkk {w w':World} {b o:Nat} {cs:List Value} (h:w.rangeAt b o cs) (hO:Only [] w w'):w'.rangeAt b o cs:=fun j v hv=>hO.cell (h j v hv) (by simp)
end G
end Go.Proofs.YtiijokopcgnokaaGreat
