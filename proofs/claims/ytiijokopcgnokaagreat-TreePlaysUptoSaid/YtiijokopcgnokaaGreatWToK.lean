import Derived.Test.YtiijokopcgnokaaGreatWToJ
import Derived.Lib.SlBytesConst
set_option maxRecDepth 100000
set_option maxHeartbeats 4000000
set_option linter.unusedSimpArgs false
set_option linter.unusedVariables false
namespace Go.Proofs.YtiijokopcgnokaaGreat.T
open Go Go.RowKit D B C G P H Tryz
theorem Xif {w:World} {l:List UInt8} {t:TypeId} (fr:Nat × Nat) {n c:Nat} (hn:n=l.length):Xae (w.alloc (.cells (u8s l).toArray t fr)) (.slice (some ⟨w.heap.size,0,none⟩) n c) l:=by
 subst hn;refine ⟨_,c,rfl,fun _=>⟨w.heap.size,0,rfl,fun j hj=>?_⟩⟩;rw [Yd,cell_of_row _ w.heap.size j (u8s l).toArray t fr (heap_alloc_new w _)];rw [List.getElem?_toArray,Xej,Zc hj,Zf,Zc hj];rfl
theorem bytes_nil (w:World):Xae w (.slice none 0 0) []:=⟨none,0,rfl,fun h=>absurd h (by simp)⟩
def usedT (n:Nat):List Bool:=(List.replicate n false).set 0 true
theorem Xpy (n:Nat):(usedT n).length=n:=by simp [usedT]
theorem Xpx (n j:Nat) (h:(usedT n).getD j false=true):j∈[0]:=by
 unfold usedT at h;rw [Zf,List.getElem?_set] at h
 by_cases hj:0=j
 ·simp [←hj]
 ·rw [if_neg hj,Wp] at h
  split at h <;> cases h
theorem Xox (w:World) (n:Nat) (h1:1≤n) (h2:n≤65536) :
  Calls prog 8 #[.int .i64 n] w fun e w'=>∃ p tb M pg,e=.returned (.tuple #[.pointer (some ⟨p,0,none⟩),.pointer (some ⟨tb,0,none⟩)])∧PoolV w' p M (usedT n) pg 4∧TreeL w' p tb 0 M (usedT n) pg [] [0]∧w.heap.size≤tb∧Step [] M w w':=by
 have DN:=Th (Disk.new (n:=n) (w:=w) h1 h2)
 have PN:Hid (∀ w1 d M1,Disk w1 d M1 (DS.fresh n)→Calls prog 27 #[.pointer (some ⟨d,0,none⟩),.int .i64 0,.int .i64 n,.int .i64 24] w1 fun e w'=>∃ p M',e=.returned (.tuple #[.pointer (some ⟨p,0,none⟩),.int .i64 0])∧PoolV w' p M' (List.replicate n false) (fun _=>zeros) 0∧Step M1 M' w1 w'):=fun w1 d M1 hD=>by
  have hl:(DS.fresh n).now.length=n:=by simp [DS.fresh]
  refine (P.new_ok hD ⟨rfl,rfl,rfl⟩ (Int.le_refl _) 0 (Int.le_refl _) (Zq _) 0 n 24 ⟨by omega,by omega,by omega,by rw [hl];omega,by omega,by omega⟩).mono ?_
  rintro e w' ⟨p,M',rfl,hP,hS⟩
  exact ⟨p,M',rfl,⟨d,_,hP,(fun f hf=>by cases hf),rfl,rfl,fun j hj=>by
   rw [Zf,Wp] at hj
   split at hj <;> cases hj⟩,hS⟩
 have hff:Xal (List.replicate n false)=0:=by
  cases n with
  | zero=>omega
  | succ n=>simp [Xal,List.replicate_succ,List.findIdx_cons]
 have HN:Hid (∀ w1 p M1,PoolV w1 p M1 (List.replicate n false) (fun _=>zeros) 0→Calls prog 9 #[.pointer (some ⟨p,0,none⟩)] w1 fun e w'=>∃ tb M' pg,e=.returned (.tuple #[.pointer (some ⟨tb,0,none⟩),.int .i64 0])∧PoolV w' p M' (usedT n) pg 4∧TreeL w' p tb 0 M' (usedT n) pg [] [0]∧w1.heap.size≤tb∧Step M1 M' w1 w'):=fun w1 p M1 hP=>by
  refine (tnew_any hP (by omega) (by rw [hff,Wj];omega)).mono ?_
  rintro e w' ⟨tb,M',pg',rfl,hR⟩;rw [hff] at hR;exact ⟨tb,M',pg',rfl,hR.pool,⟨hR.tree,hR.mine.2,0,_,hR.pages,Xdv _ _,by rw [Xan];decide,by rw [Xan];rfl⟩,hR.mine.1,hR.step⟩
 clear hff h1 h2
 go_enter func8,ntmps8
 go_wp2_with (first
  | (go_at_call 26;refine DN.out.mono ?_;rintro e w1 ⟨d,M1,rfl,hD1,hS1⟩;have D1:=Th hD1;have S1:=Th hS1;clear hD1 hS1)
  | (go_at_call 27;refine (PN.out _ _ _ D1.out).mono ?_;rintro e w2 ⟨p,M2,rfl,hP2,hS2⟩;have P2:=Th hP2;have S2:=Th hS2;clear hP2 hS2)
  | (go_at_call 9;refine (HN.out _ _ _ P2.out).mono ?_;rintro e w3 ⟨tb,M3,pg3,rfl,hP3,hT3,hl3,hS3⟩;have R3:=Th (And.intro hP3 (And.intro hT3 (And.intro hl3 hS3)));clear hP3 hT3 hl3 hS3))
 go_ret2;obtain ⟨r1,r2,r3,r4⟩:=R3.out;have hs:=(S1.out.trans S2.out).1.size;exact ⟨p,tb,M3,pg3,rfl,r1,r2,by omega,(S1.out.trans S2.out).trans r4⟩
structure One (w:World) (p tb N:Nat) (M:List Nat) (u:List Bool) (pg:Nat→List UInt8) (k:Nat) (E:List Pr) (S:List Nat):Prop where
 pool:PoolV w p M u pg k
 tree:TreeL w p tb 0 M u pg E S
 cover:∀ j,u.getD j false=true→j∈S
 len:u.length=N
theorem One.past {w w':World} {p tb N k:Nat} {M:List Nat} {u:List Bool} {pg:Nat→List UInt8} {E:List Pr} {S:List Nat} (h:One w p tb N M u pg k E S) (hO:Only [] w w'):One w' p tb N M u pg k E S:=⟨h.pool.past hO,h.tree.past hO,h.cover,h.len⟩
theorem One.insert {w:World} {p k tb N x m:Nat} {M:List Nat} {u:List Bool} {pg:Nat→List UInt8} {E E':List Pr} {S:List Nat} {kv:Value} {l:List UInt8} {c:Int} (h:One w p tb N M u pg k E S) (hb:Xae w kv l) (hl:l.length≤300) (hx:x<18446744073709551616)
  (hm:mostP (insP E (l,x))≤m) (hm2:m≤1000) (hN:3*m+5≤N) (hk:k+24*m+40≤900000) (hE:E.length≤99000) (hc:(if has E (l,x) then (81:Int) else 0)=c) (he:(if has E (l,x) then E else insP E (l,x))=E') :
  Calls prog 11 #[.pointer (some ⟨tb,0,none⟩),kv,.int .u64 x] w fun e w'=>∃ M' u' pg' S',e=.returned (.int .i64 c)∧One w' p tb N M' u' pg' (k+(20*m+30)) E' S'∧Step M M' w w':=by
 have hf:=Xoo h.cover;have hfew:=h.tree.few;have hm3:mostP E≤m:=Zp Xfu hm;have hlen:=h.len
 refine (h.tree.insert h.pool hb hl hx hm hm2 (by omega) hk hE).mono ?_
 rintro e w' ⟨M',u',pg',S',rfl,hP,hT,hO,hS⟩;rw [hc];rw [he] at hT;refine ⟨M',u',pg',S',rfl,⟨hP,hT,fun j hj=>?_,hO.len.trans h.len⟩,hS⟩
 rcases (hO.used j).1 hj with h1 | h1
 ·exact absurd (h.cover j h1.1) h1.2
 ·exact h1
theorem TreeL.next {w:World} {p k tb root cb:Nat} {M:List Nat} {u:List Bool} {pg:Nat→List UInt8} {E:List Pr} {S:List Nat} {kv:Value} {last:Pr} {begun:Bool} {r:Option Pr} (hP:PoolV w p M u pg k) (hT:TreeL w p tb root M u pg E S) (hC:CurAt w M cb tb kv last begun) (hm:mostP E≤1000) (hk:k+2*mostP E≤900000) (hr:nextP E last begun=r) :
  Calls prog 16 #[.pointer (some ⟨cb,0,none⟩)] w fun e w'=>∃ M',
   (r=none∧e=.returned (.tuple #[.agg #[.slice none 0 0,.int .u64 0],.bool false,.int .i64 0])∧PoolV w' p M' u pg (k+2*mostP E)∧TreeL w' p tb root M' u pg E S∧CurAt w' M' cb tb kv last begun∧Step M M' w w') ∨
   (∃ x kv' rv,r=some x∧e=.returned (.tuple #[.agg #[rv,.int .u64 x.2],.bool true,.int .i64 0])∧KeyOk w' M' (rv,x)∧(∀ g,rv.ownBlock=some g→w.heap.size≤g)∧PoolV w' p M' u pg (k+2*mostP E)∧TreeL w' p tb root M' u pg E S∧CurAt w' M' cb tb kv' x true∧(∀ g,rv.ownBlock=some g→kv'.ownBlock≠some g)∧Only (M++[cb]) w w'∧∀ x∈M',x∈M∨w.heap.size≤x):=by
 obtain ⟨H,T,h1,h2,h3,h4⟩:=hT.tree
 refine (next_any hP hT.at_ hT.off h1 (by omega) hC).mono ?_
 rw [h2];rintro e w' ⟨M',⟨g1,rfl,g2,g3,g4⟩ | ⟨x,kv',rv,g1,rfl,g2,g3,g4,g5,g6,g7,g8⟩⟩
 ·exact ⟨M',.inl ⟨hr ▸ g1,rfl,g2.more (by omega),hT.step g4,g3,g4⟩⟩
 ·refine ⟨M',.inr ⟨x,kv',rv,hr ▸ g1,rfl,g2,g3,g4.more (by omega),⟨g7.blk hT.at_ (fun hm=>?_),fun hm=>?_,hT.tree⟩,g5,g6,g7,g8⟩⟩
  ·rcases Za.1 hm with hm | hm
   ·exact hT.off hm
   ·simp at hm
    subst hm;exact absurd (hT.at_.inj hC.blk).2 (by decide)
  ·rcases g8 _ hm with h | h
   ·exact hT.off h
   ·have:=hT.at_.lt;omega
theorem knownT_any (w:World):Calls prog 7 #[] w fun e w'=>e=.returned (.bool true)∧Only [] w w':=by
 have MD:=Th (Xox w 20 (by omega) (by omega));have IC:Hid ((prog.info? 43).map (·.size)=some 2):=Xbh
 have kc:=fun (w:World) (C:Array Value) (n c:Nat)=>Lib.run_convert_bytes_const (P:=prog) w 22 5 C n c underlying22 underlying5
 go_enter func7,ntmps7
 go_upto_region 2 with (go_at_call 8;refine MD.out.mono ?_;rintro e w1 ⟨p,tb,M1,pg1,rfl,hP1,hT1,hl1,hS1⟩;have P1:=Th hP1;have T1:=Th hT1;have S1:=Th hS1;clear hP1 hT1 hl1 hS1)
 have O1:Hid (One w1 p tb 20 M1 (usedT 20) pg1 4 [] [0]):=⟨P1.out,T1.out,Xpx 20,Xpy 20⟩;clear P1 T1
 go_upto_region 4 with (first
  | (go_at_call 11;refine (One.insert (m:=4) (x:=2) (l:=[97]) (c:=81) (E':=[([97],2),([98],1)]) (O3.out.past ((Only.refl _ _).alloc _)) (Xif (l:=[97]) (1,2) rfl) (by decide) (by decide) (by decide) (by decide) (by decide) (by decide) (by decide) (by decide) (by decide)).mono ?_;rintro e w4 ⟨M4,u4,pg4,S4,rfl,hO4,hS4⟩;have O4:=Th hO4;have S4':Hid (Step [] M4 w w4):=(S3'.out.then ((Only.refl _ _).alloc _)).trans hS4;clear hO4 hS4)
  | (go_at_call 11;refine (One.insert (m:=4) (x:=2) (l:=[97]) (c:=0) (E':=[([97],2),([98],1)]) (O2.out.past ((Only.refl _ _).alloc _)) (Xif (l:=[97]) (1,2) rfl) (by decide) (by decide) (by decide) (by decide) (by decide) (by decide) (by decide) (by decide) (by decide)).mono ?_;rintro e w3 ⟨M3,u3,pg3,S3,rfl,hO3,hS3⟩;have O3:=Th hO3;have S3':Hid (Step [] M3 w w3):=(S2'.out.then ((Only.refl _ _).alloc _)).trans hS3;clear hO3 hS3)
  | (go_at_call 11;refine (One.insert (m:=4) (x:=1) (l:=[98]) (c:=0) (E':=[([98],1)]) (O1.out.past ((Only.refl _ _).alloc _)) (Xif (l:=[98]) (1,2) rfl) (by decide) (by decide) (by decide) (by decide) (by decide) (by decide) (by decide) (by decide) (by decide)).mono ?_;rintro e w2 ⟨M2,u2,pg2,S2,rfl,hO2,hS2⟩;have O2:=Th hO2;have S2':Hid (Step [] M2 w w2):=(S1.out.then ((Only.refl _ _).alloc _)).trans hS2;clear hO2 hS2))
 have SK:Hid (Calls prog 15 #[.pointer (some ⟨tb,0,none⟩),.slice none 0 0] w4 fun e w'=>∃ cb v',e=.returned (.pointer (some ⟨cb,0,none⟩))∧CurAt w' M4 cb tb v' ([],0) false∧w4.heap.size≤cb∧Only [] w4 w'):=seek_any (bytes_nil w4) (by decide) O4.out.pool.lt
 have NX:Hid (nextP [([97],2),([98],1)] ([],0) false=some ([97],2)):=by show _=_;decide
 clear O1 O2 O3 S1 S2' S3'
 go_upto_region 7 with (go_at_call 15;refine SK.out.mono ?_;rintro e w5 ⟨cb,v5,rfl,hC5,hl5,hO5⟩;have C5:=Th hC5;have L5:=Th hl5;have O5:=Th hO5;clear hC5 hl5 hO5)
 have NE:=Th (TreeL.next (O4.out.pool.past O5.out) (O4.out.tree.past O5.out) C5.out (by decide) (by decide) NX.out)
 go_upto_region 8 with (go_at_call 16;refine NE.out.mono ?_;rintro e w6 ⟨M6,⟨g1,_⟩ | ⟨x,kv6,rv,g1,rfl,g2,_,_,_,_,_,g8,_⟩⟩;(cases g1);obtain rfl:=Option.some.inj g1;have K6:=Th g2;have O6:=Th g8;clear g1 g2 g8;obtain ⟨ra,rc,hrv,_⟩:=id K6.out.bytes;dsimp only at hrv;subst hrv)
 have OA:Only [] w6 (w6.alloc (.cells #[.slice ra 1 rc,.int .u64 2] 43)):=(Only.refl _ _).alloc _;have hcv:(convert 22 9 (.slice ra 1 rc)).run prog (w6.alloc (.cells #[.slice ra 1 rc,.int .u64 2] 43))=.ok (.string ⟨#[97]⟩) (w6.alloc (.cells #[.slice ra 1 rc,.int .u64 2] 43)):=Xbt (l:=[97]) (Xam K6.out.bytes OA)
 go_wp2_with fail
 go_ret;refine ⟨rfl,((S4'.out.1.trans O5.out (by simp)).trans O6.out (fun y hy=>?_)).trans OA (by simp)⟩
 right
 rcases Za.1 hy with h | h
 ·rcases S4'.out.2 y h with h1 | h1
  ·simp at h1
  ·exact h1
 ·simp at h
  subst h;exact Zp S4'.out.1.size L5.out
end Go.Proofs.YtiijokopcgnokaaGreat.T
