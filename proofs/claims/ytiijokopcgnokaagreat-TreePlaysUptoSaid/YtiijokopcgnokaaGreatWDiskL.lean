import Derived.Test.YtiijokopcgnokaaGreatWHeap
import Derived.Test.YtiijokopcgnokaaGreatProg
import Derived.WalkLawsBesides
import Derived.WalkSpells
set_option linter.unusedSimpArgs false
set_option linter.unusedVariables false
namespace Go.Proofs.YtiijokopcgnokaaGreat
namespace D
open Go.RowKit Tryz
abbrev Xcs := List UInt8
def zeros : Xcs:=List.replicate 512 0
theorem Xek : zeros.length=512:=Wj ..
def dec (x lo:Int):Int:=if wrap64 (x-1)<lo then lo else wrap64 (x-1)
theorem dec_eq {x lo:Int} (h:-1000000000000≤x) (h2:x≤1000000000000):dec x lo=max (x-1) lo:=by
 have:wrap64 (x-1)=x-1:=by unfold wrap64;omega
 unfold dec;rw [this]
 split <;> omega
structure DS where
 now:List Xcs
 sure:List Xcs
 row:List (Nat × Xcs)
 count:Int
 fail:Int
 halt:Int
 down:Bool
def DS.changed (s:DS):DS :=
 { s with count:=s.count+1,fail:=dec s.fail 0,halt:=dec s.halt (-1),down:=s.down || s.halt == 0 }
def DS.err (s:DS):Int:=if s.down || s.halt == 0 then 13 else if s.fail == 1 then 12 else 0
def DS.fresh (n:Nat):DS:={ now:=List.replicate n zeros,sure:=List.replicate n zeros,row:=[],count:=0,fail:=0,halt:=-1,down:=false }
def DS.write (s:DS) (i:Int) (l:Xcs):DS × Int :=
 if s.err≠0 then (s.changed,s.err)
 else if i<0∨(s.now.length:Int)≤i then (s.changed,11)
 else if l.length≠512 then (s.changed,10)
 else ({ s.changed with now:=s.now.set i.toNat l,row:=s.row++[(i.toNat,l)] },0)
end D
namespace D
open Go.RowKit Tryz
def Sec (w:World) (v:Value) (l:Xcs):Prop :=
 l.length=512∧((v=.pointer none∧l=zeros)∨∃ g,v=.pointer (some ⟨g,0,none⟩)∧Blk w g (u8s l) 154)
def Secs (w:World) (vs:List Value) (ls:List Xcs):Prop:=vs.length=ls.length∧∀ i,i<ls.length→Sec w (vs.getD i undef) (ls.getD i [])
def Row (w:World) (n:Nat):List Value→List (Nat × Xcs)→Prop
 | [],[]=>True
 | a :: p :: vs,x :: xs=>a=.int .i64 x.1∧x.1<n∧(∃ g,p=.pointer (some ⟨g,0,none⟩)∧Blk w g (u8s x.2) 154∧x.2.length=512)∧Row w n vs xs
 | _,_=>False
def Xar (N S n:Nat) (rv:Value) (s:DS):List Value :=
 [.slice (some ⟨N,0,none⟩) n n,.slice (some ⟨S,0,none⟩) n n,rv,.int .i64 s.count,.int .i64 s.fail,.int .i64 s.halt,.bool s.down]
structure DiskAt (w:World) (d:Nat) (M:List Nat) (s:DS) (N S:Nat) (rv:Value) (np sp rp:List Value):Prop where
 disk:Blk w d (Xar N S s.now.length rv s) 118
 nowB:Blk w N np 200
 sureB:Blk w S sp 200
 ne:N≠S
 nowS:Secs w np s.now
 sureS:Secs w sp s.sure
 same:s.sure.length=s.now.length
 few:s.now.length≤65536
 own:w.ownsRow 0 202 2 rv s.row.length rp
 row:Row w s.now.length rp s.row
 foot:M=[d,N,S]++rv.ownBlock.toList
theorem sets4 {w:World} {d:Nat} {a b c x3 x4 x5 x6 v3 v4 v5 v6:Value} {t:TypeId} (h:Blk w d [a,b,c,x3,x4,x5,x6] t) :
  Blk ((((w.setCell ⟨d,3,none⟩ v3).setCell ⟨d,4,none⟩ v4).setCell ⟨d,6,none⟩ v6).setCell ⟨d,5,none⟩ v5) d [a,b,c,v3,v4,v5,v6] t:=by
 have:=(((h.set 3 v3).set 4 v4).set 6 v6).set 5 v5
 simpa using this
set_option maxHeartbeats 400000 in
theorem Xjm (d N S n:Nat) (rv:Value) (s:DS) (w:World) (h:Blk w d (Xar N S n rv s) 118) (hc0:0≤s.count) (hc1:s.count≤1099511627776) :
  Calls prog 126 #[.pointer (some ⟨d,0,none⟩)] w fun e w'=>e=.returned (.int .i64 s.err)∧Blk w' d (Xar N S n rv s.changed) 118∧Only [d] w w':=by
 obtain ⟨now,sure,row,count,fail,halt,down⟩:=s;have c3:=h.cell 3;have c4:=h.cell 4;have c5:=h.cell 5;have c6:=h.cell 6
 simp [Xar] at c3 c4 c5 c6
 have f3:=h.frozen 3;have f4:=h.frozen 4;have f5:=h.frozen 5;have f6:=h.frozen 6;have H:=Th h;simp only at hc0 hc1;clear h;cases down
 all_goals
  go_enter func126,ntmps126
  go_wp2_with fail
  all_goals
   go_ret;refine ⟨by simp [DS.err, *],?_,?_⟩
   ·refine (sets4 H.out).to ?_
    simp [DS.changed,dec,Xar, *] <;> omega
   ·exact ((((Only.refl _ _).setCell (.inl (by simp)) _).setCell (.inl (by simp)) _).setCell (.inl (by simp)) _).setCell (.inl (by simp)) _
theorem sectors_any (d N S n:Nat) (rv:Value) (s:DS) (w:World) (h:Blk w d (Xar N S n rv s) 118) :
  Calls prog 48 #[.pointer (some ⟨d,0,none⟩)] w fun e w'=>e=.returned (.int .i64 n)∧w=w':=by
 have c3:=h.cell 0
 simp [Xar] at c3
 go_enter func48,ntmps48
 go_wp2
 go_ret;exact ⟨rfl,rfl⟩
end D
namespace D
open Go.RowKit Tryz
theorem info_sector : (prog.info? 200).map (fun i=>(i.zero,i.size,i.bytes))=some (some (.pointer none),1,8):=by kernel_rfl
theorem new_make (n:Nat) (h:n≤65536):∀ w:World,(Instr.makeSlice 115 (.int .i64 (n:Int)) (.int .i64 (n:Int))).run prog w =
  .ok (.slice (some ⟨w.heap.size,0,none⟩) n n) (w.alloc (.cells (List.replicate n (.pointer none)).toArray 200)):=by
 intro w;obtain ⟨i,hi,hz0,hz1,hz2⟩:=info_parts info_sector;have hr:=run_make (P:=prog) w 115 200 i (.pointer none) underlying115 hi hz0 .i64 .i64 n n (by omega) (by omega) (by rw [hz2];omega) (by omega)
 rw [hr];simp only [Value.cells,hz1,Wi,Int.toNat_natCast,Xcv]
theorem Xmc (w:World) (n:Nat):Secs w (List.replicate n (.pointer none)) (List.replicate n zeros):=by
 refine ⟨by simp,fun i hi=>?_⟩
 have hi':i<n:=by simpa using hi
 rw [Zf,Zf,Wp,Wp,if_pos hi',if_pos hi'];exact ⟨Xek,.inl ⟨rfl,rfl⟩⟩
theorem Xmr {w:World} {d N S n:Nat} (hd:Blk w d (Xar N S n (.slice none 0 0) (DS.fresh n)) 118) (hN:Blk w N (List.replicate n (.pointer none)) 200) (hS:Blk w S (List.replicate n (.pointer none)) 200) (hne:N≠S) (hn:n≤65536) :
  DiskAt w d [d,N,S] (DS.fresh n) N S (.slice none 0 0) (List.replicate n (.pointer none)) (List.replicate n (.pointer none)) [] where
 disk:=by simpa [DS.fresh] using hd
 nowB:=hN
 sureB:=hS
 ne:=hne
 nowS:=Xmc w n
 sureS:=Xmc w n
 same:=by simp [DS.fresh]
 few:=by simpa [DS.fresh] using hn
 own:=⟨rfl,.inl ⟨rfl,rfl⟩⟩
 row:=trivial
 foot:=rfl
theorem new_ok (n:Nat) (w:World) (h0:1≤n) (h:n≤65536) :
  Calls prog 26 #[.int .i64 n] w fun e w'=>∃ d M N S np sp,e=.returned (.tuple #[.pointer (some ⟨d,0,none⟩),.int .i64 0])∧DiskAt w' d M (DS.fresh n) N S (.slice none 0 0) np sp []∧Only [] w w'∧∀ k∈M,w.heap.size≤k:=by
 have hmk:=new_make n h
 have h1:¬(n:Int)<1:=by omega
 have h2:(n:Int)≤65536:=by omega
 generalize hz:(List.replicate n (Value.pointer none)).toArray=Z at *;have HZ:=Th hz;clear hz
 go_enter func26,ntmps26
 go_wp2
 go_region
 all_goals
  go_wp2
  go_ret2;rw [←HZ.out];refine ⟨_,_,_,_,_,_,rfl,Xmr (Blk.new' _ _ _ (by simp)) ?_ ?_ (by omega) h,(((((Only.refl _ _).drew).alloc _).alloc _).alloc _),by simp <;> omega⟩
 ·exact ((Blk.new _ _ _).alloc _).alloc _
 ·exact (Blk.new' _ _ _ (by simp)).alloc _
 ·exact (Blk.new' _ _ _ (by simp)).alloc _
 ·exact ((Blk.new _ _ _).alloc _).alloc _
end D
namespace D
open Go.RowKit Tryz
def NoSec (w:World) (M:List Nat):Prop:=∀ k∈M,∀ cs,¬Blk w k cs 154
theorem Sec.later {w w':World} {M:List Nat} {v:Value} {l:Xcs} (h:Sec w v l) (hO:Only M w w') (hM:NoSec w M):Sec w' v l:=by
 obtain ⟨h1,h2⟩:=h;refine ⟨h1,?_⟩
 rcases h2 with h2 | ⟨g,rfl,hb⟩
 ·exact .inl h2
 ·exact .inr ⟨g,rfl,hO.blk hb (fun hm=>hM g hm _ hb)⟩
theorem Secs.later {w w':World} {M:List Nat} {vs:List Value} {ls:List Xcs} (h:Secs w vs ls) (hO:Only M w w') (hM:NoSec w M):Secs w' vs ls :=
 ⟨h.1,fun i hi=>(h.2 i hi).later hO hM⟩
theorem Row.later {w w':World} {M:List Nat} {n:Nat} (hO:Only M w w') (hM:NoSec w M):∀ {vs:List Value} {xs:List (Nat × Xcs)},Row w n vs xs→Row w' n vs xs
 | [],[],h=>h
 | a :: p :: vs,x :: xs,h=>by
  obtain ⟨h1,h2,⟨g,rfl,hb,hl⟩,h4⟩:=h;exact ⟨h1,h2,⟨g,rfl,hO.blk hb (fun hm=>hM g hm _ hb),hl⟩,Row.later hO hM h4⟩
 | [],_ :: _,h=>h.elim
 | [_],[],h=>h.elim
 | [_],_ :: _,h=>h.elim
 | _ :: _ :: _,[],h=>h.elim
theorem Secs.set {w:World} {vs:List Value} {ls:List Xcs} (h:Secs w vs ls) (i:Nat) {v:Value} {l:Xcs} (hs:Sec w v l):Secs w (vs.set i v) (ls.set i l):=by
 refine ⟨by simp [h.1],fun j hj=>?_⟩;rw [Yz] at hj
 have hj':j<vs.length:=by rw [h.1];exact hj
 by_cases e:i=j
 ·subst e
  rw [Zf,Zf,Yr hj',Yr hj];exact hs
 ·rw [Zf,Zf,Zv e,Zv e,←Zf,←Zf]
  exact h.2 j hj
theorem Row.snoc {w:World} {n i g:Nat} {l:Xcs} (hi:i<n) (hb:Blk w g (u8s l) 154) (hl:l.length=512):∀ {vs:List Value} {xs:List (Nat × Xcs)},Row w n vs xs→Row w n (vs++[.int .i64 i,.pointer (some ⟨g,0,none⟩)]) (xs++[(i,l)])
 | [],[],h=>⟨rfl,hi,⟨g,rfl,hb,hl⟩,trivial⟩
 | a :: p :: vs,x :: xs,h=>by
  obtain ⟨h1,h2,h3,h4⟩:=h;exact ⟨h1,h2,h3,Row.snoc hi hb hl h4⟩
 | [],_ :: _,h=>h.elim
 | [_],[],h=>h.elim
 | [_],_ :: _,h=>h.elim
 | _ :: _ :: _,[],h=>h.elim
theorem DiskAt.noSec {w d M s N S rv np sp rp} (h:DiskAt w d M s N S rv np sp rp):NoSec w M:=by
 intro k hk cs hb;rw [h.foot] at hk;simp only [Xa,Ym,Zg,Zk] at hk
 rcases hk with rfl | rfl | rfl | hk
 ·exact h.disk.ne hb (by decide) rfl
 ·exact h.nowB.ne hb (by decide) rfl
 ·exact h.sureB.ne hb (by decide) rfl
 ·exact Xaj h.own hb (by decide) (by simpa using hk)
theorem DiskAt.lt {w d M s N S rv np sp rp} (h:DiskAt w d M s N S rv np sp rp):∀ k∈M,k<w.heap.size:=by
 intro k hk;rw [h.foot] at hk;simp only [Xa,Ym,Zg,Zk] at hk
 rcases hk with rfl | rfl | rfl | hk
 ·exact h.disk.lt
 ·exact h.nowB.lt
 ·exact h.sureB.lt
 ·exact Xbk h.own (by simpa using hk)
theorem DiskAt.later {w w' d M s N S rv np sp rp} {X:List Nat} (h:DiskAt w d M s N S rv np sp rp) (hO:Only X w w') (hX:NoSec w X) (hM:∀ k∈M,k∉X):DiskAt w' d M s N S rv np sp rp where
 disk:=hO.blk h.disk (hM _ (by rw [h.foot];simp))
 nowB:=hO.blk h.nowB (hM _ (by rw [h.foot];simp))
 sureB:=hO.blk h.sureB (hM _ (by rw [h.foot];simp))
 ne:=h.ne
 nowS:=h.nowS.later hO hX
 sureS:=h.sureS.later hO hX
 same:=h.same
 few:=h.few
 own:=Xab h.own hO (fun k hk=>hM k (by rw [h.foot];simp [hk]))
 row:=h.row.later hO hX
 foot:=h.foot
theorem DiskAt.cells {w w' d M s N S rv np sp rp} (h:DiskAt w d M s N S rv np sp rp) (hO:Only [d] w w') {s':DS} (hb:Blk w' d (Xar N S s.now.length rv s') 118) (e1:s'.now=s.now) (e2:s'.sure=s.sure) (e3:s'.row=s.row):DiskAt w' d M s' N S rv np sp rp where
 disk:=by rw [e1];exact hb
 nowB:=hO.blk h.nowB (by simp;exact h.nowB.ne h.disk (by decide))
 sureB:=hO.blk h.sureB (by simp;exact h.sureB.ne h.disk (by decide))
 ne:=h.ne
 nowS:=by rw [e1];exact h.nowS.later hO (fun k hk cs hq=>by simp at hk;subst hk;exact h.disk.ne hq (by decide) rfl)
 sureS:=by rw [e2];exact h.sureS.later hO (fun k hk cs hq=>by simp at hk;subst hk;exact h.disk.ne hq (by decide) rfl)
 same:=by rw [e1,e2];exact h.same
 few:=by rw [e1];exact h.few
 own:=by rw [e3];exact Xab h.own hO (fun k hk hm=>by simp at hm;subst hm;exact Xaj h.own h.disk (by decide) hk)
 row:=by rw [e1,e3];exact h.row.later hO (fun k hk cs hq=>by simp at hk;subst hk;exact h.disk.ne hq (by decide) rfl)
 foot:=h.foot
end D
end Go.Proofs.YtiijokopcgnokaaGreat
