import Derived.Test.YtiijokopcgnokaaGreatWDiskY
import Derived.Test.YtiijokopcgnokaaGreatWIter
import Derived.Test.YtiijokopcgnokaaGreatWQuietL
set_option maxHeartbeats 2000000
set_option linter.unusedSimpArgs false
set_option linter.unusedVariables false
namespace Go.Proofs.YtiijokopcgnokaaGreat
namespace P
open Go Go.RowKit Go.Proofs.YtiijokopcgnokaaGreat D Tryz
structure Fr where
 id:Nat
 b:List UInt8
 lsn:Nat
 dirty:Bool
structure PS where
 d:DS
 first:Nat
 frames:Nat
 used:List Bool
 held:List Fr
 durable:Nat
structure Well (s:DS):Prop where
 fail:s.fail=0
 halt:s.halt = -1
 down:s.down=false
theorem Well.err {s:DS} (h:Well s):s.err=0:=by simp [DS.err,h.fail,h.halt,h.down]
theorem Well.changed {s:DS} (h:Well s):Well s.changed:=by
 refine ⟨?_,?_,?_⟩
 ·show dec s.fail 0=0;rw [h.fail,dec_eq (by omega) (by omega)];rfl
 ·show dec s.halt (-1) = -1;rw [h.halt,dec_eq (by omega) (by omega)];rfl
 ·show (s.down || s.halt == 0)=false;rw [h.down,h.halt];rfl
structure PS.Fine (S:PS) (k:Nat):Prop where
 well:Well S.d
 room:S.first+S.used.length≤S.d.now.length
 ids:∀ f∈S.held,f.id<S.used.length
 len:∀ f∈S.held,f.b.length=512
 count0:0≤S.d.count
 count:S.d.count≤k
 row:S.d.row.length≤k
 once:(S.held.map (·.id)).Nodup
 few:S.held.length≤S.frames
 frames:1≤S.frames∧S.frames≤64
 clean:∀ f∈S.held,f.dirty=false→S.d.now.getD (S.first+f.id) []=f.b
theorem PS.Fine.more {S:PS} {k k2:Nat} (h:S.Fine k) (hk:k≤k2):S.Fine k2 :=
 ⟨h.well,h.room,h.ids,h.len,h.count0,by have:=h.count;omega,by have:=h.row;omega,h.once,h.few,h.frames,h.clean⟩
structure Pl where
 at_:Nat
 v:Value
 last:Nat
 f:Fr
def heldM (L:List Pl):Pairs:=L.map fun l=>((l.f.id:Int),.pointer (some ⟨l.at_,0,none⟩))
def Xas (l:Pl):List Value:=[l.v,.int .u64 l.f.lsn,.bool l.f.dirty,.int .i64 l.last]
def Xaw (d ub hm pm asked:Nat) (S:PS):List Value :=
 [.pointer (some ⟨d,0,none⟩),.int .i64 S.first,.int .i64 S.frames,.slice (some ⟨ub,0,none⟩) S.used.length S.used.length,.map (some hm),.map (some pm),.int .u64 S.durable,.int .i64 asked]
structure PoolAt (w:World) (p d:Nat) (MD:List Nat) (ub hm pm asked:Nat) (L:List Pl) (S:PS) (k:Nat):Prop where
 disk:Disk w d MD S.d
 pool:Blk w p (Xaw d ub hm pm asked S) 112
 used:Blk w ub (S.used.map Value.bool) 4
 heldm:MapAt w hm .i64 (heldM L)
 pins:MapAt w pm .i64 []
 frame:∀ l∈L,Blk w l.at_ (Xas l) 150∧Xau 5 w l.v l.f.b
 fst:L.map (·.f)=S.held
 apart:(L.map (·.at_)).Nodup
 ne:hm≠pm
 asked:asked≤k
 last:∀ l∈L,l.last≤k
 size:S.used.length≤65536
structure Pool (w:World) (p d:Nat) (M:List Nat) (S:PS) (k:Nat):Prop where
 at_:∃ MD ub hm pm asked L,PoolAt w p d MD ub hm pm asked L S k∧(∀ x∈MD,x∈M)∧p∈M∧ub∈M∧hm∈M∧pm∈M∧(∀ l∈L,l.at_∈M∧∀ x,l.v.ownBlock=some x→x∈M)
 lt:∀ x∈M,x<w.heap.size
 fine:S.Fine k
variable {w w' : World} {p d ub hm pm asked k : Nat} {MD M : List Nat} {L : List Pl} {S : PS}
theorem PoolAt.later (h:PoolAt w p d MD ub hm pm asked L S k) {X:List Nat} (hO:Only X w w') (hd:Disk w' d MD S.d) (h1:p∉X) (h2:ub∉X) (h3:hm∉X) (h4:pm∉X) (h5:∀ l∈L,l.at_∉X∧∀ x,l.v.ownBlock=some x→x∉X):PoolAt w' p d MD ub hm pm asked L S k where
 disk:=hd
 pool:=hO.blk h.pool h1
 used:=hO.blk h.used h2
 heldm:=h.heldm.later hO h3
 pins:=h.pins.later hO h4
 frame:=fun l hl=>⟨hO.blk (h.frame l hl).1 (h5 l hl).1,Xab (h.frame l hl).2 hO (h5 l hl).2⟩
 fst:=h.fst
 apart:=h.apart
 ne:=h.ne
 asked:=h.asked
 last:=h.last
 size:=h.size
theorem PoolAt.past2 (h:PoolAt w p d MD ub hm pm asked L S k) (hO:Only [] w w'):PoolAt w' p d MD ub hm pm asked L S k :=
 h.later hO (h.disk.past hO) (by simp) (by simp) (by simp) (by simp) (fun l hl=>⟨by simp,fun x hx=>by simp⟩)
theorem Pool.later (h:Pool w p d M S k) {X:List Nat} (hO:Only X w w') (hX:NoSec w X) (hM:∀ x∈M,x∉X):Pool w' p d M S k:=by
 obtain ⟨MD,ub,hm,pm,asked,L,hP,h1,h2,h3,h4,h5,h6⟩:=h.at_;exact ⟨⟨MD,ub,hm,pm,asked,L,hP.later hO (hP.disk.later hO hX (fun x hx=>hM x (h1 x hx))) (hM p h2) (hM ub h3) (hM hm h4) (hM pm h5) (fun l hl=>⟨hM _ (h6 l hl).1,fun x hx=>hM x ((h6 l hl).2 x hx)⟩),h1,h2,h3,h4,h5,h6⟩,fun x hx=>Ye (h.lt x hx) hO.size,h.fine⟩
theorem Pool.past (h:Pool w p d M S k) (hO:Only [] w w'):Pool w' p d M S k:=h.later hO (by simp [NoSec]) (by simp)
theorem Pool.more (h:Pool w p d M S k) {k2:Nat} (hk:k≤k2):Pool w p d M S k2:=by
 obtain ⟨MD,ub,hm,pm,asked,L,hP,r⟩:=h.at_;exact ⟨⟨MD,ub,hm,pm,asked,L,⟨hP.disk,hP.pool,hP.used,hP.heldm,hP.pins,hP.frame,hP.fst,hP.apart,hP.ne,Zp hP.asked hk,fun l hl=>Zp (hP.last l hl) hk,hP.size⟩,r⟩,h.lt,h.fine.more hk⟩
theorem Step.keep {M M':List Nat} {w w':World} (h:Step M M' w w') {b:Nat} (hb:b<w.heap.size) (hM:b∉M):b∉M':=fun hx=>by
 rcases h.2 b hx with h1 | h1
 ·exact hM h1
 ·omega
theorem info_bool : (prog.info? 4).map (fun i=>(i.zero,i.size,i.bytes))=some (some (.bool false),1,1):=by kernel_rfl
theorem bools_make (n:Nat) (h:n≤65536):∀ w:World,(Instr.makeSlice 39 (.int .i64 (n:Int)) (.int .i64 (n:Int))).run prog w =
  .ok (.slice (some ⟨w.heap.size,0,none⟩) n n) (w.alloc (.cells (List.replicate n (.bool false)).toArray 4)):=by
 intro w;obtain ⟨i,hi,hz0,hz1,hz2⟩:=info_parts info_bool;have hr:=run_make (P:=prog) w 39 4 i (.bool false) underlying39 hi hz0 .i64 .i64 n n (by omega) (by omega) (by rw [hz2];omega) (by omega)
 rw [hr];simp only [Value.cells,hz1,Wi,Int.toNat_natCast,Xcv]
def PS.new (s:DS) (first pages frames:Nat):PS:=⟨s,first,frames,List.replicate pages false,[],0⟩
def Fits (n:Nat) (first pages frames:Int):Prop:=0≤first∧1≤pages∧pages≤65536∧first+pages≤n∧1≤frames∧frames≤64
theorem new_no {s:DS} (hD:Disk w d MD s) (first pages frames:Int) (h:¬Fits s.now.length first pages frames) (hb1:first≤1000000000000) (hb2:pages≤1000000000000) :
  Calls prog 27 #[.pointer (some ⟨d,0,none⟩),.int .i64 first,.int .i64 pages,.int .i64 frames] w fun e w'=>e=.returned (.tuple #[.pointer none,.int .i64 50])∧w=w':=by
 have SE:=Th hD.sectors;have hn:s.now.length≤65536:=hD.len.2;generalize s.now.length=n at *;clear hD;unfold Fits at h
 by_cases h1:first<0
 ·clear h
  go_enter func27,ntmps27
  go_wp2_with fail
  go_ret2;exact ⟨rfl,rfl⟩
 by_cases h2:pages<1
 ·clear h
  go_enter func27,ntmps27
  go_wp2_with fail
  go_ret2;exact ⟨rfl,rfl⟩
 by_cases h3:65536<pages
 ·clear h
  go_enter func27,ntmps27
  go_wp2_with fail
  go_ret2;exact ⟨rfl,rfl⟩
 by_cases h4:(n:Int)<first
 ·clear h
  go_enter func27,ntmps27
  go_wp2_with (go_at_call 48;refine SE.out.mono ?_;rintro e w1 ⟨rfl,rfl⟩)
  go_ret2;exact ⟨rfl,rfl⟩
 by_cases h5:(n:Int)-first<pages
 ·clear h
  go_enter func27,ntmps27
  go_wp2_with (go_at_call 48;refine SE.out.mono ?_;rintro e w1 ⟨rfl,rfl⟩)
  go_ret2;exact ⟨rfl,rfl⟩
 by_cases h6:frames<1
 ·clear h
  go_enter func27,ntmps27
  go_wp2_with (go_at_call 48;refine SE.out.mono ?_;rintro e w1 ⟨rfl,rfl⟩)
  go_ret2;exact ⟨rfl,rfl⟩
 have h7:64<frames:=by omega
 clear h
 go_enter func27,ntmps27
 go_wp2_with (go_at_call 48;refine SE.out.mono ?_;rintro e w1 ⟨rfl,rfl⟩)
 go_ret2;exact ⟨rfl,rfl⟩
theorem new_ok {s:DS} (hD:Disk w d MD s) (hw:Well s) (hc0:0≤s.count) (k:Nat) (hc:s.count≤k) (hr:s.row.length≤k) (first pages frames:Nat) (h:Fits s.now.length first pages frames) :
  Calls prog 27 #[.pointer (some ⟨d,0,none⟩),.int .i64 first,.int .i64 pages,.int .i64 frames] w fun e w'=>∃ p M',e=.returned (.tuple #[.pointer (some ⟨p,0,none⟩),.int .i64 0])∧Pool w' p d M' (PS.new s first pages frames) k∧Step MD M' w w':=by
 have SE:=Th hD.sectors;have hn:s.now.length≤65536:=hD.len.2;have HD:=Th hD;have HH:=Th h;obtain ⟨h1,h2,h3,h4,h5,h6⟩:=h;have FF:Hid ((PS.new s first pages frames).Fine k):=⟨hw,by show first+(List.replicate pages false).length≤s.now.length;rw [Wj];omega,(fun f hf=>by cases hf),(fun f hf=>by cases hf),hc0,hc,hr,List.Pairwise.nil,Yc _,by show 1≤frames∧frames≤64;omega,(fun f hf=>by cases hf)⟩
 clear hc0 hc hr hw hD;generalize hln:s.now.length=n at *;have HLN:=Th hln;clear hln;have hmk:=bools_make pages (by omega);have hmm:=@run_makeMap prog
 have g1:¬(first:Int)<0:=by omega
 have g2:¬(pages:Int)<1:=by omega
 have g3:¬(65536:Int)<pages:=by omega
 have g4:¬(n:Int)<first:=by omega
 have g5:¬(n:Int)-first<pages:=by omega
 have g6:¬(frames:Int)<1:=by omega
 have g7:¬(64:Int)<frames:=by omega
 generalize hz:(List.replicate pages (Value.bool false)).toArray=Z at *;have HZ:=Th hz;clear hz
 go_enter func27,ntmps27
 go_wp2_with (go_at_call 48;refine SE.out.mono ?_;rintro e w1 ⟨rfl,rfl⟩)
 go_ret2;rw [←HZ.out];have O1:Only [] w (w.alloc (.cells (List.replicate pages (Value.bool false)).toArray 4)):=(Only.refl _ _).alloc _;refine ⟨_,w.heap.size :: (w.heap.size+1) :: (w.heap.size+1+1) :: (w.heap.size+1+1+1) :: MD,rfl,⟨⟨MD,w.heap.size,w.heap.size+1,w.heap.size+1+1,0,[],⟨HD.out.past ((((Only.refl _ _).alloc _).alloc _).alloc _ |>.alloc _),?_,?_,?_,?_,(fun l hl=>by cases hl),rfl,List.Pairwise.nil,by omega,Yc _,(fun l hl=>by cases hl),by show (List.replicate pages false).length≤_;rw [Wj];omega⟩,fun x hx=>by simp [hx],by simp,by simp,by simp,by simp,fun l hl=>by cases hl⟩,?_,FF.out⟩,⟨?_,?_⟩⟩
 ·refine (Blk.new' _ _ _ (by simp)).to ?_
  simp [Xaw,PS.new]
 ·refine (((Blk.new _ _ _).alloc _).alloc _ |>.alloc _).to ?_
  simp [PS.new]
 ·have:=MapAt.made (w.alloc (.cells (List.replicate pages (Value.bool false)).toArray 4)) .i64
  rw [World.size_alloc] at this;exact this.past (((Only.refl _ _).alloc _).alloc _)
 ·have:=MapAt.made ((w.alloc (.cells (List.replicate pages (Value.bool false)).toArray 4)).alloc (.map #[] 0)) .i64
  rw [World.size_alloc,World.size_alloc] at this;exact this.past ((Only.refl _ _).alloc _)
 ·intro x hx
  simp only [Zg] at hx;simp only [World.size_alloc]
  rcases hx with rfl | rfl | rfl | rfl | hx
  ·omega
  ·omega
  ·omega
  ·omega
  ·have:=HD.out.lt x hx;omega
 ·exact ((((Only.refl _ _).alloc _).alloc _).alloc _).alloc _
 ·intro x hx
  simp only [Zg] at hx
  rcases hx with rfl | rfl | rfl | rfl | hx
  ·exact .inr (by omega)
  ·exact .inr (by omega)
  ·exact .inr (by omega)
  ·exact .inr (by omega)
  ·exact .inl hx
def PS.is (S:PS) (i:Int):Bool:=decide (0≤i) && (decide (i<S.used.length) && S.used.getD i.toNat false)
theorem Pool.is (h:Pool w p d M S k) (i:Int) {z:Bool} (hz:S.is i=z):Calls prog 87 #[.pointer (some ⟨p,0,none⟩),.int .i64 i] w fun e w'=>e=.returned (.bool z)∧w=w':=by
 obtain ⟨MD,ub,hm,pm,asked,L,hP,_⟩:=h.at_;have c3:=hP.pool.cell 3;simp only [Xaw,Zd,Zb] at c3;have HU:=Th hP.used;clear h hP;unfold PS.is at hz;generalize S.used=u at *;generalize hn:u.length=n at *;have HN:=Th hn;clear hn
 by_cases h0:0≤i
 ·obtain ⟨j,rfl⟩:=Int.eq_ofNat_of_zero_le h0
  by_cases h1:j<n
  ·have hc:w.cell? ⟨ub,j,none⟩=some (.bool (u.getD j false)):=by
    rw [HU.out.cell,Zr,Zc (by rw [HN.out];exact h1),Zf,Zc (by rw [HN.out];exact h1)];rfl
   have h1i:(j:Int)<n:=by omega
   rw [decide_eq_true h0,decide_eq_true h1i] at hz;simp only [Bool.true_and,Int.toNat_natCast] at hz;rw [hz] at hc;clear hz
   go_enter func87,ntmps87
   go_wp2_with fail
   go_ret;exact ⟨rfl,rfl⟩
  ·have h1i:¬(j:Int)<n:=by omega
   rw [decide_eq_true h0,decide_eq_false h1i] at hz;simp only [Bool.true_and,Bool.false_and] at hz;subst hz
   have h1b:decide (j<n)=false:=by simpa using h1
   go_enter func87,ntmps87
   go_wp2_with fail
   go_ret;exact ⟨rfl,rfl⟩
 ·rw [decide_eq_false h0] at hz
  simp only [Bool.false_and] at hz;subst hz
  have h0b:decide (0≤i)=false:=by simpa using h0
  go_enter func87,ntmps87
  go_wp2_with fail
  go_ret;exact ⟨rfl,rfl⟩
end P
namespace P
open Go Go.RowKit Go.Proofs.YtiijokopcgnokaaGreat D Tryz
variable {w w' : World} {p d ub hm pm asked k : Nat} {MD M : List Nat} {L : List Pl} {S : PS}
def Aside (w:World) (X:List Nat):Prop:=∀ x∈X,(∃ cs,Blk w x cs 112)∨(∃ cs,Blk w x cs 150)∨(∃ cs,Blk w x cs 4)∨(∃ q m,MapAt w x q m)
theorem Aside.off {X:List Nat} (h:Aside w X) {e:TypeId} (h1:112≠e) (h2:150≠e) (h3:4≠e):Off e w X:=by
 intro x hx cs hb
 rcases h x hx with ⟨cs',h4⟩ | ⟨cs',h4⟩ | ⟨cs',h4⟩ | ⟨q,m,h4⟩
 ·exact h4.ne hb h1 rfl
 ·exact h4.ne hb h2 rfl
 ·exact h4.ne hb h3 rfl
 ·exact h4.ne hb rfl
theorem Disk.cells {s:DS} (h:Disk w d MD s):∀ x∈MD,∃ cs t,Blk w x cs t:=by
 obtain ⟨N,S,rv,np,sp,rp,h⟩:=h;intro x hx;rw [h.foot] at hx;simp only [Xa,Ym,Zg,Zk] at hx
 rcases hx with rfl | rfl | rfl | hx
 ·exact ⟨_,_,h.disk⟩
 ·exact ⟨_,_,h.nowB⟩
 ·exact ⟨_,_,h.sureB⟩
 ·obtain ⟨cs,hb⟩:=Xag h.own (by simpa using hx);exact ⟨_,_,hb⟩
theorem Aside.apart {s:DS} (hD:Disk w d MD s) {X:List Nat} (h:Aside w X):∀ x∈MD,x∉X:=by
 intro x hx hX
 rcases h x hX with ⟨cs',h4⟩ | ⟨cs',h4⟩ | ⟨cs',h4⟩ | ⟨q,m,h4⟩
 ·exact hD.off (e:=112) (by decide) (by decide) (by decide) x hx _ h4
 ·exact hD.off (e:=150) (by decide) (by decide) (by decide) x hx _ h4
 ·exact hD.off (e:=4) (by decide) (by decide) (by decide) x hx _ h4
 ·obtain ⟨cs,t,hb⟩:=Disk.cells hD x hx
  exact h4.ne hb rfl
theorem Aside.disk {s:DS} (hD:Disk w d MD s) {X:List Nat} (h:Aside w X) (hO:Only X w w'):Disk w' d MD s :=
 hD.later hO (h.off (by decide) (by decide) (by decide)) (h.apart hD)
theorem Aside.row {X:List Nat} (h:Aside w X) {v:Value} {l:List UInt8} (hr:Xau 5 w v l) (hO:Only X w w'):Xau 5 w' v l:=hr.off hO (h.off (by decide) (by decide) (by decide))
theorem Xii {α β:Type} {f:α→β}:∀ {L:List α},(L.map f).Nodup→∀ {x y:α},x∈L→y∈L→f x=f y→x=y:=by
 intro L
 induction L with
 | nil=>intro _ x y hx;cases hx
 | cons a L ih =>
  intro hn x y hx hy e;rw [Zx,Xn] at hn
  rcases Zg.1 hx with h1 | h1
  ·rcases Zg.1 hy with h2 | h2
   ·rw [h1,h2]
   ·refine absurd ?_ hn.1
    rw [←h1,e];exact Yj h2
  ·rcases Zg.1 hy with h2 | h2
   ·refine absurd ?_ hn.1
    rw [←h2,←e];exact Yj h1
   ·exact ih hn.2 h1 h2 e
theorem Xji (w:World):(zeroValue 147).run prog w=.ok (.pointer none) w:=by kernel_rfl
theorem zero_int (w:World):(zeroValue 3).run prog w=.ok (.int .i64 0) w:=by kernel_rfl
theorem Xow (hn:(L.map (·.f.id)).Nodup) {l:Pl} (hl:l∈L):look (heldM L) (l.f.id:Int)=some (.pointer (some ⟨l.at_,0,none⟩)):=by
 refine mem_look (m:=heldM L) (p:=((l.f.id:Int),.pointer (some ⟨l.at_,0,none⟩))) ?_ (Yj hl)
 simp only [heldM,Yw];exact Xf.2 ((Xf.1 hn).imp fun h e=>h (Int.natCast_inj.1 e))
theorem Xfr {id:Nat} (h:∀ l∈L,l.f.id≠id):look (heldM L) (id:Int)=none:=by
 refine Xhk fun q hq e=>?_
 simp only [heldM,Zi] at hq;obtain ⟨l,hl,rfl⟩:=hq;exact h l hl (Int.natCast_inj.1 e)
theorem PoolAt.ids (h:PoolAt w p d MD ub hm pm asked L S k) (hf:S.Fine k):(L.map (·.f.id)).Nodup:=by
 have:=hf.once;rw [←h.fst,Yw] at this;exact this
theorem PoolAt.lookHeld (h:PoolAt w p d MD ub hm pm asked L S k) (hf:S.Fine k) {l:Pl} (hl:l∈L) (hO:Only [] w w') (ok:Bool) :
  (Instr.lookup 109 (.map (some hm)) (.int .i64 (l.f.id:Int)) ok).run prog w'=.ok (if ok then .tuple #[.pointer (some ⟨l.at_,0,none⟩),.bool true] else .pointer (some ⟨l.at_,0,none⟩)) w':=by
 have:=(h.heldm.past hO).look underlying109 underlying3 (Xji w') (l.f.id:Int) ok;rw [Xow (h.ids hf) hl] at this;exact this
theorem PoolAt.lookPins (h:PoolAt w p d MD ub hm pm asked L S k) (hO:Only [] w w') (id:Int) :
  (Instr.lookup 110 (.map (some pm)) (.int .i64 id) false).run prog w'=.ok (.int .i64 0) w' :=
 (h.pins.past hO).look underlying110 underlying3 (zero_int w') id false
def Fr.free (f:Fr) (n:Nat):Bool:=!(f.dirty && decide (n<f.lsn))
def Xlf (S:PS) (id:Nat) (b:Bool):Prop:=if b=true then ∃ f∈S.held,f.id=id∧f.free S.durable=true else ∀ f∈S.held,f.free S.durable=false
def VicAt (L:List Pl) (n:Nat) (left:Pairs) (id:Nat) (b:Bool):Prop :=
 if b=true then ∃ l∈L,l.f.id=id∧l.f.free n=true else ∀ l∈L,((l.f.id:Int),Value.pointer (some ⟨l.at_,0,none⟩))∉left→l.f.free n=false
theorem VicAt.done {left:Pairs} {id:Nat} {b:Bool} (h:VicAt L S.durable left id b) (h0:left=[]) (hL:L.map (·.f)=S.held):Xlf S id b:=by
 subst h0;unfold VicAt at h;unfold Xlf;rw [←hL];split
 ·next hb =>
  rw [if_pos hb] at h;obtain ⟨l,hl,h1,h2⟩:=h;exact ⟨l.f,Yj hl,h1,h2⟩
 ·next hb =>
  rw [if_neg hb] at h;intro f hf;obtain ⟨l,hl,rfl⟩:=Zi.1 hf;exact h l hl (by simp)
theorem VicAt.pass {n:Nat} {left:Pairs} {id:Nat} {b:Bool} (h:VicAt L n left id b) {l:Pl} (hf:l.f.free n=false) (hn:(L.map (·.f.id)).Nodup) (hl:l∈L):VicAt L n (mdel left (l.f.id:Int)) id b:=by
 unfold VicAt at *;split
 ·next hb=>rw [if_pos hb] at h;exact h
 ·next hb =>
  rw [if_neg hb] at h;intro x hx hnot
  by_cases e:x.f.id=l.f.id
  ·have:x=l:=Xii hn hx hl e
   rw [this];exact hf
  ·refine h x hx fun hm=>hnot ?_
   unfold mdel;refine Yp.2 ⟨hm,?_⟩
   have:¬((x.f.id:Int)=(l.f.id:Int)):=fun h=>e (Int.natCast_inj.1 h)
   simpa using this
theorem VicAt.found {n:Nat} {left:Pairs} {id:Nat} (h:VicAt L n left id true) (left':Pairs):VicAt L n left' id true:=h
theorem VicAt.take {n:Nat} {l:Pl} (hf:l.f.free n=true) (hl:l∈L) (left:Pairs):VicAt L n left l.f.id true:=by
 unfold VicAt;rw [if_pos rfl];exact ⟨l,hl,rfl,hf⟩
set_option maxRecDepth 100000 in
theorem victim_any (h:PoolAt w p d MD ub hm pm asked L S k) (hf:S.Fine k):Calls prog 104 #[.pointer (some ⟨p,0,none⟩)] w fun e w'=>∃ (id:Nat) (b:Bool),e=.returned (.tuple #[.int .i64 id,.bool b])∧Xlf S id b∧Only [] w w':=by
 have HH:=Th h;have HF:=Th hf;have c4:=h.pool.cell 4;simp only [Xaw,Zd,Zb] at c4;clear h hf
 go_enter func104,ntmps104
 go_wp2_with fail
 go_step3
 go_wp2_with fail
 go_step3
 go_wp2_with (at_range;refine Xqc rfl _ 109 rfl underlying109 hm (heldM L) rfl HH.out.heldm ?_;intro w1 hit hO1 hs1)
 go_frame
 have O1:=Th hO1;have IT:=Th hit;clear hO1 hit c4
 go_loopg [4,5] L.length (fun gk v4 v5 wr=>∃ (left:Pairs) (id:Nat) (b:Bool),gk=left.length∧v4=.int .i64 id∧v5=.bool b∧Xci wr w.heap.size hm .i64 (heldM L) left∧VicAt L S.durable left id b∧Only [] w wr)
 case atStart=>exact ⟨heldM L,0,false,by simp [heldM],rfl,rfl,IT.out,by unfold VicAt;rw [if_neg (by simp)];intro l hl hnot;exact absurd (Yj hl) hnot,O1.out⟩
 case round =>
  obtain ⟨left,id,b,hgk,rfl,rfl,hit,hpt,hO⟩:=hrel;have HGK:=Th hgk;have IT:=Th hit;have PT:=Th hpt;have OO:=Th hO;clear hgk hit hpt hO
  go_wp2_with (at_next;refine wpList_next rfl _ rfl w.heap.size hm (heldM L) left rfl IT.out ?_ ?_)
  case refine_1 =>
   intro h0;have E:Hid (Xlf S id b):=PT.out.done h0 HH.out.fst;clear h0
   go_wp2_with fail
   rw [Exit.noGoto_ret];go_ret2;exact ⟨_,_,rfl,E.out,OO.out⟩
  case refine_2 =>
   intro x u w2 hmem hit2 hO2 hs2 hen;have hsub:=IT.out.sub _ hmem;simp only [heldM,Zi] at hsub;obtain ⟨l,hl,hpe⟩:=hsub;obtain ⟨rfl,rfl⟩:=Prod.mk.inj hpe;have OO2:Hid (Only [] w w2):=OO.out.trans hO2 (fun y hy=>by simp at hy;subst hy;right;exact Zq _)
   have H2:=HH.out.past2 OO2.out;have c5:=H2.pool.cell 5;have c4:=H2.pool.cell 4;have c6:=H2.pool.cell 6;have l1:=(H2.frame l hl).1.cell 1;have l2:=(H2.frame l hl).1.cell 2;have l3:=(H2.frame l hl).1.cell 3;simp only [Xaw,Xas,Zd,Zb] at c4 c5 c6 l1 l2 l3;have C4:=Later.cell c4;have C5:=Later.cell c5;have C6:=Later.cell c6;have L1:=Later.cell l1;have L2:=Later.cell l2;have L3:=Later.cell l3
   have LP:∀ x:Later w2,(Instr.lookup 110 (.map (some pm)) (.int .i64 (l.f.id:Int)) false).run prog x.v=.ok (.int .i64 0) x.v:=fun x=>H2.lookPins x.h _
   have IT2:=Th hit2;have HL:=Th hl
   have ML:Hid ((mdel left (l.f.id:Int)).length<left.length):=by
    have:=Xov hmem IT.out.nodup;show _<_;simp only at this;omega
   have HH2:=Th H2
   have PN:Hid (l.f.free S.durable=false→VicAt L S.durable (mdel left (l.f.id:Int)) id b):=fun h=>PT.out.pass h (HH.out.ids HF.out) HL.out
   have PY:Hid (l.f.free S.durable=true→VicAt L S.durable (mdel left (l.f.id:Int)) l.f.id true):=fun h=>VicAt.take h HL.out _
   have PB:Hid (b=true→VicAt L S.durable (mdel left (l.f.id:Int)) id true):=fun h=>(h ▸ PT.out).found _
   have BL:Hid (b=true→∃ q∈L,q.f.id=id):=fun h=>by
    have:=PT.out;unfold VicAt at this;rw [if_pos h] at this;obtain ⟨q,hq,h1,_⟩:=this;exact ⟨q,hq,h1⟩
   clear hpe hl hmem hit2 hO2 hs2 H2 c4 c5 c6 l1 l2 l3 PT IT HH;obtain ⟨la,lv,lt,⟨li,lb,ln,ld⟩⟩:=l;simp only at *
   by_cases hst:ld=true∧S.durable<ln
   ·obtain ⟨rfl,hlt⟩:=hst
    have E:Hid ((⟨li,lb,ln,true⟩:Fr).free S.durable=false):=by show _=_;simp [Fr.free,hlt]
    generalize S.durable=du at *
    have hlti:(du:Int)<ln:=by omega
    go_wp2_with fail
    refine Xaa (Only.refl _ _) (by kernel_rfl) (by kernel_rfl) ?_
    repeat (go_big_quiet_step (fail))
    refine wpQuiet_nil ?_
    rintro _ ⟨xq,rfl⟩
    go_wp2_with fail
    go_roundg (mdel left (li:Int)).length
    case measure=>have:=ML.out;have:=HGK.out;omega
    case rel=>exact ⟨_,id,b,rfl,rfl,rfl,IT2.out.past xq.h,PN.out E.out,OO2.out.trans xq.h (by simp)⟩
   ·have E:Hid ((⟨li,lb,ln,ld⟩:Fr).free S.durable=true):=by
     show _=_;unfold Fr.free
     cases ld with
     | false=>rfl
     | true=>simp only [true_and] at hst;simp [hst]
    have hlti:ld=true→¬S.durable<ln:=fun h h2=>hst ⟨h,h2⟩
    have HST:Hid (ld=true→decide (S.durable<ln)=false):=fun h=>decide_eq_false (hlti h)
    clear hst hlti;generalize S.durable=du at *
    cases b with
    | false =>
     clear BL
     cases ld with
     | false =>
      clear HST
      go_wp2_with fail
      refine Xaa (Only.refl _ _) (by kernel_rfl) (by kernel_rfl) ?_
      repeat (go_big_quiet_step (fail))
      refine wpQuiet_nil ?_
      rintro _ ⟨xq,rfl⟩
      go_wp2_with fail
      go_roundg (mdel left (li:Int)).length
      case measure=>have:=ML.out;have:=HGK.out;omega
      case rel=>exact ⟨_,li,true,rfl,rfl,rfl,IT2.out.past xq.h,PY.out E.out,OO2.out.trans xq.h (by simp)⟩
     | true =>
      have hlt2:=HST.out rfl;clear HST
      go_wp2_with fail
      refine Xaa (Only.refl _ _) (by kernel_rfl) (by kernel_rfl) ?_
      repeat (go_big_quiet_step (fail))
      refine wpQuiet_nil ?_
      rintro _ ⟨xq,rfl⟩
      go_wp2_with fail
      go_roundg (mdel left (li:Int)).length
      case measure=>have:=ML.out;have:=HGK.out;omega
      case rel=>exact ⟨_,li,true,rfl,rfl,rfl,IT2.out.past xq.h,PY.out E.out,OO2.out.trans xq.h (by simp)⟩
    | true =>
     obtain ⟨q,hq,rfl⟩:=BL.out rfl;have q2:=(HH2.out.frame q hq).1.cell 2;have q3:=(HH2.out.frame q hq).1.cell 3;simp only [Xas,Zd,Zb] at q2 q3;have Q2:=Later.cell q2;have Q3:=Later.cell q3
     have LQ:∀ x:Later w2,(Instr.lookup 109 (.map (some hm)) (.int .i64 (q.f.id:Int)) false).run prog x.v=.ok (.pointer (some ⟨q.at_,0,none⟩)) x.v:=fun x=>HH2.out.lookHeld HF.out hq x.h false
     clear hq q2 q3 BL;obtain ⟨qa,qv,qt,⟨qi,qb,qn,qd⟩⟩:=q;simp only at *
     by_cases hlt3:qt<lt
     all_goals
      cases ld
      all_goals
       have hlt2:=HST.out;cases qd
       all_goals
        first | (have hlt2:=hlt2 rfl) | clear hlt2
        clear HST
        go_wp2_with fail
        refine Xaa (Only.refl _ _) (by kernel_rfl) (by kernel_rfl) ?_
        repeat (go_big_quiet_step (fail))
        refine wpQuiet_nil ?_
        rintro _ ⟨xq,rfl⟩
        go_wp2_with fail
        refine Xaa xq.h (by kernel_rfl) (by kernel_rfl) ?_
        repeat (go_big_quiet_step (fail))
        refine wpQuiet_nil ?_
        rintro _ ⟨xr,rfl⟩
        go_wp2_with fail
        go_roundg (mdel left (li:Int)).length
        case measure=>have:=ML.out;have:=HGK.out;omega
        case rel =>
         first
         | exact ⟨_,li,true,rfl,rfl,rfl,IT2.out.past xr.h,PY.out E.out,OO2.out.trans xr.h (by simp)⟩
         | exact ⟨_,qi,true,rfl,rfl,rfl,IT2.out.past xr.h,PB.out (by simp),OO2.out.trans xr.h (by simp)⟩
end P
end Go.Proofs.YtiijokopcgnokaaGreat
