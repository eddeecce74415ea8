import Derived.Test.YtiijokopcgnokaaGreatWDiskS
import Derived.BigQuiet
import Derived.Deep.QuietTactic
import Derived.Test.YtiijokopcgnokaaGreatWPush
set_option linter.unusedSimpArgs false
set_option linter.unusedVariables false
namespace Go.Proofs.YtiijokopcgnokaaGreat
namespace D
open Go.RowKit
def kept (keep:List Int) (j:Nat):Nat:=(max 0 (min (keep.getD j 0) 512)).toNat
end D
namespace D
open Go.RowKit
def Disk (w:World) (d:Nat) (M:List Nat) (s:DS):Prop:=∃ N S rv np sp rp,DiskAt w d M s N S rv np sp rp
def Step (M M':List Nat) (w w':World):Prop:=Only M w w'∧∀ k∈M',k∈M∨w.heap.size≤k
theorem Disk.lt {w d M s} (h:Disk w d M s):∀ k∈M,k<w.heap.size:=by obtain ⟨N,S,rv,np,sp,rp,h⟩:=h;exact h.lt
theorem Disk.noSec {w d M s} (h:Disk w d M s):NoSec w M:=by obtain ⟨N,S,rv,np,sp,rp,h⟩:=h;exact h.noSec
theorem Disk.later {w w' d M s X} (h:Disk w d M s) (hO:Only X w w') (hX:NoSec w X) (hM:∀ k∈M,k∉X):Disk w' d M s:=by
 obtain ⟨N,S,rv,np,sp,rp,h⟩:=h;exact ⟨N,S,rv,np,sp,rp,h.later hO hX hM⟩
theorem Disk.past {w w' d M s} (h:Disk w d M s) (hO:Only [] w w'):Disk w' d M s:=h.later hO (by simp [NoSec]) (by simp)
theorem Disk.len {w d M s} (h:Disk w d M s):s.sure.length=s.now.length∧s.now.length≤65536:=by obtain ⟨N,S,rv,np,sp,rp,h⟩:=h;exact ⟨h.same,h.few⟩
theorem Disk.secLen {w d M s} (h:Disk w d M s):(∀ i,i<s.now.length→(s.now.getD i []).length=512)∧(∀ i,i<s.sure.length→(s.sure.getD i []).length=512):=by
 obtain ⟨N,S,rv,np,sp,rp,h⟩:=h;exact ⟨fun i hi=>(h.nowS.2 i hi).1,fun i hi=>(h.sureS.2 i hi).1⟩
theorem Disk.sectors {w d M s} (h:Disk w d M s):Calls Tryz.prog 48 #[.pointer (some ⟨d,0,none⟩)] w fun e w'=>e=.returned (.int .i64 s.now.length)∧w=w':=by
 obtain ⟨N,S,rv,np,sp,rp,h⟩:=h;exact sectors_any _ _ _ _ _ _ _ h.disk
theorem Disk.new {n:Nat} {w:World} (h0:1≤n) (h:n≤65536):Calls Tryz.prog 26 #[.int .i64 n] w fun e w'=>∃ d M,e=.returned (.tuple #[.pointer (some ⟨d,0,none⟩),.int .i64 0])∧Disk w' d M (DS.fresh n)∧Step [] M w w':=by
 refine (new_ok n w h0 h).mono ?_
 rintro e w' ⟨d,M,N,S,np,sp,rfl,hD,hO,hM⟩;exact ⟨d,M,rfl,⟨N,S,_,np,sp,_,hD⟩,hO,fun k hk=>.inr (hM k hk)⟩
theorem Disk.write {w d M s} (h:Disk w d M s) (hc0:0≤s.count) (hc1:s.count≤1099511627776) (hr:s.row.length≤1048575) (i:Int) {v:Value} {l:List UInt8} (hb:Xae w v l) (hbM:∀ a n c,v=.slice (some a) n c→a.block∉M) :
  Calls Tryz.prog 105 #[.pointer (some ⟨d,0,none⟩),.int .i64 i,v] w fun e w'=>e=.returned (.int .i64 (s.write i l).2)∧∃ M',Disk w' d M' (s.write i l).1∧Step M M' w w':=by
 obtain ⟨N,S,rv,np,sp,rp,h⟩:=h
 by_cases hno:s.err≠0∨i<0∨(s.now.length:Int)≤i∨l.length≠512
 ·obtain ⟨ao,cap,rfl,_⟩:=hb
  refine (write_no d N S rv s w h.disk hc0 hc1 h.few i ao l.length cap hno).mono ?_
  rintro e w' ⟨rfl,hb,hO⟩
  have e1:s.write i l=(s.changed,if s.err≠0 then s.err else if i<0∨(s.now.length:Int)≤i then 11 else 10):=by
   unfold DS.write
   by_cases he:s.err≠0
   ·simp [he]
   ·by_cases hi:i<0∨(s.now.length:Int)≤i
    ·simp [he,hi]
    ·have hl:l.length≠512:=hno.elim (fun a=>absurd a he) fun a=>a.elim (fun a=>absurd (.inl a) hi) fun a=>a.elim (fun a=>absurd (.inr a) hi) id
     simp [he,hi,hl]
  rw [e1];exact ⟨rfl,M,⟨N,S,rv,np,sp,rp,h.cells hO hb rfl rfl rfl⟩,hO.mono (by rw [h.foot];simp),fun k hk=>.inl hk⟩
 ·have he:s.err=0:=Classical.byContradiction fun h=>hno (.inl h)
  have hi0:¬i<0:=fun h=>hno (.inr (.inl h))
  have hi1:¬(s.now.length:Int)≤i:=fun h=>hno (.inr (.inr (.inl h)))
  have hl:l.length=512:=Classical.byContradiction fun h=>hno (.inr (.inr (.inr h)))
  obtain ⟨j,rfl⟩:=Int.eq_ofNat_of_zero_le (show 0≤i by omega)
  refine (write_yes d M N S rv s np sp rp w h hc0 hc1 (by omega) j v l hb he (by omega) hl hbM).mono ?_
  rintro e w' ⟨rfl,M',rv',np',rp',hD,hO,hM⟩
  have e1:s.write j l=({ s.changed with now:=s.now.set j l,row:=s.row++[(j,l)] },0):=by
   unfold DS.write;rw [if_neg (by simp [he]),if_neg (by omega),if_neg (by omega)];simp
  rw [e1];exact ⟨rfl,M',⟨N,S,rv',np',sp,rp',hD⟩,hO,hM⟩
def DS.read (s:DS) (i:Int):List UInt8 × Int:=if s.down then ([],13) else if i<0∨(s.now.length:Int)≤i then ([],11) else (s.now.getD i.toNat [],0)
def Fresh (w w':World) (v:Value) (l:List UInt8):Prop:=(v=.slice none 0 0∧l=[])∨(v=.slice (some ⟨w.heap.size,0,none⟩) l.length l.length∧Blk w' w.heap.size (u8s l) 5)
theorem Disk.read {w d M s} (h:Disk w d M s) (i:Int) :
  Calls Tryz.prog 114 #[.pointer (some ⟨d,0,none⟩),.int .i64 i] w fun e w'=>∃ v,e=.returned (.tuple #[v,.int .i64 (s.read i).2])∧Fresh w w' v (s.read i).1∧Only [] w w':=by
 obtain ⟨N,S,rv,np,sp,rp,h⟩:=h;unfold DS.read
 by_cases hd:s.down=true
 ·simp only [hd,if_true]
  refine (read_down _ _ _ _ _ _ _ h.disk i hd).mono ?_
  rintro e w' ⟨rfl,rfl⟩;exact ⟨_,rfl,.inl ⟨rfl,rfl⟩,Only.refl _ _⟩
 ·have hd2:s.down=false:=by simpa using hd
  by_cases hi:i<0∨(s.now.length:Int)≤i
  ·simp only [hd2,hi,if_true,Bool.false_eq_true,if_false]
   refine (read_place _ _ _ _ _ _ _ h.disk i hd2 hi).mono ?_
   rintro e w' ⟨rfl,rfl⟩;exact ⟨_,rfl,.inl ⟨rfl,rfl⟩,Only.refl _ _⟩
  ·simp only [hd2,hi,Bool.false_eq_true,if_false]
   obtain ⟨j,rfl⟩:=Int.eq_ofNat_of_zero_le (show 0≤i by omega)
   refine (read_ok h j hd2 (by omega)).mono ?_
   rintro e w' ⟨rfl,hb,hO⟩;have hl:=(h.nowS.2 j (by omega)).1;refine ⟨_,rfl,.inr ⟨?_,hb⟩,hO⟩;show _=Value.slice _ (s.now.getD j []).length (s.now.getD j []).length;rw [hl]
end D
namespace D
open Go.RowKit
theorem Blk.bytes {w:World} {b:Nat} {l:List UInt8} {t:TypeId} (h:Blk w b (u8s l) t) {n c:Nat} (hn:n=l.length):Xae w (.slice (some ⟨b,0,none⟩) n c) l:=by
 subst hn;refine ⟨_,c,rfl,fun _=>⟨b,0,rfl,fun j hj=>?_⟩⟩;rw [Yd,h.cell,Xej,Zc hj,Zf,Zc hj];rfl
theorem notIn {M:List Nat} {b:Nat} {v:Value} {n c:Nat} (hv:v=.slice (some ⟨b,0,none⟩) n c) (h:b∉M):∀ a n c,v=.slice (some a) n c→a.block∉M:=by
 intro a n' c' h2;rw [hv] at h2;simp only [Value.slice.injEq,Zw] at h2
 rw [←h2.1];exact h
theorem write_ok {s:DS} {i:Nat} {l:Xcs} (he:s.err=0) (hi:i<s.now.length) (hl:l.length=512):s.write i l=({ s.changed with now:=s.now.set i l,row:=s.row++[(i,l)] },0):=by
 unfold DS.write;rw [if_neg (by simp [he]),if_neg (by omega),if_neg (by omega)];simp
theorem Disk.write' {w d M s} (h:Disk w d M s) {i:Int} {l:Xcs} {s':DS} {r:Int} (e:s.write i l=(s',r)) (hc0:0≤s.count) (hc1:s.count≤1099511627776) (hr:s.row.length≤1048575) {v:Value} (hb:Xae w v l) (hbM:∀ a n c,v=.slice (some a) n c→a.block∉M) :
  Calls Tryz.prog 105 #[.pointer (some ⟨d,0,none⟩),.int .i64 i,v] w fun e w'=>e=.returned (.int .i64 r)∧∃ M',Disk w' d M' s'∧Step M M' w w':=by
 have:=h.write hc0 hc1 hr i hb hbM
 rw [e] at this;exact this
theorem Disk.read' {w d M s} (h:Disk w d M s) {i:Int} {l:List UInt8} {r:Int} (e:s.read i=(l,r)) :
  Calls Tryz.prog 114 #[.pointer (some ⟨d,0,none⟩),.int .i64 i] w fun e w'=>∃ v,e=.returned (.tuple #[v,.int .i64 r])∧Fresh w w' v l∧Only [] w w':=by
 have:=h.read i
 rw [e] at this;exact this
theorem Step.next {M M' M'':List Nat} {a w w':World} (h:Step M M' a w) (k:Step M' M'' w w'):Step M M'' a w' :=
 ⟨h.1.trans k.1 h.2,fun x hx=>by
  rcases k.2 x hx with h1 | h1
  ·exact h.2 x h1
  ·right;have:=h.1.size;omega⟩
theorem Step.only {M M':List Nat} {a w w':World} (h:Step M M' a w) (k:Only [] w w'):Step M M' a w':=⟨h.1.trans k (by simp),h.2⟩
theorem Step.below {M:List Nat} {w w':World} (h:Step [] M w w'):Below w.heap.size w w':=h.1.below (Zq _) (by simp)
theorem Disk.off {w d M s} (h:Disk w d M s) {e:TypeId} (h1:118≠e) (h2:200≠e) (h3:202≠e):Off e w M:=by
 obtain ⟨N,S,rv,np,sp,rp,h⟩:=h;intro k hk cs hb;rw [h.foot] at hk;simp only [Xa,Ym,Zg,Zk] at hk
 rcases hk with rfl | rfl | rfl | hk
 ·exact h.disk.ne hb h1 rfl
 ·exact h.nowB.ne hb h2 rfl
 ·exact h.sureB.ne hb h2 rfl
 ·exact Xaj h.own hb (Ne.symm h3) (by simpa using hk)
end D
end Go.Proofs.YtiijokopcgnokaaGreat
