import Derived.Test.YtiijokopcgnokaaGreatWCrc
import Derived.Test.YtiijokopcgnokaaGreatWPlain
set_option linter.unusedSimpArgs false
set_option linter.unusedVariables false
namespace Go.Proofs.YtiijokopcgnokaaGreat
namespace G
open Go Go.RowKit B C
def g (p:List UInt8) (i:Nat):Nat:=(p.getD i 0).toNat
theorem g_lt (p:List UInt8) (i:Nat):g p i<256:=(p.getD i 0).toNat_lt
theorem g_get {p:List UInt8} {i:Nat} (h:i<p.length):g p i=p[i].toNat:=by
 unfold g;rw [Zf,Zc h];rfl
theorem ext_g {p q:List UInt8} (hl:p.length=q.length) (h:∀ i,i<p.length→g p i=g q i):p=q:=by
 apply List.ext_getElem hl
 intro i h1 h2;have:=h i h1;rw [g_get h1,g_get h2] at this;exact UInt8.toNat_inj.1 this
theorem Xms (p q:List UInt8) (i:Nat):g (p++q) i=if i<p.length then g p i else g q (i-p.length):=by
 unfold g;rw [Zf,List.getElem?_append];split
 ·rw [Zf]
 ·rw [Zf]
theorem Xjx (p:List UInt8) (n i:Nat):g (p.take n) i=if i<n then g p i else 0:=by
 unfold g;rw [Zf,Yq];split
 ·rw [Zf]
 ·rfl
theorem Xit (p:List UInt8) (n i:Nat):g (p.drop n) i=g p (n+i):=by
 unfold g;rw [Zf,Xh,Zf]
def over (p:List UInt8) (at_:Nat) (b:List UInt8):List UInt8:=p.take at_++b++p.drop (at_+b.length)
theorem Xeo {p b:List UInt8} {at_:Nat} (h:at_+b.length≤p.length):(over p at_ b).length=p.length:=by
 unfold over;simp;omega
theorem g_over {p b:List UInt8} {at_:Nat} (h:at_+b.length≤p.length) (i:Nat):g (over p at_ b) i=if at_≤i∧i<at_+b.length then g b (i-at_) else g p i:=by
 unfold over;rw [Zu,Xms,Xms,Xjx,Xit]
 have e:(p.take at_).length=at_:=by rw [Zj];omega
 rw [e]
 by_cases h1:i<at_
 ·rw [if_pos h1,if_pos h1,if_neg (by omega)]
 ·rw [if_neg h1]
  by_cases h2:i-at_<b.length
  ·rw [if_pos h2,if_pos (by omega)]
  ·rw [if_neg h2,if_neg (by omega)]
   congr 1;omega
def two (p:List UInt8) (at_:Nat):Nat:=g p at_+256*g p (at_+1)
theorem Xkv (p:List UInt8) (at_:Nat):two p at_<65536:=by
 have h1:=g_lt p at_;have h2:=g_lt p (at_+1)
 unfold two;omega
theorem Xbj {p q:List UInt8} {at_:Nat} (h1:g p at_=g q at_) (h2:g p (at_+1)=g q (at_+1)):two p at_=two q at_:=by unfold two;rw [h1,h2]
theorem two_zero {p:List UInt8} {at_:Nat} (h:two p at_=0):g p at_=0∧g p (at_+1)=0:=by unfold two at h;omega
def put (p:List UInt8) (at_ n:Nat):List UInt8:=over p at_ (le n 2)
theorem le_two (n:Nat):g (le n 2) 0=n % 256∧g (le n 2) 1=n / 256 % 256:=by
 have h0:=le_cell n 0;have h1:=le_cell n 1;have e:le n 2=[UInt8.ofNat (n / 2 ^ (8*0) % 256),UInt8.ofNat (n / 2 ^ (8*1) % 256)]:=rfl;rw [e]
 constructor
 ·show (UInt8.ofNat (n / 2 ^ (8*0) % 256)).toNat=_
  simp
 ·show (UInt8.ofNat (n / 2 ^ (8*1) % 256)).toNat=_
  simp
theorem Xdd {p:List UInt8} {at_:Nat} (n:Nat) (h:at_+2≤p.length):(put p at_ n).length=p.length:=Xeo (by rw [Xay];exact h)
theorem g_put {p:List UInt8} {at_ n:Nat} (h:at_+2≤p.length) (hn:n<65536) (i:Nat):g (put p at_ n) i=if i=at_ then n % 256 else if i=at_+1 then n / 256 else g p i:=by
 unfold put;rw [g_over (by rw [Xay];exact h),Xay]
 by_cases h1:i=at_
 ·subst h1
  rw [if_pos (by omega),if_pos rfl,Wd];exact (le_two n).1
 ·rw [if_neg h1]
  by_cases h2:i=at_+1
  ·subst h2
   rw [if_pos (by omega),if_pos rfl,show at_+1-at_=1 by omega,(le_two n).2];omega
  ·rw [if_neg (by omega),if_neg h2]
theorem Xnu {p:List UInt8} {at_ n:Nat} (h:at_+2≤p.length) (hn:n<65536):two (put p at_ n) at_=n:=by
 unfold two;rw [g_put h hn,g_put h hn,if_pos rfl,if_neg (by omega),if_pos rfl];omega
theorem Xdx {p:List UInt8} {at_ n b:Nat} (h:at_+2≤p.length) (hn:n<65536) (hb:b+2≤at_∨at_+2≤b):two (put p at_ n) b=two p b:=by
 unfold two;rw [g_put h hn,g_put h hn,if_neg (by omega),if_neg (by omega),if_neg (by omega),if_neg (by omega)]
def Xaz (p:List UInt8):List UInt8:=le (sum (p.drop 4)) 4++p.drop 4
theorem Xmb {p:List UInt8} (h:4≤p.length):(Xaz p).length=p.length:=by
 unfold Xaz;rw [Ze,Xay,Zy];omega
theorem Xiz {p:List UInt8} {i:Nat} (h:4≤i):g (Xaz p) i=g p i:=by
 unfold Xaz
 rw [Xms,Xay,if_neg (by omega),Xit];congr 1;omega
theorem sealed_drop (p:List UInt8):(Xaz p).drop 4=p.drop 4:=by
 unfold Xaz;rw [List.drop_append_of_le_length (by rw [Xay];exact Zq _),Xq (by rw [Xay];exact Zq _),Ym]
theorem Xpk (p:List UInt8):Xaz (Xaz p)=Xaz p:=by
 show le (sum ((Xaz p).drop 4)) 4++(Xaz p).drop 4=_
 rw [sealed_drop];rfl
def nS (p:List UInt8):Nat:=two p 6
def bg (p:List UInt8):Nat:=two p 8
def sP (p:List UInt8) (i:Nat):Nat:=two p (10+4*i)
def sL (p:List UInt8) (i:Nat):Nat:=two p (12+4*i)
def cells (p:List UInt8):List (Nat × Nat):=(List.range (nS p)).map fun i=>(sP p i,sL p i)
theorem Xbx (p:List UInt8):(cells p).length=nS p:=by simp [cells]
theorem Xdz {p:List UInt8} {i:Nat} (h:i<(cells p).length):(cells p)[i]=(sP p i,sL p i):=by simp [cells]
def used (c:Nat × Nat):Bool:=c.1 != 0
def goodC (c:Nat × Nat):Prop:=(c.1=0→c.2=0)∧(c.1≠0→1≤c.2)∧c.2≤400
def chain : Nat→List (Nat × Nat)→Prop
 | e,[]=>e=512
 | e,c :: r=>c.1=e∧chain (e+c.2) r
def sumC : List (Nat × Nat)→Nat
 | []=>0
 | c :: r=>c.2+sumC r
theorem Xoe : ∀ {l:List (Nat × Nat)} {e:Nat},chain e l→e+sumC l=512
 | [],e,h=>h
 | c :: r,e,h=>by have:=Xoe h.2;simp only [sumC];omega
structure Body (p:List UInt8):Prop where
 len:p.length=512
 zero:g p 5=0
 most:nS p≤125
 fit:10+4*nS p≤bg p
 fin:bg p≤512
 good:∀ c∈cells p,goodC c
 row:∃ l,l.Perm ((cells p).filter used)∧chain (bg p) l
 last:0<nS p→sP p (nS p-1)≠0
 gap:∀ i,10+4*nS p≤i→i<bg p→g p i=0
structure Pg (p:List UInt8):Prop where
 body:Body p
 sums:Xaz p=p
theorem cells_congr {p q:List UInt8} (h:∀ i,4≤i→g p i=g q i):cells p=cells q:=by
 have e:nS p=nS q:=Xbj (h _ (by omega)) (h _ (by omega));unfold cells;rw [e]
 apply Xc
 intro i _;unfold sP sL;rw [Xbj (h _ (by omega)) (h _ (by omega)),Xbj (h _ (by omega)) (h _ (by omega))]
theorem Body.congr {p q:List UInt8} (hb:Body p) (hl:q.length=512) (h:∀ i,4≤i→g p i=g q i):Body q:=by
 have e:nS p=nS q:=Xbj (h _ (by omega)) (h _ (by omega));have e2:bg p=bg q:=Xbj (h _ (by omega)) (h _ (by omega))
 have e3:∀ i,sP p i=sP q i:=fun i=>Xbj (h _ (by omega)) (h _ (by omega))
 have ec:=cells_congr h;exact ⟨hl,by rw [←h 5 (by omega)];exact hb.zero,by rw [←e];exact hb.most,by rw [←e,←e2];exact hb.fit,by rw [←e2];exact hb.fin,by rw [←ec];exact hb.good,by rw [←ec,←e2];exact hb.row,by rw [←e,←e3];exact hb.last,fun i h1 h2=>by rw [←h i (by omega)];exact hb.gap i (by omega) (by omega)⟩
theorem Body.sealed {p:List UInt8} (hb:Body p):Pg (Xaz p) :=
 ⟨hb.congr (by rw [Xmb (by rw [hb.len];omega),hb.len]) (fun i hi=>(Xiz hi).symm),Xpk p⟩
open Classical in
noncomputable def ok (p:List UInt8):Bool:=decide (Pg p)
theorem Xfv {p:List UInt8}:ok p=true↔Pg p:=by unfold ok;simp
theorem ok_no {p:List UInt8}:ok p=false↔¬Pg p:=by unfold ok;simp
end G
namespace G
open Go
open Classical in
noncomputable def laidB (cs:List (Nat × Nat)) (b:Nat):Bool:=decide ((∀ c∈cs,goodC c)∧∃ l,l.Perm (cs.filter used)∧chain b l)
theorem Xhi {cs:List (Nat × Nat)} {b:Nat}:laidB cs b=true↔(∀ c∈cs,goodC c)∧∃ l,l.Perm (cs.filter used)∧chain b l:=by unfold laidB;simp
theorem Xmv {cs:List (Nat × Nat)} {b:Nat} {c:Nat × Nat} (hc:c∈cs) (h:¬goodC c):laidB cs b=false:=by
 rw [Bool.eq_false_iff];intro h2;exact h ((Xhi.1 h2).1 c hc)
theorem chain_ge : ∀ {l:List (Nat × Nat)} {e:Nat},chain e l→∀ c∈l,e≤c.1
 | [],e,h,c,hc=>by cases hc
 | x :: r,e,h,c,hc=>by
  rcases Zg.1 hc with rfl | hc
  ·exact Nat.le_of_eq h.1.symm
  ·have:=chain_ge h.2 c hc;omega
theorem Xiq : ∀ {l:List (Nat × Nat)} {e:Nat},chain e l→(∀ c∈l,1≤c.2)→l.Pairwise fun a b=>a.1<b.1
 | [],e,h,hl=>List.Pairwise.nil
 | x :: r,e,h,hl=>by
  refine List.Pairwise.cons (fun c hc=>?_) (Xiq h.2 fun c hc=>hl c (Yg _ hc));have h1:=chain_ge h.2 c hc;have h2:=hl x (by simp);have h3:=h.1;omega
theorem laid_sorted {cs l:List (Nat × Nat)} {b:Nat} (hg:∀ c∈cs,goodC c) (hp:l.Perm (cs.filter used)) (hs:l.Pairwise fun a b=>a.1≤b.1):(laidB cs b=true)↔chain b l:=by
 rw [Xhi]
 constructor
 ·rintro ⟨_,k,hk,hc⟩
  have hlen:∀ c∈k,1≤c.2:=fun c hcm=>by
   have:=Yp.1 (hk.mem_iff.1 hcm);exact (hg c this.1).2.1 (by simpa [used] using this.2)
  have hks:=Xiq hc hlen
  have hkn:∀ x∈k,∀ y∈k,x.1=y.1→x=y:=by
   intro x hx y hy e;obtain ⟨i,hi,rfl⟩:=List.mem_iff_getElem.1 hx;obtain ⟨j,hj,rfl⟩:=List.mem_iff_getElem.1 hy;have hpw:=Yy.1 hks
   rcases Wr i j with h | h | h
   ·have:=hpw i j hi hj h;omega
   ·subst h;rfl
   ·have:=hpw j i hj hi h;omega
  have he:k=l:=by
   have hkl:=hk.trans hp.symm;refine List.Perm.eq_of_pairwise (le:=fun a b:Nat × Nat=>a.1≤b.1) (fun x y hx hy h1 h2=>hkn x hx y (hkl.mem_iff.2 hy) (by omega)) (hks.imp fun h=>Nat.le_of_lt h) hs hkl
  rw [←he];exact hc
 ·intro hc
  exact ⟨hg,l,hp,hc⟩
end G
namespace G
open Go Go.RowKit B C
structure Core (p:List UInt8):Prop where
 len:p.length=512
 zero:g p 5=0
 most:nS p≤125
 fit:10+4*nS p≤bg p
 fin:bg p≤512
 good:∀ c∈cells p,goodC c
 row:∃ l,l.Perm ((cells p).filter used)∧chain (bg p) l
 gap:∀ i,10+4*nS p≤i→i<bg p→g p i=0
theorem Body.core {p:List UInt8} (h:Body p):Core p:=⟨h.len,h.zero,h.most,h.fit,h.fin,h.good,h.row,h.gap⟩
theorem Core.body {p:List UInt8} (h:Core p) (hl:0<nS p→sP p (nS p-1)≠0):Body p:=⟨h.len,h.zero,h.most,h.fit,h.fin,h.good,h.row,hl,h.gap⟩
theorem Xoz {p:List UInt8} {i:Nat} (h:i<nS p):(sP p i,sL p i)∈cells p:=Zi.2 ⟨i,Ww.2 h,rfl⟩
theorem Xiv {p:List UInt8} {c:Nat × Nat} (h:c∈cells p):∃ i,i<nS p∧c=(sP p i,sL p i):=by
 obtain ⟨i,hi,rfl⟩:=Zi.1 h;exact ⟨i,Ww.1 hi,rfl⟩
theorem Core.goodAt {p:List UInt8} (h:Core p) {i:Nat} (hi:i<nS p):(sP p i=0→sL p i=0)∧(sP p i≠0→1≤sL p i)∧sL p i≤400:=h.good _ (Xoz hi)
theorem goodP {p:List UInt8} (h:∀ i,i<nS p→goodC (sP p i,sL p i)):∀ c∈cells p,goodC c:=fun c hc=>by
 obtain ⟨i,hi,rfl⟩:=Xiv hc;exact h i hi
def apart (a b:Nat × Nat):Prop:=a.1+a.2≤b.1∨b.1+b.2≤a.1
theorem chain_in : ∀ {l:List (Nat × Nat)} {e:Nat},chain e l→∀ c∈l,e≤c.1∧c.1+c.2≤512
 | [],e,h,c,hc=>by cases hc
 | x :: r,e,h,c,hc=>by
  have hs:=Xoe h.2
  rcases Zg.1 hc with rfl | hc
  ·have:=h.1;omega
  ·have:=chain_in h.2 c hc;omega
theorem Core.in_ {p:List UInt8} (h:Core p) {i:Nat} (hi:i<nS p) (h1:sP p i≠0):bg p≤sP p i∧sP p i+sL p i≤512:=by
 obtain ⟨l,hp,hc⟩:=h.row;exact chain_in hc _ (hp.mem_iff.2 (Yp.2 ⟨Xoz hi,by simp [used,h1]⟩))
def cutP (p:List UInt8) (at_ n:Nat):List UInt8:=(p.drop at_).take n
def ct (p:List UInt8) (k:Nat):Option (List UInt8):=if k<nS p∧sP p k≠0 then some (cutP p (sP p k) (sL p k)) else none
theorem Xjt {p q:List UInt8} {a b n:Nat} (hp:a+n≤p.length) (hq:b+n≤q.length) (h:∀ t,t<n→g p (a+t)=g q (b+t)):cutP p a n=cutP q b n:=by
 unfold cutP
 refine ext_g (by simp;omega) fun t ht=>?_
 have ht:t<n:=by simp at ht;omega
 rw [Xjx,Xjx,if_pos ht,if_pos ht,Xit,Xit,h t ht]
theorem cut_eq {p b:List UInt8} {a:Nat} (hp:a+b.length≤p.length) (h:∀ t,t<b.length→g p (a+t)=g b t):cutP p a b.length=b:=by
 unfold cutP
 refine ext_g (by simp;omega) fun t ht=>?_
 have ht:t<b.length:=by simp at ht;omega
 rw [Xjx,if_pos ht,Xit,h t ht]
theorem Xdn {p:List UInt8} {k:Nat}:ct p k=none↔¬(k<nS p∧sP p k≠0):=by
 unfold ct
 split <;> simp_all
theorem Xes {p:List UInt8} {k:Nat} (h:k<nS p) (h2:sP p k≠0):ct p k=some (cutP p (sP p k) (sL p k)):=if_pos ⟨h,h2⟩
theorem filter_set {cs:List (Nat × Nat)} {i:Nat} {c:Nat × Nat} (hi:i<cs.length) (hu:used cs[i]=false) (hc:used c=true):((cs.set i c).filter used).Perm (c :: cs.filter used):=by
 induction cs generalizing i with
 | nil=>simp at hi
 | cons x r ih =>
  cases i with
  | zero =>
   simp only [List.getElem_cons_zero] at hu
   simp [hu,hc]
  | succ i =>
   simp only [List.getElem_cons_succ] at hu;simp only [qSs,List.filter_cons];have:=ih (by simpa using hi) hu
   by_cases hx:used x=true
   ·rw [if_pos hx,if_pos hx]
    exact (this.cons x).trans (List.Perm.swap c x _)
   ·rw [if_neg hx,if_neg hx]
    exact this
def layP (p:List UInt8) (i:Nat) (b:List UInt8):List UInt8:=put (put (put (over p (bg p-b.length) b) 8 (bg p-b.length)) (10+4*i) (bg p-b.length)) (12+4*i) b.length
section
variable {p b : List UInt8} {i : Nat} (hl : p.length = 512) (hb : b.length ≤ 512) (hf : 14 + 4 * i + b.length ≤ bg p) (he : bg p ≤ 512)
include hl hb hf he
theorem lay_len : (layP p i b).length=512:=by
 have h1:(over p (bg p-b.length) b).length=512:=by rw [Xeo (by omega)];exact hl
 have h2:(put (over p (bg p-b.length) b) 8 (bg p-b.length)).length=512:=by rw [Xdd _ (by omega)];exact h1
 have h3:(put (put (over p (bg p-b.length) b) 8 (bg p-b.length)) (10+4*i) (bg p-b.length)).length=512:=by rw [Xdd _ (by omega)];exact h2
 unfold layP
 rw [Xdd _ (by omega)];exact h3
theorem g_lay (j:Nat) (h8:j≠8) (h9:j≠9) (hi:j<10+4*i∨14+4*i≤j):g (layP p i b) j=if bg p-b.length≤j∧j<bg p then g b (j-(bg p-b.length)) else g p j:=by
 have h1:(over p (bg p-b.length) b).length=512:=by rw [Xeo (by omega)];exact hl
 have h2:(put (over p (bg p-b.length) b) 8 (bg p-b.length)).length=512:=by rw [Xdd _ (by omega)];exact h1
 have h3:(put (put (over p (bg p-b.length) b) 8 (bg p-b.length)) (10+4*i) (bg p-b.length)).length=512:=by rw [Xdd _ (by omega)];exact h2
 unfold layP;rw [g_put (by omega) (by omega),if_neg (by omega),if_neg (by omega),g_put (by omega) (by omega),if_neg (by omega),if_neg (by omega),g_put (by omega) (by omega),if_neg (by omega),if_neg (by omega),g_over (by omega)]
 by_cases h:bg p-b.length≤j∧j<bg p
 ·rw [if_pos h,if_pos (by omega)]
 ·rw [if_neg h,if_neg (by omega)]
theorem lay_eight : two (layP p i b) 8=bg p-b.length:=by
 have h1:(over p (bg p-b.length) b).length=512:=by rw [Xeo (by omega)];exact hl
 have h2:(put (over p (bg p-b.length) b) 8 (bg p-b.length)).length=512:=by rw [Xdd _ (by omega)];exact h1
 have h3:(put (put (over p (bg p-b.length) b) 8 (bg p-b.length)) (10+4*i) (bg p-b.length)).length=512:=by rw [Xdd _ (by omega)];exact h2
 unfold layP;rw [Xdx (by omega) (by omega) (by omega),Xdx (by omega) (by omega) (by omega),Xnu (by omega) (by omega)]
theorem lay_place : sP (layP p i b) i=bg p-b.length:=by
 have h1:(over p (bg p-b.length) b).length=512:=by rw [Xeo (by omega)];exact hl
 have h2:(put (over p (bg p-b.length) b) 8 (bg p-b.length)).length=512:=by rw [Xdd _ (by omega)];exact h1
 have h3:(put (put (over p (bg p-b.length) b) 8 (bg p-b.length)) (10+4*i) (bg p-b.length)).length=512:=by rw [Xdd _ (by omega)];exact h2
 unfold layP sP;rw [Xdx (by omega) (by omega) (by omega),Xnu (by omega) (by omega)]
theorem lay_length : sL (layP p i b) i=b.length:=by
 have h1:(over p (bg p-b.length) b).length=512:=by rw [Xeo (by omega)];exact hl
 have h2:(put (over p (bg p-b.length) b) 8 (bg p-b.length)).length=512:=by rw [Xdd _ (by omega)];exact h1
 have h3:(put (put (over p (bg p-b.length) b) 8 (bg p-b.length)) (10+4*i) (bg p-b.length)).length=512:=by rw [Xdd _ (by omega)];exact h2
 unfold layP sL;rw [Xnu (by omega) (by omega)]
theorem lay_slot {k:Nat} (hk:k≠i) (hkn:14+4*k+b.length≤bg p):sP (layP p i b) k=sP p k∧sL (layP p i b) k=sL p k:=by
 have G:=g_lay hl hb hf he;unfold sP sL;refine ⟨Xbj ?_ ?_,Xbj ?_ ?_⟩
 all_goals rw [G _ (by omega) (by omega) (by omega),if_neg (by omega)]
theorem lay_count : nS (layP p i b)=nS p:=by
 have G:=g_lay hl hb hf he;unfold nS
 refine Xbj ?_ ?_
 all_goals rw [G _ (by omega) (by omega) (by omega),if_neg (by omega)]
end
theorem cells_of {p:List UInt8} {l:List (Nat × Nat)} (hl:l.length=nS p) (h:∀ i,i<nS p→l[i]?=some (sP p i,sL p i)):cells p=l:=by
 apply List.ext_getElem
 ·rw [Xbx,hl]
 ·intro i h1 h2
  rw [Xdz];have:=h i (by rw [Xbx] at h1;exact h1)
  rw [Zc h2] at this;exact (Option.some.inj this).symm
structure Laid (p:List UInt8) (i:Nat) (b q:List UInt8):Prop where
 core:Core q
 count:nS q=nS p
 beg:bg q=bg p-b.length
 kind:g q 4=g p 4
 mine:ct q i=some b
 rest:∀ k,k≠i→ct q k=ct p k
 place:sP q i≠0
 far:∀ k,k<nS p→k≠i→sP q k=sP p k∧sL q k=sL p k
theorem Core.lay {p b:List UInt8} {i:Nat} (h:Core p) (hi:i<nS p) (h0:sP p i=0) (hb1:1≤b.length) (hb2:b.length≤400) (hf:10+4*nS p+b.length≤bg p):Laid p i b (layP p i b):=by
 have hl:=h.len;have he:=h.fin
 have hb:b.length≤512:=by omega
 have hf':14+4*i+b.length≤bg p:=by omega
 have L:=lay_len hl hb hf' he;have G:=g_lay hl hb hf' he;have E:=lay_eight hl hb hf' he;have P:=lay_place hl hb hf' he;have Q:=lay_length hl hb hf' he
 have S:=fun k (hk:k≠i) (hkn:k<nS p)=>lay_slot hl hb hf' he hk (by omega)
 have N:=lay_count hl hb hf' he;have hsl:sL p i=0:=(h.goodAt hi).1 h0;have hbg:bg (layP p i b)=bg p-b.length:=E
 have hC:cells (layP p i b)=(cells p).set i (bg p-b.length,b.length):=by
  refine cells_of (by rw [Yz,Xbx,N]) fun k hk=>?_
  rw [N] at hk
  by_cases hki:k=i
  ·subst hki
   rw [Yr (by rw [Xbx];exact hk),P,Q]
  ·rw [Zv (fun e=>hki e.symm),Zc (by rw [Xbx];exact hk),Xdz,(S k hki hk).1,(S k hki hk).2]
 have hcore:Core (layP p i b):=by
  refine ⟨L,?_,by rw [N];exact h.most,by rw [N,hbg];omega,by rw [hbg];omega,?_,?_,?_⟩
  ·rw [G 5 (by omega) (by omega) (by omega),if_neg (by omega)];exact h.zero
  ·refine goodP fun k hk=>?_
   rw [N] at hk
   by_cases hki:k=i
   ·subst hki
    rw [P,Q];exact ⟨fun hz=>by have:bg p-b.length=0:=hz;omega,fun _=>hb1,hb2⟩
   ·rw [(S k hki hk).1,(S k hki hk).2]
    exact h.goodAt hk
  ·obtain ⟨l,hp,hc⟩:=h.row
   refine ⟨(bg p-b.length,b.length) :: l,?_,?_⟩
   ·rw [hC]
    refine (List.Perm.cons _ hp).trans (filter_set (by rw [Xbx];exact hi) ?_ ?_).symm
    ·rw [Xdz];simp [used,h0]
    ·simp only [used,bne_iff_ne];omega
   ·rw [hbg]
    refine ⟨rfl,?_⟩;show chain (bg p-b.length+b.length) l
    rw [Nat.sub_add_cancel (by omega)];exact hc
  ·intro j h1 h2
   rw [N] at h1;rw [hbg] at h2;rw [G j (by omega) (by omega) (by omega),if_neg (by omega)];exact h.gap j h1 (by omega)
 refine ⟨hcore,N,hbg,by rw [G 4 (by omega) (by omega) (by omega),if_neg (by omega)],?_,?_,by rw [P];omega,fun k hk hki=>S k hki hk⟩
 ·rw [Xes (by rw [N];exact hi) (by rw [P];omega),P,Q]
  congr 1
  refine cut_eq (by rw [L];omega) fun t ht=>?_
  rw [G _ (by omega) (by omega) (by omega),if_pos (by omega)]
  congr 1;omega
 ·intro k hki
  by_cases hk:k<nS p
  ·by_cases hz:sP p k=0
   ·rw [Xdn.2 (by rw [(S k hki hk).1];simp [hz]),Xdn.2 (by simp [hz])]
   ·obtain ⟨hi1,hi2⟩:=h.in_ hk hz
    rw [Xes hk hz,Xes (by rw [N];exact hk) (by rw [(S k hki hk).1];exact hz),(S k hki hk).1,(S k hki hk).2];congr 1
    refine Xjt (by rw [L];exact hi2) (by rw [hl];exact hi2) fun t ht=>?_
    rw [G _ (by omega) (by omega) (by omega),if_neg (by omega)]
  ·rw [Xdn.2 (by rw [N];simp [hk]),Xdn.2 (by simp [hk])]
end G
namespace G
open Go Go.RowKit B C
section
variable {p : List UInt8} {m : Nat} (hl : p.length = 512)
include hl
theorem six_len : (put p 6 m).length=512:=by rw [Xdd _ (by omega)];exact hl
variable (hm : m < 65536)
include hm
theorem six_count : nS (put p 6 m)=m:=Xnu (by omega) hm
theorem six_far (i:Nat) (h6:i≠6) (h7:i≠7):g (put p 6 m) i=g p i:=by rw [g_put (by omega) hm,if_neg h6,if_neg (by omega)]
theorem six_bg : bg (put p 6 m)=bg p:=Xdx (by omega) hm (by omega)
theorem six_place (i:Nat):sP (put p 6 m) i=sP p i:=Xdx (by omega) hm (by omega)
theorem six_length (i:Nat):sL (put p 6 m) i=sL p i:=Xdx (by omega) hm (by omega)
end
structure Wide (p:List UInt8) (m:Nat) (q:List UInt8):Prop where
 core:Core q
 count:nS q=m
 beg:bg q=bg p
 kind:g q 4=g p 4
 rest:∀ k,ct q k=ct p k
 place:∀ k,sP q k=sP p k
 long:∀ k,sL q k=sL p k
theorem zero_four {p:List UInt8} {k:Nat} (h1:sP p k=0) (h2:sL p k=0) (r:Nat) (hr:r<4):g p (10+4*k+r)=0:=by
 obtain ⟨a,b⟩:=two_zero h1;obtain ⟨c,d⟩:=two_zero h2
 have e1:12+4*k=10+4*k+2:=by omega
 rw [e1] at c d
 match r,hr with
 | 0,_=>exact a
 | 1,_=>exact b
 | 2,_=>exact c
 | 3,_=>exact d
theorem Core.wide {p:List UInt8} {m:Nat} (h:Core p) (hm:m≤125) (hf:10+4*m≤bg p) (hz:∀ k,m≤k→k<nS p→sP p k=0):Wide p m (put p 6 m):=by
 have hl:=h.len
 have hmm:m<65536:=by omega
 have L:=six_len (m:=m) hl;have N:=six_count hl hmm;have F:=six_far hl hmm;have B:=six_bg hl hmm;have P:=six_place hl hmm;have Q:=six_length hl hmm;have hfin:=h.fin;have hfit:=h.fit
 have hgap2:∀ k,nS p≤k→k<m→sP p k=0∧sL p k=0:=fun k h1 h2=>by
  have hg:=h.gap;unfold sP sL two;rw [hg _ (by omega) (by omega),hg _ (by omega) (by omega),hg _ (by omega) (by omega),hg _ (by omega) (by omega)];exact ⟨rfl,rfl⟩
 have hcf:(cells (put p 6 m)).filter used=(cells p).filter used:=by
  have hext:∀ a b:Nat,a≤b→(∀ k,a≤k→k<b→sP p k=0)→((List.range b).map fun i=>(sP p i,sL p i)).filter used=((List.range a).map fun i=>(sP p i,sL p i)).filter used:=by
   intro a b hab h0;obtain ⟨d,rfl⟩:∃ d,b=a+d:=⟨b-a,by omega⟩;clear hab
   induction d with
   | zero=>rfl
   | succ d ih =>
    rw [show a+(d+1)=a+d+1 by omega,List.range_succ,Zs,List.filter_append,ih (fun k h1 h2=>h0 k h1 (by omega))]
    simp [used,h0 (a+d) (by omega) (by omega)]
  have hc:cells (put p 6 m)=(List.range m).map fun i=>(sP p i,sL p i):=by
   unfold cells;rw [N]
   exact Xc fun i _=>by rw [P,Q]
  rw [hc];unfold cells
  rcases Nat.le_total m (nS p) with h1 | h1
  ·exact (hext m (nS p) h1 hz).symm
  ·exact hext (nS p) m h1 fun k h1 h2=>(hgap2 k h1 h2).1
 refine ⟨⟨L,by rw [F 5 (by omega) (by omega)];exact h.zero,by rw [N];exact hm,by rw [N,B];exact hf,by rw [B];exact hfin,?_,?_,?_⟩,N,B,F 4 (by omega) (by omega),?_,P,Q⟩
 ·refine goodP fun k hk=>?_
  rw [N] at hk;rw [P,Q]
  by_cases hkn:k<nS p
  ·exact h.goodAt hkn
  ·obtain ⟨h1,h2⟩:=hgap2 k (by omega) hk
   rw [h1,h2];exact ⟨fun _=>rfl,fun hz=>absurd rfl hz,by omega⟩
 ·obtain ⟨l,hp,hc⟩:=h.row
  exact ⟨l,by rw [hcf];exact hp,by rw [B];exact hc⟩
 ·intro j h1 h2
  rw [N] at h1;rw [B] at h2;rw [F j (by omega) (by omega)]
  by_cases hj:10+4*nS p≤j
  ·exact h.gap j hj h2
  ·have hk:(j-10) / 4<nS p:=by omega
   have hz1:=hz ((j-10) / 4) (by omega) hk;have:=zero_four hz1 ((h.goodAt hk).1 hz1) ((j-10) % 4) (by omega);rw [show 10+4*((j-10) / 4)+(j-10) % 4=j by omega] at this;exact this
 ·intro k
  have hcut:∀ a n,bg p≤a→a+n≤512→cutP (put p 6 m) a n=cutP p a n:=fun a n h1 h2=>Xjt (by rw [L];exact h2) (by rw [hl];exact h2) fun t ht=>F _ (by omega) (by omega)
  by_cases hk:k<nS p∧sP p k≠0
  ·obtain ⟨hk,hk0⟩:=hk
   have hkm:k<m:=by
    rcases Yv k m with h1 | h1
    ·exact h1
    ·exact absurd (hz k h1 hk) hk0
   obtain ⟨h1,h2⟩:=h.in_ hk hk0;rw [Xes hk hk0,Xes (by rw [N];exact hkm) (by rw [P];exact hk0),P,Q,hcut _ _ h1 h2]
  ·rw [Xdn.2 hk,Xdn.2 ?_]
   rw [N,P];rintro ⟨h1,h2⟩
   by_cases hkn:k<nS p
   ·exact hk ⟨hkn,h2⟩
   ·exact h2 (hgap2 k (by omega) h1).1
def freeS (p:List UInt8):Nat:=(cells p).findIdx fun c=>c.1 == 0
theorem Xfb (p:List UInt8):freeS p≤nS p:=by
 have:=List.findIdx_le_length (xs:=cells p) (p:=fun c=>c.1 == 0)
 rw [Xbx] at this;exact this
theorem freeS_used {p:List UInt8} {k:Nat} (h:k<freeS p):sP p k≠0:=by
 have h2:=Xfb p;have:=List.not_of_lt_findIdx h;rw [Xdz] at this
 simpa using this
theorem Xln {p:List UInt8} (h:freeS p<nS p):sP p (freeS p)=0:=by
 have:=Vg (xs:=cells p) (p:=fun c=>c.1 == 0) (w:=by rw [Xbx];exact h);rw [Xdz] at this;show sP p (List.findIdx (fun c=>c.1 == 0) (cells p))=0
 simpa using this
def freeB (p:List UInt8):Nat:=bg p-10-4*nS p
def need (p b:List UInt8):Nat:=if freeS p<nS p then b.length else b.length+4
noncomputable def insE (p b:List UInt8):Nat:=if ok p=false then 40 else if b.length<1∨400<b.length then 43 else if freeB p<need p b∨freeS p=125 then 42 else 0
def insP (p b:List UInt8):List UInt8:=Xaz (layP (put p 6 (max (nS p) (freeS p+1))) (freeS p) b)
structure Ins (p b q:List UInt8):Prop where
 pg:Pg q
 count:nS q=max (nS p) (freeS p+1)
 beg:bg q=bg p-b.length
 kind:g q 4=g p 4
 mine:ct q (freeS p)=some b
 rest:∀ k,k≠freeS p→ct q k=ct p k
theorem Xpl {p:List UInt8} (h:Core p) (k:Nat):ct (Xaz p) k=ct p k:=by
 have hl:=h.len
 have hg:∀ i,4≤i→g (Xaz p) i=g p i:=fun i hi=>Xiz hi
 have N:nS (Xaz p)=nS p:=Xbj (hg _ (by omega)) (hg _ (by omega));have P:sP (Xaz p) k=sP p k:=Xbj (hg _ (by omega)) (hg _ (by omega));have Q:sL (Xaz p) k=sL p k:=Xbj (hg _ (by omega)) (hg _ (by omega))
 by_cases hk:k<nS p∧sP p k≠0
 ·obtain ⟨h1,h2⟩:=h.in_ hk.1 hk.2
  have hfit:=h.fit;rw [Xes hk.1 hk.2,Xes (by rw [N];exact hk.1) (by rw [P];exact hk.2),P,Q]
  congr 1
  refine Xjt (by rw [Xmb (by omega),hl];exact h2) (by rw [hl];exact h2) fun t ht=>hg _ (by omega)
 ·rw [Xdn.2 hk,Xdn.2 (by rw [N,P];exact hk)]
theorem insE_ok {p b:List UInt8} (h:insE p b=0):Pg p∧1≤b.length∧b.length≤400∧need p b≤freeB p∧freeS p≠125:=by
 unfold insE at h;split at h
 ·cases h
 split at h
 ·cases h
 split at h
 ·cases h
 rename_i h1 h2 h3
 simp only [not_or,Nat.not_lt] at h2 h3;exact ⟨Xfv.1 (by simpa using h1),h2.1,h2.2,h3.1,h3.2⟩
theorem ins_wide {p b:List UInt8} (h:Pg p) (hn:need p b≤freeB p) (hf:freeS p≠125) (hb:1≤b.length) :
  Wide p (max (nS p) (freeS p+1)) (put p 6 (max (nS p) (freeS p+1)))∧sP p (freeS p)=0∧10+4*max (nS p) (freeS p+1)+b.length≤bg p:=by
 have hc:=h.body.core;have hle:=Xfb p;have hfit:=hc.fit;have hmost:=hc.most;have hfin:=hc.fin;unfold need freeB at hn
 by_cases hlt:freeS p<nS p
 ·rw [if_pos hlt] at hn
  have e:max (nS p) (freeS p+1)=nS p:=by omega
  rw [e];exact ⟨hc.wide hmost hfit (fun k h1 h2=>by omega),Xln hlt,by omega⟩
 ·rw [if_neg hlt] at hn
  have e:freeS p=nS p:=by omega
  have e2:max (nS p) (freeS p+1)=nS p+1:=by omega
  have hW:=hc.wide (m:=nS p+1) (by omega) (by omega) (fun k h1 h2=>by omega);rw [e2];refine ⟨hW,?_,by omega⟩;rw [e];have hg:=hc.gap;unfold sP two;rw [hg _ (by omega) (by omega),hg _ (by omega) (by omega)]
theorem ins_lay {p b:List UInt8} (h:insE p b=0):Laid (put p 6 (max (nS p) (freeS p+1))) (freeS p) b (layP (put p 6 (max (nS p) (freeS p+1))) (freeS p) b)∧Wide p (max (nS p) (freeS p+1)) (put p 6 (max (nS p) (freeS p+1))):=by
 obtain ⟨hp,hb1,hb2,hn,hf⟩:=insE_ok h;obtain ⟨hW,h0,hr⟩:=ins_wide hp hn hf hb1;exact ⟨hW.core.lay (by rw [hW.count];omega) (by rw [hW.place];exact h0) hb1 hb2 (by rw [hW.count,hW.beg];exact hr),hW⟩
theorem ins_ok {p b:List UInt8} (h:insE p b=0):Ins p b (insP p b):=by
 obtain ⟨hL,hW⟩:=ins_lay h;obtain ⟨hp,hb1,hb2,hn,hf⟩:=insE_ok h;have hle:=Xfb p;unfold insP;generalize layP (put p 6 (max (nS p) (freeS p+1))) (freeS p) b=q at *
 have hN:nS q=max (nS p) (freeS p+1):=by rw [hL.count,hW.count]
 have hB:Body q:=hL.core.body fun hpos=>by
  rw [hN] at hpos ⊢
  by_cases hi:max (nS p) (freeS p+1)-1=freeS p
  ·rw [hi];exact hL.place
  ·have e:max (nS p) (freeS p+1)=nS p:=by omega
   rw [e] at hi ⊢;rw [(hL.far _ (by rw [hW.count];omega) hi).1,hW.place]
   exact hp.body.last (by omega)
 have hg:∀ i,4≤i→g (Xaz q) i=g q i:=fun i hi=>Xiz hi
 refine ⟨hB.sealed,?_,?_,?_,?_,?_⟩
 ·rw [←hN];exact Xbj (hg _ (by omega)) (hg _ (by omega))
 ·rw [←hW.beg,←hL.beg];exact Xbj (hg _ (by omega)) (hg _ (by omega))
 ·rw [hg 4 (by omega),hL.kind,hW.kind]
 ·rw [Xpl hL.core];exact hL.mine
 ·intro k hk
  rw [Xpl hL.core,hL.rest k hk,hW.rest]
noncomputable def getE (p:List UInt8) (i:Int):Nat:=if ok p=false then 40 else if i<0∨(nS p:Int)≤i∨sP p i.toNat=0 then 41 else 0
theorem getE_of {p:List UInt8} {k:Nat} (h:Pg p) (hk:k<nS p) (h0:sP p k≠0):getE p k=0:=by
 unfold getE;rw [if_neg (by rw [Xfv.2 h];simp),if_neg]
 simp only [not_or];exact ⟨by omega,by omega,by simpa using h0⟩
end G
namespace G
open Go Go.RowKit B C
theorem unle_le (n:Nat) (h:n<4294967296):unle (le n 4)=n:=by
 simp only [le,Ym,Xa,unle];simp only [UInt8.toNat_ofNat'];omega
def new0 (kind:UInt8):List UInt8:=put ((List.replicate 512 0).set 4 kind) 8 512
def newP (kind:UInt8):List UInt8:=Xaz (new0 kind)
theorem g_new0 (kind:UInt8) (i:Nat):g (new0 kind) i=if i=4 then kind.toNat else if i=9 then 2 else 0:=by
 have hr:∀ i,g (List.replicate 512 0) i=0:=fun i=>by
  unfold g;rw [Zf,Wp]
  split <;> rfl
 have hz:∃ z:List UInt8,List.replicate 512 0=z∧z.length=512:=⟨_,rfl,Wj⟩;unfold new0;obtain ⟨z,e,hl⟩:=hz;rw [e] at hr ⊢;rw [g_put (by rw [Yz];omega) (by omega)]
 have hs:g (z.set 4 kind) i=if i=4 then kind.toNat else 0:=by
  by_cases h:i=4
  ·subst h
   unfold g
   rw [Zf,Yr (by omega),if_pos rfl];rfl
  ·rw [if_neg h,←hr i]
   unfold g;rw [Zf,Zv (fun e=>h e.symm),Zf]
 rw [hs]
 by_cases h4:i=4
 ·subst h4;simp
 ·rw [if_neg h4,if_neg h4]
  by_cases h8:i=8
  ·subst h8;simp
  ·rw [if_neg h8]
theorem new0_len (kind:UInt8):(new0 kind).length=512:=by
 unfold new0;rw [Xdd _ (by rw [Yz,Wj];omega),Yz,Wj]
theorem new0_core (kind:UInt8):Core (new0 kind)∧nS (new0 kind)=0∧bg (new0 kind)=512:=by
 have G:=g_new0 kind
 have N:nS (new0 kind)=0:=by unfold nS two;rw [G,G];simp
 have B:bg (new0 kind)=512:=by unfold bg two;rw [G,G];simp
 have C:cells (new0 kind)=[]:=by unfold cells;rw [N];rfl
 refine ⟨⟨new0_len kind,by rw [G];simp,by rw [N];omega,by rw [N,B];omega,by rw [B];exact Zq _,by rw [C];simp,⟨[],by rw [C];exact List.Perm.refl _,B⟩,?_⟩,N,B⟩;intro i h1 h2;rw [N] at h1;rw [G,if_neg (by omega),if_neg (by omega)]
structure Fresh (p:List UInt8) (kind:Nat):Prop where
 pg:Pg p
 count:nS p=0
 beg:bg p=512
 kind:g p 4=kind
theorem new_fresh (kind:UInt8):Fresh (newP kind) kind.toNat:=by
 obtain ⟨hc,hn,hb⟩:=new0_core kind
 have hg:∀ i,4≤i→g (newP kind) i=g (new0 kind) i:=fun i hi=>Xiz hi
 exact ⟨(hc.body (by rw [hn];omega)).sealed,(Xbj (hg _ (by omega)) (hg _ (by omega))).trans hn,(Xbj (hg _ (by omega)) (hg _ (by omega))).trans hb,by rw [hg 4 (by omega),g_new0];simp⟩
theorem ct_long {p b:List UInt8} {k:Nat} (h:Core p) (hc:ct p k=some b):k<nS p∧sP p k≠0∧sL p k=b.length∧b=cutP p (sP p k) (sL p k):=by
 by_cases hk:k<nS p∧sP p k≠0
 ·obtain ⟨h1,h2⟩:=h.in_ hk.1 hk.2
  rw [Xes hk.1 hk.2] at hc;have hc:=Option.some.inj hc;refine ⟨hk.1,hk.2,?_,hc.symm⟩;rw [←hc];unfold cutP;rw [Zj,Zy,h.len];omega
 ·rw [Xdn.2 hk] at hc;cases hc
end G
namespace H
open Go Go.RowKit B C G
theorem unle_le (n:Nat):∀ k,n<256 ^ k→unle (le n k)=n:=by
 have key:∀ k,unle (le n k)=n % 256 ^ k:=by
  intro k
  induction k with
  | zero=>simp [le,unle,Nat.mod_one]
  | succ k ih =>
   have hp:2 ^ (8*k)=256 ^ k:=by rw [Nat.pow_mul]
   rw [le,Xhc,ih,Xay,hp];simp only [unle,UInt8.toNat_ofNat',Nat.mul_zero,Wm];have e:n / 256 ^ k % 256 % 2 ^ 8=n / 256 ^ k % 256:=Nat.mod_eq_of_lt (show n / 256 ^ k % 256<2 ^ 8 by omega);rw [e];show _=n % (256 ^ k*256);rw [Nat.mod_mul]
 intro k hk;rw [key,Nat.mod_eq_of_lt hk]
theorem ct_used {p:List UInt8} {k:Nat}:ct p k≠none↔k<nS p∧sP p k≠0:=by
 constructor
 ·intro h
  by_cases hk:k<nS p∧sP p k≠0
  ·exact hk
  ·exact absurd (Xdn.2 hk) h
 ·rintro ⟨h1,h2⟩ h
  rw [Xes h1 h2] at h;cases h
theorem Xoj {p:List UInt8} {k:Nat} {b:List UInt8} (h:ct p k=some b):k<nS p∧sP p k≠0:=ct_used.1 (by rw [h];simp)
theorem ct_cut {p b:List UInt8} {k:Nat} (h:ct p k=some b):cutP p (sP p k) (sL p k)=b:=by
 obtain ⟨h1,h2⟩:=Xoj h;rw [Xes h1 h2] at h;exact Option.some.inj h
theorem ct_free {p:List UInt8} {k:Nat} (h:k<freeS p):ct p k≠none:=ct_used.2 ⟨by have:=Xfb p;omega,freeS_used h⟩
theorem ct_freeS (p:List UInt8):ct p (freeS p)=none:=by
 rw [Xdn];rintro ⟨h1,h2⟩;exact h2 (Xln h1)
theorem freeS_eq {p:List UInt8} {j:Nat} (h:∀ k,k<j→ct p k≠none) (h0:ct p j=none):freeS p=j:=by
 rcases Wr (freeS p) j with h1 | h1 | h1
 ·exact absurd (ct_freeS p) (h _ h1)
 ·exact h1
 ·exact absurd h0 (ct_free h1)
def W64 : Nat:=18446744073709551616
end H
namespace G
open Go Go.RowKit B C
def ahead (p:List UInt8) (i j:Nat):Prop:=j≠i∧sP p j≠0∧sP p j<sP p i
theorem g_cut (p:List UInt8) (a n t:Nat):g (cutP p a n) t=if t<n then g p (a+t) else 0:=by
 unfold cutP;rw [Xjx,Xit]
theorem cut_len {p:List UInt8} {a n:Nat} (h:a+n≤p.length):(cutP p a n).length=n:=by
 unfold cutP
 rw [Zj,Zy];omega
section
variable {r : List UInt8} {j a b : Nat} (hl : r.length = 512) (hj : 14 + 4 * j ≤ 512) (ha : a < 65536) (hb : b < 65536)
include hl hj
include ha hb
end
end G
namespace T
open Go Go.RowKit
def cmpB : List UInt8→List UInt8→Int
 | [],[]=>0
 | [],_ :: _ => -1
 | _ :: _,[]=>1
 | a :: l,b :: k=>if a.toNat<b.toNat then -1 else if b.toNat<a.toNat then 1 else cmpB l k
theorem Xjq : ∀ l,cmpB l l=0
 | []=>rfl
 | a :: l=>by simp [cmpB,Xjq l]
theorem cmpB_eq : ∀ {l k},cmpB l k=0→l=k
 | [],[],_=>rfl
 | [],_ :: _,h=>by simp [cmpB] at h
 | _ :: _,[],h=>by simp [cmpB] at h
 | a :: l,b :: k,h=>by
  unfold cmpB at h;split at h
  ·simp at h
  ·split at h
   ·simp at h
   ·rw [cmpB_eq h,UInt8.toNat_inj.1 (show a.toNat=b.toNat by omega)]
theorem Xof : ∀ l k,cmpB k l = - cmpB l k
 | [],[]=>rfl
 | [],_ :: _=>rfl
 | _ :: _,[]=>rfl
 | a :: l,b :: k=>by
  unfold cmpB
  by_cases h1:a.toNat<b.toNat
  ·rw [if_pos h1,if_neg (by omega),if_pos h1];rfl
  ·by_cases h2:b.toNat<a.toNat
   ·rw [if_pos h2,if_neg h1,if_pos h2]
   ·rw [if_neg h1,if_neg h2,if_neg h2,if_neg h1,Xof l k]
theorem Xjr : ∀ l k,cmpB l k = -1∨cmpB l k=0∨cmpB l k=1
 | [],[]=>by simp [cmpB]
 | [],_ :: _=>by simp [cmpB]
 | _ :: _,[]=>by simp [cmpB]
 | a :: l,b :: k=>by
  unfold cmpB;split
  ·simp
  ·split
   ·simp
   ·exact Xjr l k
theorem Xlj : ∀ {l k m},cmpB l k<0→cmpB k m<0→cmpB l m<0
 | [],k,[],h1,h2=>by
  cases k with
  | nil=>exact h1
  | cons b k=>simp [cmpB] at h2
 | [],_,_ :: _,_,_=>by simp [cmpB]
 | _ :: _,[],_,h1,_=>by simp [cmpB] at h1
 | _ :: _,_ :: _,[],_,h2=>by simp [cmpB] at h2
 | a :: l,b :: k,c :: m,h1,h2=>by
  unfold cmpB at h1 h2 ⊢;split at h1
  ·split at h2
   ·rw [if_pos (by omega)];decide
   ·split at h2
    ·simp at h2
    ·rw [if_pos (by omega)];decide
  ·split at h1
   ·simp at h1
   ·split at h2
    ·rw [if_pos (by omega)];decide
    ·split at h2
     ·simp at h2
     ·rw [if_neg (by omega),if_neg (by omega)]
      exact Xlj h1 h2
abbrev Pr := List UInt8 × Nat
def ordP (a b:Pr):Int:=if cmpB a.1 b.1≠0 then cmpB a.1 b.1 else if a.2<b.2 then -1 else if b.2<a.2 then 1 else 0
def lt (a b:Pr):Prop:=ordP a b<0
instance (a b:Pr):Decidable (lt a b):=inferInstanceAs (Decidable (_<_))
theorem lt_iff {a b:Pr}:lt a b↔cmpB a.1 b.1<0∨(a.1=b.1∧a.2<b.2):=by
 unfold lt ordP
 constructor
 ·intro h
  split at h
  ·exact .inl h
  ·rename_i h0
   have h0:cmpB a.1 b.1=0:=by omega
   split at h
   ·exact .inr ⟨cmpB_eq h0,by assumption⟩
   ·split at h <;> simp at h
 ·rintro (h | ⟨h1,h2⟩)
  ·rw [if_pos (by omega)];exact h
  ·rw [if_neg (by rw [h1,Xjq];simp),if_pos h2];decide
theorem Xgl {a b:Pr}:ordP a b=0↔a=b:=by
 constructor
 ·intro h
  unfold ordP at h;split at h
  ·contradiction
  ·rename_i h0
   split at h
   ·simp at h
   ·split at h
    ·simp at h
    ·exact Prod.ext (cmpB_eq (by omega)) (by omega)
 ·rintro rfl
  unfold ordP;rw [if_neg (by rw [Xjq];simp),if_neg (by omega),if_neg (by omega)]
theorem ord_swap (a b:Pr):ordP b a = - ordP a b:=by
 unfold ordP;rw [Xof a.1 b.1]
 rcases Xjr a.1 b.1 with h | h | h <;> rw [h] <;> rcases Wr a.2 b.2 with h1 | h1 | h1
 all_goals first
  | (have:=Nat.lt_asymm h1;simp [h1,this];done)
  | simp [h1]
theorem ord_vals (a b:Pr):ordP a b = -1∨ordP a b=0∨ordP a b=1:=by
 unfold ordP;have:=Xjr a.1 b.1;split
 ·omega
 ·split
  ·simp
  ·split <;> simp
theorem lt_irrefl (a:Pr):¬lt a a:=by unfold lt;rw [Xgl.2 rfl];decide
theorem Xfe {a b c:Pr} (h1:lt a b) (h2:lt b c):lt a c:=by
 rw [lt_iff] at *
 rcases h1 with h1 | ⟨h1,h1'⟩ <;> rcases h2 with h2 | ⟨h2,h2'⟩
 ·exact .inl (Xlj h1 h2)
 ·rw [←h2];exact .inl h1
 ·rw [h1];exact .inl h2
 ·exact .inr ⟨h1.trans h2,by omega⟩
theorem lt_gt {a b:Pr}:lt b a↔0<ordP a b:=by unfold lt;rw [ord_swap];omega
theorem lt_asymm {a b:Pr} (h:lt a b):¬lt b a:=fun k=>lt_irrefl _ (Xfe h k)
theorem Xiu (a b:Pr):lt a b∨a=b∨lt b a:=by
 rcases ord_vals a b with h | h | h
 ·exact .inl (by unfold lt;omega)
 ·exact .inr (.inl (Xgl.1 h))
 ·exact .inr (.inr (lt_gt.2 (by omega)))
def Up (l:List Pr):Prop:=l.Pairwise lt
def low (l:List Pr) (x:Pr):Nat:=l.findIdx fun e=>decide (¬lt e x)
theorem Xet (l:List Pr) (x:Pr):low l x≤l.length:=List.findIdx_le_length
theorem Xft {l:List Pr} {x:Pr} {i:Nat} (hi:i<low l x):lt (l[i]'(by have:=Xet l x;omega)) x:=by
 have:=List.not_of_lt_findIdx hi
 simpa using this
theorem Xfs {l:List Pr} {x:Pr} (hl:Up l) {i:Nat} (h1:low l x≤i) (h2:i<l.length):¬lt l[i] x:=by
 have h3:low l x<l.length:=by omega
 have h4:¬lt l[low l x] x:=by
  have:=Vg (w:=h3);simp only [decide_eq_true_eq] at this;exact this
 intro h
 rcases Yv (low l x) i with h5 | h5
 ·exact h4 (Xfe (Yy.1 hl _ _ h3 h2 h5) h)
 ·obtain rfl:low l x=i:=by omega
  exact h4 h
theorem low_eq {l:List Pr} {x:Pr} {i:Nat} (hi:i≤l.length) (h1:∀ j (h:j<i),lt (l[j]'(by omega)) x) (h2:∀ (h:i<l.length),¬lt l[i] x):low l x=i:=by
 rcases Yv i l.length with h | h
 ·unfold low
  rw [List.findIdx_eq h];refine ⟨by simpa using h2 h,fun j hj=>by simpa using h1 j hj⟩
 ·obtain rfl:i=l.length:=by omega
  unfold low;rw [List.findIdx_eq_length];intro e he;obtain ⟨j,hj,rfl⟩:=Xl he
  simpa using h1 j hj
def has (l:List Pr) (x:Pr):Bool:=decide (l[low l x]?=some x)
theorem Xjy {l:List Pr} {x:Pr} (hl:Up l):has l x=true↔x∈l:=by
 unfold has;rw [decide_eq_true_eq]
 constructor
 ·exact Zm
 ·intro h
  obtain ⟨i,hi,rfl⟩:=Xl h
  have:low l l[i]=i:=by
   refine low_eq (by omega) (fun j hj=>Yy.1 hl _ _ _ _ hj) (fun _=>lt_irrefl _)
  rw [this,Zc hi]
def Xao (l:List Pr) (x:Pr):Nat:=low l x+if has l x then 1 else 0
def insP (l:List Pr) (x:Pr):List Pr:=l.take (low l x)++x :: l.drop (low l x)
def delP (l:List Pr) (x:Pr):List Pr:=l.eraseIdx (low l x)
theorem Xex (l:List Pr) (x:Pr):Xao l x≤l.length:=by
 unfold Xao
 by_cases h:has l x=true
 ·rw [if_pos h]
  unfold has at h;rw [decide_eq_true_eq] at h;have:=(Zh.1 h).1;omega
 ·rw [if_neg h];have:=Xet l x;omega
theorem Xhy {l:List Pr} {x:Pr} {i:Nat} (hi:i<Xao l x):¬lt x (l[i]'(by have:=Xex l x;omega)):=by
 unfold Xao at hi
 rcases Yv i (low l x) with h | h
 ·exact fun k=>lt_asymm (Xft h) k
 ·by_cases hh:has l x=true
  ·rw [if_pos hh] at hi
   obtain rfl:i=low l x:=by omega
   unfold has at hh;rw [decide_eq_true_eq] at hh;obtain ⟨h1,h2⟩:=Zh.1 hh;intro k;rw [h2] at k;exact lt_irrefl _ k
  ·rw [if_neg hh] at hi;omega
theorem Xjp {l:List Pr} {x:Pr} (hl:Up l) {i:Nat} (h1:Xao l x≤i) (h2:i<l.length):lt x l[i]:=by
 unfold Xao at h1;have h3:=Xfs hl (x:=x) (i:=i) (by omega) h2
 rcases Xiu x l[i] with h | h | h
 ·exact h
 ·exfalso
  have:low l x=i:=by
   refine low_eq (by omega) (fun j hj=>?_) (fun _=>h3)
   rw [h];exact Yy.1 hl _ _ _ _ hj
  have hh:has l x=true:=by unfold has;rw [decide_eq_true_eq,this,Zc h2,←h]
  rw [if_pos hh] at h1;omega
 ·exact absurd h h3
theorem child_eq {l:List Pr} {x:Pr} (hl:Up l) {i:Nat} (hi:i≤l.length) (h1:∀ j (h:j<i),¬lt x (l[j]'(by omega))) (h2:∀ (h:i<l.length),lt x l[i]):Xao l x=i:=by
 have h0:=Xex l x
 rcases Wr (Xao l x) i with h | h | h
 ·exact absurd (Xjp hl (Zq _) (by omega)) (h1 _ h)
 ·exact h
 ·exact absurd (h2 (by omega)) (Xhy h)
end T
namespace T
open Go Go.RowKit
abbrev Tg := Pr × Bool
def tlt (a b:Tg):Prop:=lt a.1 b.1∨(a.1=b.1∧a.2=false∧b.2=true)
theorem Xme (a:Tg):¬tlt a a:=by
 rintro (h | ⟨_,h1,h2⟩)
 ·exact lt_irrefl _ h
 ·rw [h1] at h2;cases h2
theorem Xhq {a b c:Tg} (h1:tlt a b) (h2:tlt b c):tlt a c:=by
 rcases h1 with h1 | ⟨h1,h1',h1''⟩ <;> rcases h2 with h2 | ⟨h2,h2',h2''⟩
 ·exact .inl (Xfe h1 h2)
 ·exact .inl (h2 ▸ h1)
 ·exact .inl (by rw [h1];exact h2)
 ·exact .inr ⟨h1.trans h2,h1',h2''⟩
def Ris (l:List Tg):Prop:=l.Pairwise tlt
def sp (e:Pr):Tg:=(e,false)
def en (e:Pr):Tg:=(e,true)
theorem ris_sp {l:List Pr} (h:Ris (l.map sp)):Up l:=by
 unfold Ris at h;rw [Xf] at h
 refine h.imp fun {a b} hab=>?_
 rcases hab with h1 | ⟨_,_,h1⟩
 ·exact h1
 ·cases h1
theorem ris_en {l:List Pr} (h:Ris (l.map en)):Up l:=by
 unfold Ris at h;rw [Xf] at h
 refine h.imp fun {a b} hab=>?_
 rcases hab with h1 | ⟨_,h1,_⟩
 ·exact h1
 ·cases h1
def weave : List Pr→List (List Tg)→List Tg
 | _,[]=>[]
 | [],k :: _=>k
 | e :: E,k :: K=>k++sp e :: weave E K
def Xdm : List Pr→List (List Tg)→List Tg
 | e :: E,k :: K=>k++sp e :: Xdm E K
 | _,_=>[]
def Xbg : List Pr→List (List Tg)→List Tg
 | e :: E,k :: K=>sp e :: k++Xbg E K
 | _,_=>[]
theorem Xkz (E:List Pr) (k:List Tg) (K:List (List Tg)) (h:E.length=K.length):weave E (k :: K)=k++Xbg E K:=by
 induction E generalizing k K with
 | nil=>cases K with
  | nil=>simp [weave,Xbg]
  | cons=>simp at h
 | cons e E ih=>cases K with
  | nil=>simp at h
  | cons k2 K=>simp only [weave,Xbg];rw [ih k2 K (by simpa using h)];simp
theorem Xqb (E1 E2:List Pr) (K1 K2:List (List Tg)) (h1:E1.length=K1.length):weave (E1++E2) (K1++K2)=Xdm E1 K1++weave E2 K2:=by
 induction E1 generalizing K1 with
 | nil=>cases K1 with
  | nil=>rfl
  | cons=>simp at h1
 | cons e E ih=>cases K1 with
  | nil=>simp at h1
  | cons k K=>simp only [Xa,weave,Xdm,Zu,List.cons.injEq,List.append_cancel_left_eq,true_and];exact ih K (by simpa using h1)
theorem Xfk (E1 E2:List Pr) (k:List Tg) (K1 K2:List (List Tg)) (h1:E1.length=K1.length) (h2:E2.length=K2.length):weave (E1++E2) (K1++k :: K2)=Xdm E1 K1++k++Xbg E2 K2:=by
 rw [Xqb _ _ _ _ h1,Xkz _ _ _ h2,Zu]
theorem Xmi : ∀ {E:List Pr} {K:List (List Tg)},Ris (Xdm E K)→∀ g∈Xdm E K,∃ e∈E,g=sp e∨tlt g (sp e)
 | [],_,_,g,hg=>by cases hg
 | _ :: _,[],_,g,hg=>by cases hg
 | e :: E,k :: K,h,g,hg=>by
  simp only [Xdm] at h hg;unfold Ris at h;rw [Zn] at h
  rcases Za.1 hg with hg | hg
  ·exact ⟨e,by simp,.inr (h.2.2 g hg _ (by simp))⟩
  ·rcases Zg.1 hg with hg | hg
   ·exact ⟨e,by simp,.inl hg⟩
   ·obtain ⟨e2,h2,h3⟩:=Xmi (Yh.1 h.2.1).2 g hg
    exact ⟨e2,by simp [h2],h3⟩
theorem Xmk : ∀ {E:List Pr} {K:List (List Tg)},Ris (Xbg E K)→∀ g∈Xbg E K,∃ e∈E,g=sp e∨tlt (sp e) g
 | [],_,_,g,hg=>by cases hg
 | _ :: _,[],_,g,hg=>by cases hg
 | e :: E,k :: K,h,g,hg=>by
  simp only [Xbg] at h hg;unfold Ris at h;rw [Xa,Yh,Zn] at h;rw [Xa] at hg
  rcases Zg.1 hg with hg | hg
  ·exact ⟨e,by simp,.inl hg⟩
  ·rcases Za.1 hg with hg2 | hg2
   ·exact ⟨e,by simp,.inr (h.1 g hg)⟩
   ·obtain ⟨e2,h2,h3⟩:=Xmk h.2.2.1 g hg2
    exact ⟨e2,by simp [h2],h3⟩
theorem Xla : ∀ {E:List Pr} {K:List (List Tg)},K.length=E.length+1→(E.map sp).Sublist (weave E K)
 | [],_,_=>List.nil_sublist _
 | e :: E,[],h=>by simp at h
 | e :: E,k :: K,h=>by
  simp only [weave,Zx];exact (List.Sublist.cons_cons _ (Xla (by simpa using h))).trans (List.sublist_append_right _ _)
structure Nd where
 id:Int
 leaf:Bool
 es:List Pr
 cs:List Int
deriving DecidableEq
def Tr : Nat→Type
 | 0=>Int × List Pr
 | h+1=>Int × List Pr × List (Tr h)
def Tr.leaf (i:Int) (E:List Pr):Tr 0:=(i,E)
def Tr.node {h:Nat} (i:Int) (E:List Pr) (K:List (Tr h)):Tr (h+1):=(i,E,K)
theorem Tr.is_leaf (t:Tr 0):∃ i E,t=.leaf i E:=⟨Prod.fst (α:=Int) (β:=List Pr) t,Prod.snd (α:=Int) (β:=List Pr) t,rfl⟩
theorem Tr.is_node {h:Nat} (t:Tr (h+1)):∃ i E K,t=.node i E K:=⟨Prod.fst (α:=Int) (β:=List Pr × List (Tr h)) t,(Prod.snd (α:=Int) (β:=List Pr × List (Tr h)) t).1,(Prod.snd (α:=Int) (β:=List Pr × List (Tr h)) t).2,rfl⟩
def Tr.id : {h:Nat}→Tr h→Int
 | 0,t=>Prod.fst (α:=Int) (β:=List Pr) t
 | h+1,t=>Prod.fst (α:=Int) (β:=List Pr × List (Tr h)) t
def Tr.es : {h:Nat}→Tr h→List Pr
 | 0,t=>Prod.snd (α:=Int) (β:=List Pr) t
 | h+1,t=>(Prod.snd (α:=Int) (β:=List Pr × List (Tr h)) t).1
def Tr.kids {h:Nat} (t:Tr (h+1)):List (Tr h):=(Prod.snd (α:=Int) (β:=List Pr × List (Tr h)) t).2
def Tr.top : {h:Nat}→Tr h→Nd
 | 0,t=>⟨t.id,true,t.es,[]⟩
 | _+1,t=>⟨t.id,false,t.es,t.kids.map Tr.id⟩
@[simp] theorem Tr.leaf_id (i:Int) (E:List Pr):(Tr.leaf i E).id=i:=rfl
@[simp] theorem Tr.leaf_es (i:Int) (E:List Pr):(Tr.leaf i E).es=E:=rfl
@[simp] theorem Tr.node_id {h:Nat} (i:Int) (E:List Pr) (K:List (Tr h)):(Tr.node i E K).id=i:=rfl
@[simp] theorem Tr.node_es {h:Nat} (i:Int) (E:List Pr) (K:List (Tr h)):(Tr.node i E K).es=E:=rfl
@[simp] theorem Tr.node_kids {h:Nat} (i:Int) (E:List Pr) (K:List (Tr h)):(Tr.node i E K).kids=K:=rfl
theorem Tr.leaf_top (i:Int) (E:List Pr):(Tr.leaf i E).top=⟨i,true,E,[]⟩:=rfl
theorem Tr.node_top {h:Nat} (i:Int) (E:List Pr) (K:List (Tr h)):(Tr.node i E K).top=⟨i,false,E,K.map Tr.id⟩:=rfl
theorem Tr.top_id : ∀ {h:Nat} (t:Tr h),t.top.id=t.id
 | 0,_=>rfl
 | _+1,_=>rfl
theorem Tr.top_es : ∀ {h:Nat} (t:Tr h),t.top.es=t.es
 | 0,_=>rfl
 | _+1,_=>rfl
theorem Tr.top_leaf : ∀ {h:Nat} (t:Tr h),t.top.leaf=decide (h=0)
 | 0,_=>rfl
 | _+1,_=>rfl
def seq : (h:Nat)→Tr h→List Tg
 | 0,t=>t.es.map en
 | h+1,t=>weave t.es (t.kids.map (seq h))
def below : (h:Nat)→Tr h→List Nd
 | 0,_=>[]
 | h+1,t=>t.kids.flatMap fun k=>k.top :: below h k
def nodes (h:Nat) (t:Tr h):List Nd:=t.top :: below h t
def Wf : (h:Nat)→Tr h→Prop
 | 0,_=>True
 | h+1,t=>t.kids.length=t.es.length+1∧∀ k∈t.kids,Wf h k
theorem Xcn (i:Int) (E:List Pr):seq 0 (.leaf i E)=E.map en:=rfl
theorem Xcb {h:Nat} (i:Int) (E:List Pr) (K:List (Tr h)):seq (h+1) (.node i E K)=weave E (K.map (seq h)):=rfl
theorem Xce {h:Nat} (i:Int) (E:List Pr) (K:List (Tr h)):Wf (h+1) (.node i E K)↔K.length=E.length+1∧∀ k∈K,Wf h k:=Iff.rfl
theorem Xan (i:Int) (E:List Pr):nodes 0 (.leaf i E)=[⟨i,true,E,[]⟩]:=rfl
theorem Xbr {h:Nat} (i:Int) (E:List Pr) (K:List (Tr h)):nodes (h+1) (.node i E K)=(Tr.node i E K).top :: K.flatMap (nodes h):=rfl
structure Fr (h:Nat) where
 id:Int
 el:List Pr
 er:List Pr
 kl:List (Tr h)
 kr:List (Tr h)
def Fr.tree {h:Nat} (f:Fr h) (t:Tr h):Tr (h+1):=.node f.id (f.el++f.er) (f.kl++t :: f.kr)
inductive Ctx (H:Nat):Nat→Type
 | nil:Ctx H H
 | cons:{h:Nat}→Fr h→Ctx H (h+1)→Ctx H h
def plug {H:Nat}:{h:Nat}→Ctx H h→Tr h→Tr H
 | _,.nil,t=>t
 | _,.cons f c,t=>plug c (f.tree t)
def pre {H:Nat}:{h:Nat}→Ctx H h→List Tg
 | _,.nil=>[]
 | h,.cons f c=>pre c++Xdm f.el (f.kl.map (seq h))
def post {H:Nat}:{h:Nat}→Ctx H h→List Tg
 | _,.nil=>[]
 | h,.cons f c=>Xbg f.er (f.kr.map (seq h))++post c
def Good {H:Nat}:{h:Nat}→Ctx H h→Prop
 | _,.nil=>True
 | h,.cons f c=>f.el.length=f.kl.length∧f.er.length=f.kr.length∧(∀ k∈f.kl,Wf h k)∧(∀ k∈f.kr,Wf h k)∧Good c
def Fr.nd {h:Nat} (f:Fr h) (i:Int):Nd:=⟨f.id,false,f.el++f.er,f.kl.map Tr.id++i :: f.kr.map Tr.id⟩
theorem Fr.top {h:Nat} (f:Fr h) (t:Tr h):(f.tree t).top=f.nd t.id:=by unfold Fr.tree;rw [Tr.node_top];simp [Fr.nd]
def path {H:Nat}:{h:Nat}→Ctx H h→Int→List Nd
 | _,.nil,_=>[]
 | _,.cons f c,i=>path c f.id++[f.nd i]
def rest {H:Nat}:{h:Nat}→Ctx H h→List Nd
 | _,.nil=>[]
 | h,.cons f c=>f.kl.flatMap (nodes h)++f.kr.flatMap (nodes h)++rest c
theorem Xhn {h:Nat} (f:Fr h) (t:Tr h) (h1:f.el.length=f.kl.length) (h2:f.er.length=f.kr.length):seq (h+1) (f.tree t)=Xdm f.el (f.kl.map (seq h))++seq h t++Xbg f.er (f.kr.map (seq h)):=by
 unfold Fr.tree;rw [Xcb,Zs,Zx];exact Xfk _ _ _ _ _ (by simpa using h1) (by simpa using h2)
theorem Xco {H:Nat}:∀ {h:Nat} (c:Ctx H h) (t:Tr h),Good c→seq H (plug c t)=pre c++seq h t++post c
 | _,.nil,t,_=>by simp [plug,pre,post]
 | h,.cons f c,t,hg=>by
  obtain ⟨h1,h2,_,_,hg⟩:=hg;simp only [plug,pre,post];rw [Xco c _ hg,Xhn f t h1 h2]
  simp [Zu]
theorem wf_tree {h:Nat} (f:Fr h) (t:Tr h) (h1:f.el.length=f.kl.length) (h2:f.er.length=f.kr.length) (h3:∀ k∈f.kl,Wf h k) (h4:∀ k∈f.kr,Wf h k) (ht:Wf h t):Wf (h+1) (f.tree t):=by
 refine ⟨?_,fun k hk=>?_⟩
 ·show (f.kl++t :: f.kr).length=(f.el++f.er).length+1
  simp only [Ze,Zz];omega
 rcases Za.1 (show k∈f.kl++t :: f.kr from hk) with hk | hk
 ·exact h3 k hk
 ·rcases Zg.1 hk with rfl | hk
  ·exact ht
  ·exact h4 k hk
theorem wf_plug {H:Nat}:∀ {h:Nat} (c:Ctx H h) (t:Tr h),Good c→Wf h t→Wf H (plug c t)
 | _,.nil,t,_,ht=>ht
 | h,.cons f c,t,hg,ht=>by
  obtain ⟨h1,h2,h3,h4,hg⟩:=hg;exact wf_plug c _ hg (wf_tree f t h1 h2 h3 h4 ht)
theorem nodes_tree {h:Nat} (f:Fr h) (t:Tr h):(nodes (h+1) (f.tree t)).Perm (f.nd t.id :: nodes h t++(f.kl.flatMap (nodes h)++f.kr.flatMap (nodes h))):=by
 unfold Fr.tree;rw [Xbr];show List.Perm ((f.tree t).top :: _) _;rw [Fr.top,Wg,Yu,Xa]
 refine List.Perm.cons _ ?_
 rw [←Zu,←Zu];exact (List.perm_append_comm (l₁:=f.kl.flatMap (nodes h)) (l₂:=nodes h t)).append_right _
theorem Xbb {H:Nat}:∀ {h:Nat} (c:Ctx H h) (t:Tr h),(nodes H (plug c t)).Perm (path c t.id++nodes h t++rest c)
 | _,.nil,t=>by simp [plug,path,rest]
 | h,.cons f c,t=>by
  simp only [plug,path,rest]
  refine (Xbb c _).trans ?_
  have h1:=nodes_tree f t;have h2:(f.tree t).id=f.id:=rfl;rw [h2];refine ((h1.append_left (path c f.id)).append_right (rest c)).trans (List.Perm.of_eq ?_)
  simp [Zu]
def Sep {H h:Nat} (c:Ctx H h) (x:Pr):Prop:=(∀ g∈pre c,tlt g (en x))∧∀ g∈post c,tlt (en x) g
theorem sp_en {e x:Pr} (h:¬lt x e):tlt (sp e) (en x):=by
 rcases Xiu e x with h1 | h1 | h1
 ·exact .inl h1
 ·exact .inr ⟨h1,rfl,rfl⟩
 ·exact absurd h1 h
theorem Xpv {h:Nat} {i:Int} {E:List Pr} {K:List (Tr h)} (hw:Wf (h+1) (.node i E K)) (hr:Ris (seq (h+1) (.node i E K))):Up E:=by
 refine ris_sp (List.Pairwise.sublist (Xla ?_) hr)
 rw [Zl];exact hw.1
theorem down_step {H h:Nat} (c:Ctx H (h+1)) {i:Int} {E:List Pr} {K:List (Tr h)} {x:Pr} (hg:Good c) (hw:Wf (h+1) (.node i E K)) (hr:Ris (seq (h+1) (.node i E K))) (hs:Sep c x) :
  ∃ (f:Fr h) (t:Tr h),K[Xao E x]?=some t∧f.tree t=.node i E K∧Good (.cons f c)∧Wf h t∧Sep (.cons f c) x:=by
 have hU:=Xpv hw hr;have hk:=Xex E x;have hl:K.length=E.length+1:=hw.1
 have hlt:Xao E x<K.length:=by omega
 have e1:(Fr.mk i (E.take (Xao E x)) (E.drop (Xao E x)) (K.take (Xao E x)) (K.drop (Xao E x+1))).tree K[Xao E x]=.node i E K:=by
  unfold Fr.tree;simp only [Yf];rw [Ws,Yf]
 refine ⟨⟨i,E.take (Xao E x),E.drop (Xao E x),K.take (Xao E x),K.drop (Xao E x+1)⟩,K[Xao E x],Zc hlt,e1,?_,hw.2 _ (Yx _),?_⟩
 ·refine ⟨?_,?_,fun k hk=>hw.2 _ (Yn hk),fun k hk=>hw.2 _ (Ys hk),hg⟩
  ·simp only [Zj];omega
  ·simp only [Zy];omega
 ·have hs2:=Xhn (Fr.mk i (E.take (Xao E x)) (E.drop (Xao E x)) (K.take (Xao E x)) (K.drop (Xao E x+1))) K[Xao E x] (by simp only [Zj];omega) (by simp only [Zy];omega)
  rw [e1] at hs2;simp only at hs2;rw [hs2] at hr;unfold Ris at hr;rw [Zn,Zn] at hr
  constructor
  ·intro g hg2
   rcases Za.1 hg2 with hg2 | hg2
   ·exact hs.1 g hg2
   ·obtain ⟨e,he,h3⟩:=Xmi hr.1.1 g hg2
    obtain ⟨j,hj,rfl⟩:=Xl he;rw [Zj] at hj;rw [List.getElem_take] at h3;have h4:tlt (sp E[j]) (en x):=sp_en (Xhy (by omega))
    rcases h3 with rfl | h3
    ·exact h4
    ·exact Xhq h3 h4
  ·intro g hg2
   rcases Za.1 hg2 with hg2 | hg2
   ·obtain ⟨e,he,h3⟩:=Xmk hr.2.1 g hg2
    obtain ⟨j,hj,rfl⟩:=Xl he;rw [Zy] at hj;rw [List.getElem_drop] at h3;have h4:tlt (en x) (sp E[Xao E x+j]):=.inl (Xjp (x:=x) hU (by omega) (by omega))
    rcases h3 with rfl | h3
    ·exact h4
    ·exact Xhq h4 h3
   ·exact hs.2 g hg2
def ents (l:List Tg):List Pr:=l.filterMap fun g=>if g.2 then some g.1 else none
theorem Xby (l k:List Tg):ents (l++k)=ents l++ents k:=List.filterMap_append
theorem Xfn (l:List Pr):ents (l.map en)=l:=by
 induction l with
 | nil=>rfl
 | cons a l ih=>simp [ents,en] at ih ⊢;exact ih
theorem Xmz {l:List Tg} {x:Pr}:x∈ents l↔en x∈l:=by
 unfold ents;rw [List.mem_filterMap]
 constructor
 ·rintro ⟨g,hg,h⟩
  obtain ⟨a,b⟩:=g;cases b
  ·simp at h
  ·simp at h;subst h;exact hg
 ·intro h;exact ⟨en x,h,rfl⟩
theorem ents_up {l:List Tg} (h:Ris l):Up (ents l):=by
 unfold ents Up;rw [List.pairwise_filterMap]
 refine h.imp fun {a b} hab x hx y hy=>?_
 obtain ⟨a1,a2⟩:=a;obtain ⟨b1,b2⟩:=b
 cases a2 <;> simp at hx
 cases b2 <;> simp at hy
 subst hx hy
 rcases hab with h1 | ⟨_,h1,_⟩
 ·exact h1
 ·cases h1
theorem up_ext {l k:List Pr} (hl:Up l) (hk:Up k) (h:∀ x,x∈l↔x∈k):l=k:=by
 have hn:∀ {l:List Pr},Up l→l.Nodup:=fun hl=>List.Pairwise.imp (fun {a b} (hab:lt a b) (e:a=b)=>lt_irrefl b (e ▸ hab)) hl
 have hp:l.Perm k:=(List.perm_ext_iff_of_nodup (hn hl) (hn hk)).2 h;exact hp.eq_of_pairwise (le:=lt) (fun a b _ _ h1 h2=>absurd h2 (lt_asymm h1)) hl hk
theorem ris_ins {A B:List Tg} {E:List Pr} {x:Pr} (h:Ris (A++E.map en++B)) (h1:∀ g∈A,tlt g (en x)) (h2:∀ g∈B,tlt (en x) g) (hx:has E x=false):Ris (A++(insP E x).map en++B):=by
 unfold Ris at *;rw [Zn,Zn] at h;obtain ⟨⟨hA,hE,hAE⟩,hB,hAB⟩:=h;have hU:Up E:=ris_en hE
 have hno:x∉E:=fun hm=>by rw [(Xjy hU).2 hm] at hx;cases hx
 have hlo:∀ i (hi:i<E.length),i<low E x→lt E[i] x:=fun i hi h=>Xft h
 have hhi:∀ i (hi:i<E.length),low E x≤i→lt x E[i]:=fun i hi h=>by
  rcases Xiu x E[i] with h3 | h3 | h3
  ·exact h3
  ·exact absurd (h3 ▸ Yx hi) hno
  ·exact absurd h3 (Xfs hU h hi)
 have hmem:∀ y,y∈insP E x↔y=x∨y∈E:=fun y=>by
  unfold insP;rw [Za,Zg];have:=Za (a:=y) (s:=E.take (low E x)) (t:=E.drop (low E x));rw [Yf] at this;rw [this]
  constructor
  ·rintro (h | h | h)
   ·exact .inr (.inl h)
   ·exact .inl h
   ·exact .inr (.inr h)
  ·rintro (h | h | h)
   ·exact .inr (.inl h)
   ·exact .inl h
   ·exact .inr (.inr h)
 have hall:∀ g∈(insP E x).map en,g=en x∨g∈E.map en:=fun g hg=>by
  obtain ⟨y,hy,rfl⟩:=Zi.1 hg
  rcases (hmem y).1 hy with rfl | hy
  ·exact .inl rfl
  ·exact .inr (Yj hy)
 rw [Zn,Zn];refine ⟨⟨hA,?_,fun a ha g hg=>?_⟩,hB,fun a ha b hb=>?_⟩
 ·have:Up (insP E x):=by
   unfold insP Up;rw [Zn,Yh];refine ⟨hU.sublist (List.take_sublist _ _),⟨fun y hy=>?_,hU.sublist (List.drop_sublist _ _)⟩,fun a ha b hb=>?_⟩
   ·obtain ⟨j,hj,rfl⟩:=Xl hy
    rw [List.getElem_drop];exact hhi _ _ (by omega)
   ·obtain ⟨j,hj,rfl⟩:=Xl ha
    rw [Zj] at hj;rw [List.getElem_take];have h5:=hlo j (by omega) (by omega)
    rcases Zg.1 hb with rfl | hb
    ·exact h5
    ·obtain ⟨j2,hj2,rfl⟩:=Xl hb
     rw [List.getElem_drop];exact Xfe h5 (hhi _ _ (by omega))
  rw [Xf]
  exact this.imp fun {a b} hab=>.inl hab
 ·rcases hall g hg with rfl | hg
  ·exact h1 a ha
  ·exact hAE a ha g hg
 ·rcases Za.1 ha with ha | ha
  ·exact hAB a (Yb _ ha) b hb
  ·rcases hall a ha with rfl | ha
   ·exact h2 b hb
   ·exact hAB a (Yk _ ha) b hb
theorem Xdt {E:List Pr} {x y:Pr}:y∈insP E x↔y=x∨y∈E:=by
 unfold insP;have:=Za (a:=y) (s:=E.take (low E x)) (t:=E.drop (low E x));rw [Yf] at this;rw [this,Za,Zg]
 constructor
 ·rintro (h | h | h)
  ·exact .inr (.inl h)
  ·exact .inl h
  ·exact .inr (.inr h)
 ·rintro (h | h | h)
  ·exact .inr (.inl h)
  ·exact .inl h
  ·exact .inr (.inr h)
end T
namespace T
open Go Go.RowKit
def wE (leaf:Bool) (e:Pr):Nat:=e.1.length+12+if leaf then 0 else 4
def sumE (leaf:Bool):List Pr→Nat
 | []=>0
 | e :: E=>wE leaf e+sumE leaf E
def baseE (leaf:Bool):Nat:=if leaf then 0 else 8
def sizeP (leaf:Bool) (E:List Pr):Nat:=baseE leaf+sumE leaf E
def fitsP (leaf:Bool) (E:List Pr):Bool:=decide (sizeP leaf E≤502)
theorem Xbn (leaf:Bool):∀ A B,sumE leaf (A++B)=sumE leaf A+sumE leaf B
 | [],B=>by simp [sumE]
 | a :: A,B=>by simp only [Xa,sumE,Xbn leaf A B];omega
theorem Xpt (leaf:Bool) (E:List Pr) {i j:Nat} (h:i≤j):sumE leaf (E.take i)≤sumE leaf (E.take j):=by
 have:E.take j=E.take i++(E.take j).drop i:=by
  rw [show E.take i=(E.take j).take i by rw [Wb,Yt h],Yf]
 rw [this,Xbn];omega
theorem Xde (leaf:Bool) (E:List Pr) (i:Nat):sumE leaf E=sumE leaf (E.take i)+sumE leaf (E.drop i):=by
 rw [←Xbn,Yf]
theorem Xks (leaf:Bool) (E:List Pr) {i:Nat} (h:i<E.length):sumE leaf (E.take (i+1))=sumE leaf (E.take i)+wE leaf E[i]:=by
 rw [Xk h,Xbn];simp [sumE]
def Keys (E:List Pr):Prop:=∀ e∈E,e.1.length≤300∧e.2<18446744073709551616
theorem wE_le {leaf:Bool} {e:Pr} (h:e.1.length≤300):wE leaf e≤(if leaf then 312 else 316):=by unfold wE;cases leaf <;> simp <;> omega
theorem Keys.sub {E F:List Pr} (h:Keys E) (hs:∀ e∈F,e∈E):Keys F:=fun e he=>h e (hs e he)
theorem Keys.append {E F:List Pr} (h:Keys E) (h2:Keys F):Keys (E++F):=fun e he=>(Za.1 he).elim (h e) (h2 e)
def restE (leaf:Bool) (i:Nat) (E:List Pr):List Pr:=if leaf then E.drop i else E.drop (i+1)
def distP (a b:Nat):Int:=((max a b:Nat):Int)-((min a b:Nat):Int)
def Xhx (leaf:Bool) (E:List Pr) (i:Nat) (off:Int):Bool:=fitsP leaf (restE leaf i E) && (decide (off<0) || decide (distP (sizeP leaf (E.take i)) (sizeP leaf (restE leaf i E))<off))
def Xda (leaf:Bool) (E:List Pr):Nat→Nat→Nat→Int→Nat→Nat
  | 0,_,best,off,last=>if off<0 then last else best
  | k+1,i,best,off,last =>
    if fitsP leaf (E.take i) then
      (if Xhx leaf E i off then Xda leaf E k (i+1) i (distP (sizeP leaf (E.take i)) (sizeP leaf (restE leaf i E))) i
       else Xda leaf E k (i+1) best off i)
    else if off<0 then last else best
def Xgp (leaf:Bool) (E:List Pr):Nat:=Xda leaf E (E.length-1) 1 0 (-1) 1
def Cuts (leaf:Bool) (E:List Pr) (i:Nat):Prop :=
 1≤i∧i<E.length∧fitsP leaf (E.take i)=true ∧
 (fitsP leaf (restE leaf i E)=true∨((∀ j,1≤j→j<E.length→fitsP leaf (E.take j)=true→fitsP leaf (restE leaf j E)=false)∧(i+1=E.length∨fitsP leaf (E.take (i+1))=false)))
theorem Xcf {leaf:Bool} {E:List Pr}:fitsP leaf E=true↔baseE leaf+sumE leaf E≤502:=by unfold fitsP sizeP;rw [decide_eq_true_eq]
theorem Xib {leaf:Bool} {E:List Pr}:fitsP leaf E=false↔¬baseE leaf+sumE leaf E≤502:=by unfold fitsP sizeP;rw [decide_eq_false_iff_not]
theorem fits_mono {leaf:Bool} {E:List Pr} {i j:Nat} (h:i≤j) (hf:fitsP leaf (E.take j)=true):fitsP leaf (E.take i)=true:=by
 rw [Xcf] at *;have:=Xpt leaf E h;omega
theorem dist_nonneg (a b:Nat):0≤distP a b:=by unfold distP;omega
theorem Xfl (leaf:Bool) (E:List Pr) (hE:2≤E.length):∀ (k i best:Nat) (off:Int) (last:Nat),i+k=E.length→1≤i→(∀ j,1≤j→j<i→fitsP leaf (E.take j)=true) →
  (i=1→fitsP leaf (E.take 1)=true)→(1<i→last+1=i)→(off<0→∀ j,1≤j→j<i→fitsP leaf (restE leaf j E)=false) →
  (0≤off→1≤best∧best<i∧fitsP leaf (restE leaf best E)=true)→Cuts leaf E (Xda leaf E k i best off last)
 | 0,i,best,off,last,hk,h1,hf,hi,hl,ho,hb=>by
  unfold Xda;split
  ·rename_i h
   have:=hl (by omega);exact ⟨by omega,by omega,hf _ (by omega) (by omega),.inr ⟨fun j a b c=>ho h j a (by omega),.inl (by omega)⟩⟩
  ·rename_i h
   obtain ⟨a,b,c⟩:=hb (by omega);exact ⟨a,by omega,hf _ a b,.inl c⟩
 | k+1,i,best,off,last,hk,h1,hf,hi,hl,ho,hb=>by
  unfold Xda;split
  ·rename_i hfit
   split
   ·rename_i hbt
    refine Xfl leaf E hE k (i+1) _ _ _ (by omega) (by omega) (fun j a b=>?_) (by omega) (fun _=>rfl) (fun hneg=>?_) (fun _=>⟨h1,by omega,?_⟩)
    ·by_cases e:j=i
     ·rw [e];exact hfit
     ·exact hf j a (by omega)
    ·have:=dist_nonneg (sizeP leaf (E.take i)) (sizeP leaf (restE leaf i E));omega
    ·unfold Xhx at hbt
     rw [Bool.and_eq_true] at hbt;exact hbt.1
   ·rename_i hbt
    refine Xfl leaf E hE k (i+1) _ _ _ (by omega) (by omega) (fun j a b=>?_) (by omega) (fun _=>rfl) (fun hneg j a b=>?_) (fun hpos=>?_)
    ·by_cases e:j=i
     ·rw [e];exact hfit
     ·exact hf j a (by omega)
    ·by_cases e:j=i
     ·subst e
      unfold Xhx at hbt;rw [decide_eq_true hneg] at hbt
      simpa using hbt
     ·exact ho hneg j a (by omega)
    ·obtain ⟨a,b,c⟩:=hb hpos
     exact ⟨a,by omega,c⟩
  ·rename_i hfit
   have hne:i≠1:=fun e=>hfit (e ▸ hi e)
   have:=hl (by omega);split
   ·rename_i hneg
    refine ⟨by omega,by omega,hf _ (by omega) (by omega),.inr ⟨fun j a b c=>?_,.inr (by rw [this];simpa using hfit)⟩⟩
    rcases Yv j i with h | h
    ·exact ho hneg j a h
    ·exact absurd (fits_mono h c) hfit
   ·rename_i hneg
    obtain ⟨a,b,c⟩:=hb (by omega);exact ⟨a,by omega,hf _ a b,.inl c⟩
theorem apart_cuts {leaf:Bool} {E:List Pr} (hE:2≤E.length) (h1:fitsP leaf (E.take 1)=true):Cuts leaf E (Xgp leaf E) :=
 Xfl leaf E hE _ _ _ _ _ (by omega) (Zq _) (fun j a b=>by omega) (fun _=>h1) (fun h=>by omega) (fun _ j a b=>by omega) (fun h=>by omega)
theorem Xgk {leaf:Bool} {e:Pr} (h:e.1.length≤300):fitsP leaf [e]=true:=by
 rw [Xcf];have:=wE_le (leaf:=leaf) h;unfold baseE;simp only [sumE]
 cases leaf <;> simp at * <;> omega
theorem take_one {E:List Pr} (h:1≤E.length):∃ e,E.take 1=[e]∧e∈E:=by
 cases E with
 | nil=>simp at h
 | cons a E=>exact ⟨a,by simp,by simp⟩
theorem long_of {leaf:Bool} {E:List Pr} (hk:Keys E) (h:fitsP leaf E=false):2≤E.length:=by
 match E with
 | []=>rw [Xib] at h;unfold baseE at h;simp only [sumE] at h;cases leaf <;> simp at h
 | [e]=>rw [Xgk (hk e (by simp)).1] at h;cases h
 | _ :: _ :: _=>simp
theorem Xea {leaf:Bool} {E:List Pr} (hk:Keys E) (h:fitsP leaf E=false):Cuts leaf E (Xgp leaf E):=by
 have h2:=long_of hk h
 refine apart_cuts h2 ?_
 obtain ⟨e,he,hm⟩:=take_one (E:=E) (by omega)
 rw [he];exact Xgk (hk e hm).1
theorem Xlk {leaf:Bool} {E:List Pr} {i:Nat} (hk:Keys E) (hc:Cuts leaf E i) (hr:fitsP leaf (restE leaf i E)=false):sumE leaf (restE leaf i E)+(if leaf then 191 else 495)≤sumE leaf E:=by
 obtain ⟨h1,h2,h3,h4⟩:=hc
 rcases h4 with h4 | ⟨h4,h5⟩
 ·rw [h4] at hr;cases hr
 ·rcases h5 with h5 | h5
  ·exfalso
   have:=h4 i h1 h2 h3;rw [←Bool.not_eq_true] at hr
   apply hr
   unfold restE;cases leaf
   ·simp only [Bool.false_eq_true,if_false]
    rw [Xq (by omega),Xcf];decide
   ·simp only [if_true]
    rw [show E.drop i=[E[i]] by rw [←Ws (h:=h2),Xq (by omega)]];exact Xgk (hk _ (Yx _)).1
  ·rw [Xib] at h5
   have e1:=Xks leaf E h2;have e2:=Xde leaf E i;have e3:=Xde leaf E (i+1);have e4:=wE_le (leaf:=leaf) (hk E[i] (Yx _)).1;unfold restE baseE at *
   cases leaf <;> simp at * <;> omega
def Xgr {α:Type} (leaf:Bool) (i:Nat) (C:List α):List α:=if leaf then [] else C.take (i+1)
def restC {α:Type} (leaf:Bool) (i:Nat) (C:List α):List α:=if leaf then [] else C.drop (i+1)
inductive Parts {α:Type} (leaf:Bool):List Pr→List α→List Pr × List α→List (Pr × List Pr × List α)→Prop
 | one {E:List Pr} {C:List α} {i:Nat} {b:Pr} (hi:Xgp leaf E=i) (hb:E[i]?=some b) (hf:fitsP leaf (restE leaf i E)=true) :
  Parts leaf E C (E.take i,Xgr leaf i C) [(b,restE leaf i E,restC leaf i C)]
 | more {E:List Pr} {C:List α} {i:Nat} {b:Pr} {p:List Pr × List α} {l:List (Pr × List Pr × List α)} (hi:Xgp leaf E=i) (hb:E[i]?=some b) (hf:fitsP leaf (restE leaf i E)=false)
  (hp:Parts leaf (restE leaf i E) (restC leaf i C) p l):Parts leaf E C (E.take i,Xgr leaf i C) ((b,p) :: l)
theorem Keys.rest {leaf:Bool} {E:List Pr} (h:Keys E) (i:Nat):Keys (restE leaf i E):=h.sub fun e he=>by
 unfold restE at he
 split at he <;> exact Ys he
theorem Xdj {leaf:Bool} {E:List Pr} {i:Nat} (h1:1≤i) (h2:i<E.length):(restE leaf i E).length<E.length:=by
 unfold restE
 split <;> rw [Zy] <;> omega
theorem Xkf {α:Type} {leaf:Bool}:∀ (n:Nat) {E:List Pr} (C:List α),E.length≤n→Keys E→fitsP leaf E=false→∃ p l,Parts leaf E C p l
 | 0,E,C,hn,hk,hf=>by have:=long_of hk hf;omega
 | n+1,E,C,hn,hk,hf=>by
  have hc:=Xea hk hf;obtain ⟨b,hb⟩:∃ b,E[Xgp leaf E]?=some b:=⟨_,Zc hc.2.1⟩;cases hr:fitsP leaf (restE leaf (Xgp leaf E) E)
  ·obtain ⟨p,l,hp⟩:=Xkf n (restC leaf (Xgp leaf E) C) (by have:=Xdj (leaf:=leaf) hc.1 hc.2.1;omega) (hk.rest _) hr
   exact ⟨_,_,.more rfl hb hr hp⟩
  ·exact ⟨_,_,.one rfl hb hr⟩
theorem parts_map {α β:Type} {leaf:Bool} (g:α→β) {E:List Pr} {C:List α} {p:List Pr × List α} {l:List (Pr × List Pr × List α)} (h:Parts leaf E C p l) :
  Parts leaf E (C.map g) (p.1,p.2.map g) (l.map fun x=>(x.1,x.2.1,x.2.2.map g)):=by
 have e1:∀ i (C:List α),Xgr leaf i (C.map g)=(Xgr leaf i C).map g:=fun i C=>by unfold Xgr;split <;> simp [Xx]
 have e2:∀ i (C:List α),restC leaf i (C.map g)=(restC leaf i C).map g:=fun i C=>by unfold restC;split <;> simp [Wk]
 induction h with
 | @one E C i b hi hb hf =>
  have:=Parts.one (C:=C.map g) hi hb hf;rw [e1,e2] at this;exact this
 | @more E C i b p l hi hb hf _ ih =>
  rw [←e2] at ih;have:=Parts.more hi hb hf ih;rw [e1] at this;exact this
theorem Xef {α:Type} {leaf:Bool} {E:List Pr} {C:List α} {p:List Pr × List α} {l:List (Pr × List Pr × List α)} (h:Parts leaf E C p l) (hk:Keys E) (hf:fitsP leaf E=false) :
  fitsP leaf p.1=true∧Keys p.1∧(∀ x∈l,fitsP leaf x.2.1=true∧x.1∈E∧Keys x.2.1)∧1≤l.length∧l.length<E.length:=by
 have ht:∀ {E:List Pr} (i:Nat),Keys E→Keys (E.take i):=fun i h=>h.sub fun e he=>Yn he
 induction h with
 | one hi hb hr =>
  have hc:=Xea hk hf;rw [hi] at hc;refine ⟨hc.2.2.1,ht _ hk,fun x hx=>?_,Zq _,by have:=hc.1;have:=hc.2.1;simp;omega⟩
  rw [Zo] at hx;subst hx;exact ⟨hr,Zm hb,hk.rest _⟩
 | @more E C i b p l hi hb hr hp ih =>
  have hc:=Xea hk hf;rw [hi] at hc;obtain ⟨a1,a2,a3,a4,a5⟩:=ih (hk.rest _) hr;refine ⟨hc.2.2.1,ht _ hk,fun x hx=>?_,by simp,by have:=Xdj (leaf:=leaf) hc.1 hc.2.1;simp only [Zz];omega⟩
  rcases Zg.1 hx with rfl | hx
  ·exact ⟨a1,Zm hb,a2⟩
  ·obtain ⟨b1,b2,b3⟩:=a3 x hx
   refine ⟨b1,?_,b3⟩;unfold restE at b2
   split at b2 <;> exact Ys b2
theorem Xkg {α:Type} {leaf:Bool} {E:List Pr} {C:List α} {p:List Pr × List α} {l:List (Pr × List Pr × List α)} (h:Parts leaf E C p l) (hk:Keys E) (hf:fitsP leaf E=false) :
  (sumE leaf E≤(if leaf then 693 else 989)→l.length=1)∧(sumE leaf E≤(if leaf then 814 else 1126)→l.length≤2):=by
 have key:∀ {E:List Pr} {C:List α} {p:List Pr × List α} {l:List (Pr × List Pr × List α)},Parts leaf E C p l→Keys E→fitsP leaf E=false→sumE leaf E≤(if leaf then 693 else 989)→l.length=1:=by
  intro E C p l h hk hf hs
  cases h with
  | one=>rfl
  | more hi hb hr hp =>
   have hc:=Xea hk hf;rw [hi] at hc;have h2:=Xlk hk hc hr;rw [Xib] at hr;unfold baseE at hr
   cases leaf <;> simp at * <;> omega
 refine ⟨key h hk hf,fun hs=>?_⟩
 cases h with
 | one=>simp
 | more hi hb hr hp =>
  have hc:=Xea hk hf;rw [hi] at hc;have h2:=Xlk hk hc hr;have:=key hp (hk.rest _) hr (by cases leaf <;> simp at * <;> omega)
  simp only [Zz];omega
end T
namespace T
open Go Go.RowKit
def up1 (u:List Pr × List Int) (x:Pr × Int):List Pr × List Int :=
 (u.1.take (Xao u.1 x.1)++x.1 :: u.1.drop (Xao u.1 x.1),u.2.take (Xao u.1 x.1+1)++x.2 :: u.2.drop (Xao u.1 x.1+1))
def ups (u:List Pr × List Int) (l:List (Pr × Int)):List Pr × List Int:=l.foldl up1 u
theorem ups_eq : ∀ (l:List (Pr × Int)) (el er:List Pr) (cl cr:List Int),cl.length=el.length+1→Up (el++l.map (·.1)++er)→ups (el++er,cl++cr) l=(el++l.map (·.1)++er,cl++l.map (·.2)++cr)
 | [],el,er,cl,cr,hl,hu=>by simp [ups]
 | (x,c) :: l,el,er,cl,cr,hl,hu=>by
  have hu1:Up (el++er):=hu.sublist (by simp);simp only [Zx,Zu] at hu;have hu2:=Zn.1 hu
  have hi:Xao (el++er) x=el.length:=by
   refine child_eq hu1 (by simp) (fun j hj=>?_) (fun h=>?_)
   ·rw [List.getElem_append_left hj]
    exact fun k=>lt_asymm (hu2.2.2 _ (Yx hj) x (by simp)) k
   ·rw [List.getElem_append_right (Zq _)]
    exact (Yh.1 hu2.2.1).1 _ (by simp)
  have e1:up1 (el++er,cl++cr) (x,c)=((el++[x])++er,(cl++[c])++cr):=by
   unfold up1;simp only [hi]
   rw [Wx,Wy,←hl,Wx,Wy] <;> simp
  show ups (up1 _ _) l=_;rw [e1,ups_eq l (el++[x]) er (cl++[c]) cr (by simp;omega) (by simpa using hu)]
  simp
theorem ups_sum : ∀ (l:List (Pr × Int)) (u:List Pr × List Int),sumE false (ups u l).1=sumE false u.1+sumE false (l.map (·.1))
 | [],u=>by simp [ups,sumE]
 | x :: l,u=>by
  show sumE false (ups (up1 u x) l).1=_;rw [ups_sum l];simp only [up1,Xbn,sumE,Zx];have:=Xde false u.1 (Xao u.1 x.1);omega
theorem Xnv : ∀ (l:List (Pr × Int)) (u:List Pr × List Int) (e:Pr),e∈(ups u l).1↔e∈u.1∨e∈l.map (·.1)
 | [],u,e=>by simp [ups]
 | x :: l,u,e=>by
  show e∈(ups (up1 u x) l).1↔_;rw [Xnv l];have:=Za (a:=e) (s:=u.1.take (Xao u.1 x.1)) (t:=u.1.drop (Xao u.1 x.1));rw [Yf] at this;simp only [up1,Za,Zg,Zx,this]
  constructor
  ·rintro ((h | h | h) | h)
   ·exact .inl (.inl h)
   ·exact .inr (.inl h)
   ·exact .inl (.inr h)
   ·exact .inr (.inr h)
  ·rintro ((h | h) | h | h)
   ·exact .inl (.inl h)
   ·exact .inl (.inr (.inr h))
   ·exact .inl (.inr (.inl h))
   ·exact .inr h
def numb (leaf:Bool):Nat→List (Pr × List Pr × List Int)→List Nd
 | _,[]=>[]
 | m,x :: l=>⟨-1-(m:Int),leaf,x.2.1,x.2.2⟩ :: numb leaf (m+1) l
def seps : Nat→List (Pr × List Pr × List Int)→List (Pr × Int)
 | _,[]=>[]
 | m,x :: l=>(x.1,-1-(m:Int)) :: seps (m+1) l
def ids : Nat→Nat→List Int
 | _,0=>[]
 | m,n+1=>(-1-(m:Int)) :: ids (m+1) n
theorem Xgh : ∀ (m a b:Nat),ids m (a+b)=ids m a++ids (m+a) b
 | m,0,b=>by simp [ids]
 | m,a+1,b=>by rw [Nat.add_right_comm];simp only [ids,Xa];rw [Xgh (m+1) a b,show m+(a+1)=m+1+a by omega]
theorem Xen (leaf:Bool):∀ (l:List (Pr × List Pr × List Int)) (m:Nat),(numb leaf m l).map (·.id)=ids m l.length
 | [],_=>rfl
 | x :: l,m=>by simp [numb,ids,Xen leaf l]
theorem Xbu (leaf:Bool):∀ (l:List (Pr × List Pr × List Int)) (m:Nat),(numb leaf m l).length=l.length
 | [],_=>rfl
 | x :: l,m=>by simp [numb,Xbu leaf l]
theorem Xch : ∀ (l:List (Pr × List Pr × List Int)) (m:Nat),(seps m l).map (·.1)=l.map (·.1)
 | [],_=>rfl
 | x :: l,m=>by simp [seps,Xch l]
theorem Xnm : ∀ (l:List (Pr × List Pr × List Int)) (m:Nat),(seps m l).map (·.2)=ids m l.length
 | [],_=>rfl
 | x :: l,m=>by simp [seps,ids,Xnm l]
inductive Splits : Nd→List Nd→List Nd→List Nd→List Nd→Prop
 | fits {n:Nd} {us F:List Nd} (hf:fitsP n.leaf n.es=true):Splits n us F (n :: us) F
 | root {n:Nd} {F:List Nd} {p:List Pr × List Int} {l:List (Pr × List Pr × List Int)} {W' F':List Nd} (hf:fitsP n.leaf n.es=false) (hp:Parts n.leaf n.es n.cs p l)
  (hs:Splits ⟨n.id,false,l.map (·.1),(-1-(F.length:Int)) :: ids (F.length+1) l.length⟩ [] (F++⟨-1-(F.length:Int),n.leaf,p.1,p.2⟩ :: numb n.leaf (F.length+1) l) W' F'):Splits n [] F W' F'
 | up {n u:Nd} {us F:List Nd} {p:List Pr × List Int} {l:List (Pr × List Pr × List Int)} {W' F':List Nd} (hf:fitsP n.leaf n.es=false) (hp:Parts n.leaf n.es n.cs p l)
  (hs:Splits ⟨u.id,u.leaf,(ups (u.es,u.cs) (seps F.length l)).1,(ups (u.es,u.cs) (seps F.length l)).2⟩ us (F++numb n.leaf F.length l) W' F'):Splits n (u :: us) F (⟨n.id,n.leaf,p.1,p.2⟩ :: W') F'
theorem Keys.fsts {E:List Pr} {l:List (Pr × List Pr × List Int)} (h:Keys E) (hl:∀ x∈l,x.1∈E):Keys (l.map (·.1)):=h.sub fun e he=>by
 obtain ⟨x,hx,rfl⟩:=Zi.1 he;exact hl x hx
theorem Xdk (leaf:Bool):∀ {E:List Pr},Keys E→sumE leaf E≤E.length*(if leaf then 312 else 316)
 | [],_=>by simp [sumE]
 | e :: E,h=>by
  have h1:=wE_le (leaf:=leaf) (h e (by simp)).1;have h2:=Xdk leaf (E:=E) (h.sub fun e he=>Yg _ he);simp only [sumE,Zz,Nat.succ_mul]
  cases leaf <;> simp at * <;> omega
theorem splits_root {n:Nd} {F W' F':List Nd} (h:Splits n [] F W' F') (hk:Keys n.es) (hl:n.leaf=false) (hs:sumE false n.es≤632):F'.length≤F.length+2:=by
 cases h with
 | fits=>omega
 | root hf hp hs2 =>
  rw [hl] at hf hp;have h1:=(Xkg hp hk hf).1 (by simp;omega)
  have h2:=(Xef hp hk hf)
  cases hs2 with
  | fits=>rw [Ze,Zz,Xbu];omega
  | root hf2 =>
   exfalso;have h3:=Xdk false (hk.fsts fun x hx=>(h2.2.2.1 x hx).2.1);rw [Xib] at hf2;simp only [Zl,h1,baseE] at h3 hf2;simp at h3 hf2;omega
theorem Xpm {n:Nd} {us F W' F':List Nd} (h:Splits n us F W' F') (hk:Keys n.es) (hs:sumE n.leaf n.es≤(if n.leaf then 814 else 1126)) (hu:∀ u∈us,u.leaf=false∧Keys u.es∧fitsP false u.es=true):F'.length≤F.length+2*us.length+5:=by
 induction h with
 | fits=>omega
 | @root n F p l W' F' hf hp hs2 =>
  have h1:=(Xkg hp hk hf).2 hs;have h2:=(Xef hp hk hf)
  have hk2:=hk.fsts fun x hx=>(h2.2.2.1 x hx).2.1
  have h3:=Xdk false hk2;simp at h3;have:=splits_root hs2 hk2 rfl (by simp only;omega)
  rw [Ze,Zz,Xbu] at this
  simp only [Wn];omega
 | @up n u us F p l W' F' hf hp hs2 ih =>
  have h1:=(Xkg hp hk hf).2 hs;have h2:=(Xef hp hk hf)
  have hk2:=hk.fsts fun x hx=>(h2.2.2.1 x hx).2.1
  have h3:=Xdk false hk2;obtain ⟨u1,u2,u3⟩:=hu u (by simp);rw [Xcf] at u3
  simp [baseE] at h3 u3
  have:=ih (u2.append hk2 |>.sub fun e he=>by simp only at he;rw [Xnv,Xch] at he;simpa using he) (by simp only;rw [u1,ups_sum,Xch];simp;omega) (fun v hv=>hu v (by simp [hv]));rw [Ze,Xbu] at this
  simp only [Zz];omega
end T
namespace T
open Go Go.RowKit
theorem Xhu : ∀ (E1:List Pr) (K1:List (List Tg)) (E2:List Pr) (K2:List (List Tg)),E1.length=K1.length→Xbg (E1++E2) (K1++K2)=Xbg E1 K1++Xbg E2 K2
 | [],[],_,_,_=>rfl
 | [],_ :: _,_,_,h=>by simp at h
 | _ :: _,[],_,_,h=>by simp at h
 | e :: E1,k :: K1,E2,K2,h=>by
  simp only [Xa,Xbg,Zu];rw [Xhu E1 K1 E2 K2 (by simpa using h)]
theorem Xkw : ∀ (E:List Pr) (b:Pr) (K:List (List Tg)),K.length=E.length+1→Xdm (E++[b]) K=weave E K++[sp b]
 | [],b,[k],_=>by simp [Xdm,weave]
 | [],_,[],h=>by simp at h
 | [],_,_ :: _ :: _,h=>by simp at h
 | e :: E,b,[],h=>by simp at h
 | e :: E,b,k :: K,h=>by
  simp only [Xa,Xdm,weave,Zu];rw [Xkw E b K (by simpa using h)]
theorem Xky (E:List Pr) (K:List (List Tg)) (hl:K.length=E.length+1) {i:Nat} {b:Pr} (hb:E[i]?=some b):weave E K=weave (E.take i) (K.take (i+1))++sp b :: weave (E.drop (i+1)) (K.drop (i+1)):=by
 obtain ⟨hi,rfl⟩:=Zh.1 hb
 have h1:E=(E.take i++[E[i]])++E.drop (i+1):=by
  rw [Zu,Vd,Ws,Yf]
 have h2:weave E K=weave ((E.take i++[E[i]])++E.drop (i+1)) (K.take (i+1)++K.drop (i+1)):=by rw [←h1,Yf]
 rw [h2,Xqb _ _ _ _ (by simp;omega),Xkw _ _ _ (by simp;omega)];simp
def newT {α:Type} {h:Nat} (mk:Int→List Pr × List α→Tr h):Nat→List (Pr × List Pr × List α)→List (Tr h)
 | _,[]=>[]
 | m,x :: l=>mk (-1-(m:Int)) x.2 :: newT mk (m+1) l
theorem Xnc {α:Type} {h:Nat} (mk:Int→List Pr × List α→Tr h):∀ (l:List (Pr × List Pr × List α)) (m:Nat),(newT mk m l).length=l.length
 | [],_=>rfl
 | x :: l,m=>by simp [newT,Xnc mk l]
theorem newT_mem {α:Type} {h:Nat} (mk:Int→List Pr × List α→Tr h):∀ {l:List (Pr × List Pr × List α)} {m:Nat} {t:Tr h},t∈newT mk m l→∃ i,∃ x∈l,t=mk i x.2
 | [],_,t,ht=>by cases ht
 | x :: l,m,t,ht=>by
  rcases Zg.1 ht with rfl | ht
  ·exact ⟨_,x,by simp,rfl⟩
  ·obtain ⟨i,y,hy,e⟩:=newT_mem mk ht
   exact ⟨i,y,by simp [hy],e⟩
theorem Xnd {α:Type} {h:Nat} (mk:Int→List Pr × List α→Tr h) (f:List Pr × List α→List Tg) (hf:∀ i x,seq h (mk i x)=f x):∀ (l:List (Pr × List Pr × List α)) (m:Nat),Xbg (l.map (·.1)) ((newT mk m l).map (seq h))=l.flatMap fun x=>sp x.1 :: f x.2
 | [],_=>rfl
 | x :: l,m=>by simp only [newT,Zx,Xbg,Yu,hf];rw [Xnd mk f hf l]
theorem Xne {α:Type} {h:Nat} (mk:Int→List Pr × List α→Tr h) (g:α→Int) (leaf:Bool) (hm:∀ i x,(mk i x).top=⟨i,leaf,x.1,x.2.map g⟩):∀ (l:List (Pr × List Pr × List α)) (m:Nat),(newT mk m l).map Tr.top=numb leaf m (l.map fun x=>(x.1,x.2.1,x.2.2.map g))
 | [],_=>rfl
 | x :: l,m=>by simp only [newT,Zx,numb,hm,Xne mk g leaf hm l]
theorem Xig {α:Type} {h:Nat} (mk:Int→List Pr × List α→Tr h) (f:List α→List Nd) (hm:∀ i x,below h (mk i x)=f x.2):∀ (l:List (Pr × List Pr × List α)) (m:Nat),(newT mk m l).flatMap (below h)=l.flatMap fun x=>f x.2.2
 | [],_=>rfl
 | x :: l,m=>by simp only [newT,Yu,hm,Xig mk f hm l]
theorem parts_node {h:Nat} {E:List Pr} {K:List (Tr h)} {p:List Pr × List (Tr h)} {l:List (Pr × List Pr × List (Tr h))} (hp:Parts false E K p l) (hk:Keys E) (hf:fitsP false E=false) (hl:K.length=E.length+1) :
  p.2.length=p.1.length+1∧(∀ x∈l,x.2.2.length=x.2.1.length+1)∧(∀ s:Tr h→List Tg,weave E (K.map s)=weave p.1 (p.2.map s)++l.flatMap fun x=>sp x.1 :: weave x.2.1 (x.2.2.map s))∧K=p.2++l.flatMap (·.2.2):=by
 induction hp with
 | @one E K i b hi hb hr =>
  have hc:=Xea hk hf;rw [hi] at hc;have hlt:=hc.2.1;simp only [Xgr,restC,restE,Bool.false_eq_true,if_false] at hr ⊢;refine ⟨by simp;omega,fun x hx=>?_,fun s=>?_,by simp⟩
  ·rw [Zo] at hx;subst hx
   simp;omega
  ·rw [Xky E (K.map s) (by simpa using hl) hb]
   simp [Xx,Wk]
 | @more E K i b p l hi hb hr hp ih =>
  have hc:=Xea hk hf;rw [hi] at hc;have ih:=ih (hk.rest _) hr;have hlt:=hc.2.1;simp only [Xgr,restC,restE,Bool.false_eq_true,if_false] at hr ih ⊢;obtain ⟨a1,a2,a3,a4⟩:=ih (by simp;omega)
  refine ⟨by simp;omega,fun x hx=>?_,fun s=>?_,?_⟩
  ·rcases Zg.1 hx with rfl | hx
   ·exact a1
   ·exact a2 x hx
  ·rw [Xky E (K.map s) (by simpa using hl) hb,←Wk,a3 s]
   simp [Xx]
  ·simp only [Yu]
   rw [←a4,Yf]
theorem parts_leaf {E:List Pr} {C:List Int} {p:List Pr × List Int} {l:List (Pr × List Pr × List Int)} (hp:Parts true E C p l) (hk:Keys E) (hf:fitsP true E=false) :
  p.2=[]∧(∀ x∈l,x.2.2=[])∧E=p.1++l.flatMap (·.2.1)∧p.1≠[]∧∀ x∈l,x.2.1.head?=some x.1:=by
 induction hp with
 | @one E C i b hi hb hr =>
  have hc:=Xea hk hf;rw [hi] at hc;have hlt:=hc.2.1;refine ⟨rfl,fun x hx=>?_,by simp [restE],?_,fun x hx=>?_⟩
  ·rw [Zo] at hx;subst hx;rfl
  ·intro e
   have:=congrArg List.length e;rw [Zj,Wn] at this;have:=hc.1;omega
  ·rw [Zo] at hx;subst hx
   simp only [restE,if_true];rw [List.head?_drop,hb]
 | @more E C i b p l hi hb hr hp ih =>
  have hc:=Xea hk hf;rw [hi] at hc;have hlt:=hc.2.1;obtain ⟨a1,a2,a3,a4,a5⟩:=ih (hk.rest _) hr
  have hd:b :: (E.drop (i+1))=restE true i E:=by
   obtain ⟨h1,rfl⟩:=Zh.1 hb;simp only [restE,if_true];rw [Ws]
  refine ⟨rfl,fun x hx=>?_,?_,?_,fun x hx=>?_⟩
  ·rcases Zg.1 hx with rfl | hx
   ·exact a1
   ·exact a2 x hx
  ·simp only [Yu]
   rw [←a3]
   simp [restE]
  ·intro e
   have:=congrArg List.length e;rw [Zj,Wn] at this;have:=hc.1;omega
  ·rcases Zg.1 hx with rfl | hx
   ·rw [←hd] at a3
    cases h:p.1 with
    | nil=>exact absurd h a4
    | cons y z=>rw [h] at a3;simp at a3;simp [a3.1]
   ·exact a5 x hx
theorem en_en {a b:Pr} (h:tlt (en a) (en b)):lt a b:=by
 rcases h with h | ⟨_,h,_⟩
 ·exact h
 ·cases h
theorem ris_sep {A B:List Tg} {a b:Pr} (h:Ris (A++en a :: en b :: B)):Ris (A++en a :: sp b :: en b :: B):=by
 unfold Ris at *;rw [Zn] at *;obtain ⟨h1,h2,h3⟩:=h;rw [Yh,Yh] at h2;obtain ⟨h4,h5,h6⟩:=h2;have hab:=en_en (h4 _ (List.mem_cons_self ..));have k1:tlt (sp b) (en b):=.inr ⟨rfl,rfl,rfl⟩;have k2:tlt (en a) (sp b):=.inl hab;refine ⟨h1,?_,fun x hx y hy=>?_⟩
 ·rw [Yh,Yh,Yh]
  refine ⟨fun y hy=>?_,fun y hy=>?_,h5,h6⟩
  ·rcases Zg.1 hy with rfl | hy
   ·exact k2
   ·exact h4 y hy
  ·rcases Zg.1 hy with rfl | hy
   ·exact k1
   ·exact Xhq k1 (h5 y hy)
 ·rcases Zg.1 hy with rfl | hy
  ·exact h3 x hx _ (by simp)
  ·rcases Zg.1 hy with rfl | hy
   ·exact Xhq (h3 x hx (en a) (by simp)) k2
   ·exact h3 x hx y (by simp [hy])
theorem Xkl : ∀ (l:List (Pr × List Pr × List Int)) (P:List Pr) (A B:List Tg),P≠[]→(∀ x∈l,x.2.1.head?=some x.1)→Ris (A++(P++l.flatMap (·.2.1)).map en++B)→Ris (A++(P.map en++l.flatMap fun x=>sp x.1 :: x.2.1.map en)++B)
 | [],P,A,B,_,_,h=>by simpa using h
 | x :: l,P,A,B,hP,hx,h=>by
  have h0:=hx x (by simp);obtain ⟨P0,a,rfl⟩:∃ P0 a,P=P0++[a]:=⟨P.dropLast,P.getLast hP,(List.dropLast_concat_getLast hP).symm⟩
  obtain ⟨Q,hQ⟩:∃ Q,x.2.1=x.1 :: Q:=by
   cases e:x.2.1 with
   | nil=>rw [e] at h0;simp at h0
   | cons y z=>rw [e] at h0;simp at h0;exact ⟨z,by rw [h0]⟩
  have h1:Ris ((A++P0.map en)++en a :: en x.1 :: (Q.map en++(l.flatMap (·.2.1)).map en++B)):=by
   simp only [Yu,hQ] at h
   simpa [Zu] using h
  have h2:=ris_sep h1;have h3:=Xkl l x.2.1 (A++P0.map en++[en a,sp x.1]) B (by rw [hQ];simp) (fun y hy=>hx y (by simp [hy])) (by rw [hQ];simpa [Zu] using h2)
  simpa [Zu] using h3
theorem ents_sp (b:Pr) (l:List Tg):ents (sp b :: l)=ents l:=by simp [ents,sp]
theorem Xlx (m:Nat):∀ {h:Nat} (cur:Tr h),Keys cur.es→fitsP cur.top.leaf cur.es=false→Wf h cur →
  ∃ (p:List Pr × List Int) (l:List (Pr × List Pr × List Int)) (first:Tr h) (others:List (Tr h)),Parts cur.top.leaf cur.es cur.top.cs p l∧first.top=⟨cur.id,cur.top.leaf,p.1,p.2⟩∧others.map Tr.top=numb cur.top.leaf m l ∧
   Wf h first∧(∀ t∈others,Wf h t)∧others.length=l.length∧below h first++others.flatMap (below h)=below h cur ∧
   (∀ A B,Ris (A++seq h cur++B)→Ris (A++(seq h first++Xbg (l.map (·.1)) (others.map (seq h)))++B))∧ents (seq h first++Xbg (l.map (·.1)) (others.map (seq h)))=ents (seq h cur)
 | 0,cur,hk,hf,hw=>by
  obtain ⟨i,E,rfl⟩:=Tr.is_leaf cur;rw [Tr.leaf_top] at *;simp only [Tr.leaf_es,Tr.leaf_id] at *;obtain ⟨p,l,hp⟩:=Xkf (leaf:=true) E.length ([]:List Int) (Zq _) hk hf;obtain ⟨a1,a2,a3,a4,a5⟩:=parts_leaf hp hk hf;have hseq:=Xnd (α:=Int) (fun i x=>Tr.leaf i x.1) (fun x=>x.1.map en) (fun _ _=>rfl) l m;refine ⟨p,l,.leaf i p.1,newT (fun i x=>Tr.leaf i x.1) m l,hp,by rw [a1];rfl,?_,trivial,fun _ _=>trivial,Xnc _ _ _,?_,fun A B hr=>?_,?_⟩
  ·have h1:=Xne (α:=Int) (fun i x=>Tr.leaf i x.1) (fun _=>0) true
   have h2:∀ (l:List (Pr × List Pr × List Int)) (m:Nat),(∀ x∈l,x.2.2=[])→(newT (fun i x=>Tr.leaf i x.1) m l).map Tr.top=numb true m l:=by
    intro l
    induction l with
    | nil=>intros;rfl
    | cons x l ih=>intro m hx;simp only [newT,Zx,numb,ih (m+1) (fun y hy=>hx y (by simp [hy])),hx x (by simp)];rfl
   exact h2 l m a2
  ·rw [Xig (α:=Int) (fun i x=>Tr.leaf i x.1) (fun _=>[]) (fun _ _=>rfl)]
   show []++List.flatMap _ l=[];simp
  ·rw [hseq,Xcn]
   rw [Xcn,a3] at hr;exact Xkl l p.1 A B a4 a5 hr
  ·rw [hseq,Xcn,Xcn,Xfn,Xby,Xfn]
   conv=>rhs;rw [a3]
   congr 1;clear hseq a1 a2 a3 a4 a5 hp
   induction l with
   | nil=>rfl
   | cons x l ih=>simp only [Yu,Xby,ents_sp,Xfn,ih]
 | h+1,cur,hk,hf,hw=>by
  obtain ⟨i,E,K,rfl⟩:=Tr.is_node cur;rw [Tr.node_top] at *;simp only [Tr.node_es,Tr.node_id] at *;rw [Xce] at hw;obtain ⟨p,l,hp⟩:=Xkf (leaf:=false) E.length K (Zq _) hk hf;obtain ⟨a1,a2,a3,a4⟩:=parts_node hp hk hf hw.1;have hseq:=Xnd (α:=Tr h) (fun i x=>Tr.node i x.1 x.2) (fun x=>weave x.1 (x.2.map (seq h))) (fun _ _=>rfl) l m
  have hmem:∀ k,k∈K↔k∈p.2∨∃ x∈l,k∈x.2.2:=fun k=>by rw [a4,Za,Yl]
  have hfst:((l.map fun x=>(x.1,x.2.1,x.2.2.map Tr.id)).map fun x=>x.1)=l.map (·.1):=by rw [Yw];rfl
  refine ⟨(p.1,p.2.map Tr.id),l.map fun x=>(x.1,x.2.1,x.2.2.map Tr.id),.node i p.1 p.2,newT (fun i x=>Tr.node i x.1 x.2) m l,parts_map Tr.id hp,rfl,Xne _ Tr.id false (fun _ _=>rfl) l m,?_,fun t ht=>?_,by rw [Xnc,Zl],?_,fun A B hr=>?_,?_⟩
  ·rw [Xce]
   exact ⟨a1,fun k hk=>hw.2 k ((hmem k).2 (.inl hk))⟩
  ·obtain ⟨j,x,hx,rfl⟩:=newT_mem _ ht
   rw [Xce];exact ⟨a2 x hx,fun k hk=>hw.2 k ((hmem k).2 (.inr ⟨x,hx,hk⟩))⟩
  ·rw [Xig (α:=Tr h) (fun i x=>Tr.node i x.1 x.2) (fun K=>K.flatMap fun k=>k.top :: below h k) (fun _ _=>rfl)]
   show p.2.flatMap (fun k=>k.top :: below h k)++_=K.flatMap fun k=>k.top :: below h k
   rw [a4,Wg];congr 1;rw [List.flatMap_assoc]
  ·rw [hfst,hseq,Xcb]
   rw [Xcb,a3] at hr;exact hr
  ·rw [hfst,hseq,Xcb,Xcb,a3]
end T
namespace T
open Go Go.RowKit
def setId (j:Int):{h:Nat}→Tr h→Tr h
 | 0,t=>.leaf j t.es
 | _+1,t=>.node j t.es t.kids
theorem Xnn (j:Int):∀ {h:Nat} (t:Tr h),(setId j t).id=j
 | 0,_=>rfl
 | _+1,_=>rfl
theorem Xfz (j:Int):∀ {h:Nat} (t:Tr h),(setId j t).top=⟨j,t.top.leaf,t.top.es,t.top.cs⟩
 | 0,_=>rfl
 | _+1,_=>rfl
theorem Xkn (j:Int):∀ {h:Nat} (t:Tr h),seq h (setId j t)=seq h t
 | 0,_=>rfl
 | _+1,_=>rfl
theorem Xgz (j:Int):∀ {h:Nat} (t:Tr h),below h (setId j t)=below h t
 | 0,_=>rfl
 | _+1,_=>rfl
theorem Xno (j:Int):∀ {h:Nat} {t:Tr h},Wf h t→Wf h (setId j t)
 | 0,_,_=>trivial
 | _+1,_,h=>h
def Res {H h:Nat} (c:Ctx H h) (cur:Tr h) (F W' F':List Nd) {H':Nat} (t':Tr H'):Prop :=
 Wf H' t'∧Ris (seq H' t')∧ents (seq H' t')=ents (seq H (plug c cur))∧t'.id=(plug c cur).id∧∃ G,F'=F++G∧G.map (·.id)=ids F.length G.length ∧
  (nodes H' t').Perm (W'++G++below h cur++rest c)∧W'.map (·.id)=cur.id :: (path c cur.id).reverse.map (·.id)∧∀ n∈W'++G,fitsP n.leaf n.es=true∧Keys n.es
theorem tops_id {h:Nat} (l:List (Tr h)):l.map Tr.id=(l.map Tr.top).map (·.id):=by
 rw [Yw]
 exact Xc fun t _=>(Tr.top_id t).symm
theorem Xic {h:Nat} (l:List (Tr h)):(l.flatMap (nodes h)).Perm (l.map Tr.top++l.flatMap (below h)):=by
 induction l with
 | nil=>simp
 | cons t l ih =>
  simp only [Yu,Zx,nodes,Xa]
  refine List.Perm.cons _ ?_
  refine (ih.append_left _).trans ?_
  rw [←Zu,←Zu];exact (List.perm_append_comm).append_right _
theorem Xnf {leaf:Bool}:∀ {l:List (Pr × List Pr × List Int)} {m:Nat},(∀ x∈l,fitsP leaf x.2.1=true∧Keys x.2.1)→∀ n∈numb leaf m l,fitsP n.leaf n.es=true∧Keys n.es
 | [],_,_,n,hn=>by cases hn
 | x :: l,m,h,n,hn=>by
  rcases Zg.1 hn with rfl | hn
  ·exact h x (by simp)
  ·exact Xnf (fun y hy=>h y (by simp [hy])) n hn
theorem splits_top : ∀ (n:Nat) {h:Nat} (cur:Tr h) (F:List Nd),cur.es.length≤n→Wf h cur→Ris (seq h cur)→Keys cur.es →
  ∃ (W' F':List Nd) (H':Nat) (t':Tr H'),Splits cur.top [] F W' F'∧Res .nil cur F W' F' t':=by
 intro n
 induction n with
 | zero =>
  intro h cur F hn hw hr hk;cases hf:fitsP cur.top.leaf cur.es
  ·have:=long_of hk hf;omega
  ·exact ⟨_,_,h,cur,.fits (by rw [Tr.top_es];exact hf),hw,hr,rfl,rfl,[],by simp,rfl,by simp [nodes,rest],by simp [path,Tr.top_id],fun m hm=>by simp at hm;subst hm;rw [Tr.top_es];exact ⟨hf,hk⟩⟩
 | succ n ih =>
  intro h cur F hn hw hr hk;cases hf:fitsP cur.top.leaf cur.es
  case true=>exact ⟨_,_,h,cur,.fits (by rw [Tr.top_es];exact hf),hw,hr,rfl,rfl,[],by simp,rfl,by simp [nodes,rest],by simp [path,Tr.top_id],fun m hm=>by simp at hm;subst hm;rw [Tr.top_es];exact ⟨hf,hk⟩⟩
  case false =>
   obtain ⟨p,l,first,others,hp,b1,b2,b3,b4,b5,b6,b7,b8⟩:=Xlx (F.length+1) cur hk hf hw;have hft:=Xef hp hk hf
   have hid:others.map Tr.id=ids (F.length+1) l.length:=by rw [tops_id,b2,Xen]
   have hk2:Keys (l.map (·.1)):=hk.fsts fun x hx=>(hft.2.2.1 x hx).2.1
   have hseq:seq (h+1) (.node cur.id (l.map (·.1)) (setId (-1-(F.length:Int)) first :: others))=seq h first++Xbg (l.map (·.1)) (others.map (seq h)):=by
    rw [Xcb,Zx,Xkz _ _ _ (by simp [b5]),Xkn]
   obtain ⟨W',F',H',t',hS,r1,r2,r3,r4,G,r5,r6,r7,r8,r9⟩:=ih (.node cur.id (l.map (·.1)) (setId (-1-(F.length:Int)) first :: others)) (F++⟨-1-(F.length:Int),cur.top.leaf,p.1,p.2⟩ :: numb cur.top.leaf (F.length+1) l)
    (by simp;omega) (by rw [Xce];refine ⟨by simp [b5],fun k hk=>?_⟩;rcases Zg.1 hk with rfl | hk <;> first | exact Xno _ b3 | exact b4 _ hk) (by rw [hseq];simpa using b7 [] [] (by simpa using hr)) (by simpa using hk2)
   have hft1:(setId (-1-(F.length:Int)) first).top=⟨-1-(F.length:Int),cur.top.leaf,p.1,p.2⟩:=by rw [Xfz,b1]
   refine ⟨W',F',H',t',.root (by rw [Tr.top_es];exact hf) (by rw [Tr.top_es];exact hp) ?_,r1,r2,?_,?_,(⟨-1-(F.length:Int),cur.top.leaf,p.1,p.2⟩ :: numb cur.top.leaf (F.length+1) l)++G,by rw [r5,Zu],?_,?_,?_,?_⟩
   ·rw [Tr.node_top,Zx,Xnn,hid] at hS
    rw [Tr.top_id];exact hS
   ·rw [r3]
    show ents (seq (h+1) (Tr.node cur.id (l.map (·.1)) (setId (-1-(F.length:Int)) first :: others)))=ents (seq h cur)
    rw [hseq];exact b8
   ·rw [r4];rfl
   ·rw [Zs,Zx,Xen,r6]
    simp only [Ze,Zz,Xbu];rw [Xgh F.length (l.length+1) G.length];rfl
   ·refine r7.trans ?_
    have h1:below (h+1) (.node cur.id (l.map (·.1)) (setId (-1-(F.length:Int)) first :: others))=(setId (-1-(F.length:Int)) first :: others).flatMap (nodes h):=rfl;have h2:=Xic (setId (-1-(F.length:Int)) first :: others);rw [←h1,Zx,hft1,b2,Yu,Xgz,b6] at h2;simp only [rest,Xj]
    refine (h2.append_left (W'++G)).trans ?_
    rw [Wz];intro a
    simp only [Vh];omega
   ·rw [r8];simp [path]
   ·intro m hm
    rw [←Zu] at hm
    rcases Za.1 hm with hm | hm
    ·rcases Za.1 hm with hm | hm
     ·exact r9 m (by simp [hm])
     ·rcases Zg.1 hm with rfl | hm
      ·exact ⟨hft.1,hft.2.1⟩
      ·exact Xnf (fun x hx=>⟨(hft.2.2.1 x hx).1,(hft.2.2.1 x hx).2.2⟩) m hm
    ·exact r9 m (by simp [hm])
theorem Xkr {H:Nat}:∀ {h:Nat} (c:Ctx H h) (cur:Tr h) (F:List Nd),Good c→Wf h cur→Ris (seq H (plug c cur))→Keys cur.es→(∀ u∈path c cur.id,fitsP u.leaf u.es=true∧Keys u.es) →
  ∃ (W' F':List Nd) (H':Nat) (t':Tr H'),Splits cur.top (path c cur.id).reverse F W' F'∧Res c cur F W' F' t'
 | _,.nil,cur,F,hg,hw,hr,hk,hu=>splits_top _ cur F (Zq _) hw hr hk
 | h,.cons f c,cur,F,hg,hw,hr,hk,hu=>by
  cases hf:fitsP cur.top.leaf cur.es
  case true =>
   refine ⟨_,_,H,plug (.cons f c) cur,.fits (by rw [Tr.top_es];exact hf),wf_plug _ _ hg hw,hr,rfl,rfl,[],by simp,rfl,?_,by simp [Tr.top_id],fun m hm=>?_⟩
   ·refine (Xbb (.cons f c) cur).trans ?_
    rw [Wz];intro a
    simp only [Vh,nodes,List.count_cons,List.count_nil,List.count_reverse];omega
   ·simp only [Xj,Zg,List.mem_reverse] at hm
    rcases hm with rfl | hm
    ·rw [Tr.top_es];exact ⟨hf,hk⟩
    ·exact hu m hm
  case false =>
   obtain ⟨g1,g2,g3,g4,g5⟩:=hg;obtain ⟨p,l,first,others,hp,b1,b2,b3,b4,b5,b6,b7,b8⟩:=Xlx F.length cur hk hf hw;have hft:=Xef hp hk hf
   have hid:others.map Tr.id=ids F.length l.length:=by rw [tops_id,b2,Xen]
   have hfi:first.id=cur.id:=by rw [←Tr.top_id,b1]
   have hk2:Keys (l.map (·.1)):=hk.fsts fun x hx=>(hft.2.2.1 x hx).2.1
   obtain ⟨f2,hf2⟩:∃ f2:Fr h,f2=⟨f.id,f.el,l.map (·.1)++f.er,f.kl,others++f.kr⟩:=⟨_,rfl⟩
   have q2:f2.er.length=f2.kr.length:=by rw [hf2];simp [b5,g2]
   have q1:f2.el.length=f2.kl.length:=by rw [hf2];exact g1
   have hw2:Wf (h+1) (f2.tree first):=by
    refine wf_tree f2 first q1 q2 (by rw [hf2];exact g3) (fun k hk=>?_) b3
    rw [hf2] at hk
    rcases Za.1 hk with hk | hk
    ·exact b4 k hk
    ·exact g4 k hk
   have hseq:seq (h+1) (f2.tree first)=Xdm f.el (f.kl.map (seq h))++(seq h first++Xbg (l.map (·.1)) (others.map (seq h)))++Xbg f.er (f.kr.map (seq h)):=by
    rw [Xhn f2 first q1 q2,hf2];simp only [Zs];rw [Xhu _ _ _ _ (by simp [b5])]
    simp [Zu]
   have hr1:Ris (seq H (plug c (f2.tree first))):=by
    rw [Xco c _ g5,hseq]
    have h1:Ris ((pre c++Xdm f.el (f.kl.map (seq h)))++seq h cur++(Xbg f.er (f.kr.map (seq h))++post c)):=by
     have h2:=Xco c (f.tree cur) g5;rw [Xhn f cur g1 g2] at h2;rw [show plug (.cons f c) cur=plug c (f.tree cur) from rfl,h2] at hr
     simpa [Zu] using hr
    have:=b7 _ _ h1
    simpa [Zu] using this
   have hr2:Ris (seq (h+1) (f2.tree first)):=by
    rw [Xco c _ g5] at hr1;exact (Zn.1 (Zn.1 hr1).1).2.1
   have hup:Up (f.el++l.map (·.1)++f.er):=by
    have:=Xpv (i:=f2.id) (E:=f2.el++f2.er) (K:=f2.kl++first :: f2.kr) hw2 hr2;rw [hf2] at this
    simpa [Zu] using this
   have hue:=ups_eq (seps F.length l) f.el f.er (f.kl.map Tr.id++[cur.id]) (f.kr.map Tr.id) (by simp [g1]) (by rw [Xch];exact hup);rw [Xch,Xnm,←hid] at hue
   have hmem:f.nd cur.id∈path (.cons f c) cur.id:=by simp [path]
   have hkf:=(hu _ hmem).2;obtain ⟨W',F',H',t',hS,r1,r2,r3,r4,G,r5,r6,r7,r8,r9⟩:=Xkr c (f2.tree first) (F++numb cur.top.leaf F.length l) g5 hw2 hr1
    (by
     have:(f2.tree first).es=f.el++(l.map (·.1)++f.er):=by rw [hf2];rfl
     rw [this]
     exact (hkf.append hk2).sub fun e he=>by
      simp only [Za] at he ⊢
      rcases he with h | h | h
      ·exact .inl (Za.2 (.inl h))
      ·exact .inr h
      ·exact .inl (Za.2 (.inr h)))
    (fun u hm=>hu u (by
     have e1:(f2.tree first).id=f.id:=by rw [hf2];rfl
     rw [e1] at hm
     simp [path,hm]))
   have e1:(f2.tree first).id=f.id:=by rw [hf2];rfl
   have hrev:(path (.cons f c) cur.id).reverse=f.nd cur.id :: (path c f.id).reverse:=by simp [path]
   refine ⟨⟨cur.id,cur.top.leaf,p.1,p.2⟩ :: W',F',H',t',?_,r1,r2,?_,?_,numb cur.top.leaf F.length l++G,by rw [r5,Zu],?_,?_,?_,?_⟩
   ·rw [hrev]
    have h3:=Splits.up (n:=cur.top) (u:=f.nd cur.id) (us:=(path c f.id).reverse) (F:=F) (p:=p) (l:=l) (W':=W') (F':=F') (by rw [Tr.top_es];exact hf) (by rw [Tr.top_es];exact hp) (by
     rw [e1,Fr.top] at hS
     have e2:ups ((f.nd cur.id).es,(f.nd cur.id).cs) (seps F.length l)=(f.el++l.map (·.1)++f.er,f.kl.map Tr.id++[cur.id]++others.map Tr.id++f.kr.map Tr.id):=by
      rw [←hue];show ups (f.el++f.er,f.kl.map Tr.id++cur.id :: f.kr.map Tr.id) _=_;simp
     rw [e2]
     have e3:f2.nd first.id=⟨(f.nd cur.id).id,(f.nd cur.id).leaf,f.el++l.map (·.1)++f.er,f.kl.map Tr.id++[cur.id]++others.map Tr.id++f.kr.map Tr.id⟩:=by
      rw [hf2,hfi]
      simp [Fr.nd]
     rw [e3] at hS
     exact hS)
    rw [Tr.top_id] at h3;exact h3
   ·rw [r3,show plug (.cons f c) cur=plug c (f.tree cur) from rfl,Xco c _ g5,Xco c _ g5,hseq,Xhn f cur g1 g2]
    simp only [Xby] at b8 ⊢;rw [b8]
   ·rw [r4]
    have:∀ {h:Nat} (c:Ctx H h) (a b:Tr h),a.id=b.id→(plug c a).id=(plug c b).id:=by
     intro h c
     induction c with
     | nil=>intro a b e;exact e
     | cons g c ih=>intro a b _;exact ih (g.tree a) (g.tree b) rfl
    exact this c (f2.tree first) (f.tree cur) (by rw [e1];rfl)
   ·rw [Zs,Xen,r6]
    simp only [Ze,Xbu];rw [Xgh F.length l.length G.length]
   ·refine r7.trans ?_
    have h1:below (h+1) (f2.tree first)=(f2.kl++first :: f2.kr).flatMap (nodes h):=rfl;have h2:=Xic (first :: others);rw [Zx,b1,b2,Yu,Yu,b6] at h2;rw [h1,hf2];simp only [rest,Wg,Yu];rw [Wz] at h2 ⊢;intro a;have h2:=h2 a;simp only [Vh,List.count_cons] at h2 ⊢;omega
   ·rw [Zx,r8,e1,hrev]
    simp [Fr.nd]
   ·intro m hm
    rw [Xa] at hm
    rcases Zg.1 hm with rfl | hm
    ·exact ⟨hft.1,hft.2.1⟩
    ·rcases Za.1 hm with hm | hm
     ·exact r9 m (by simp [hm])
     ·rcases Za.1 hm with hm | hm
      ·exact Xnf (fun x hx=>⟨(hft.2.2.1 x hx).1,(hft.2.2.1 x hx).2.2⟩) m hm
      ·exact r9 m (by simp [hm])
end T
namespace T
open Go Go.RowKit
def packG (f:Pr) (g:List Pr):List Pr→List (Pr × List Pr)
 | []=>[(f,g)]
 | x :: l=>if fitsP true (g++[x]) then packG f (g++[x]) l else (f,g) :: packG x [x] l
def upG {α:Type} (f:Pr) (E:List Pr) (C:List α):List (Pr × α)→List (Pr × List Pr × List α)
 | []=>[(f,E,C)]
 | x :: l=>if fitsP false (E++[x.1]) then upG f (E++[x.1]) (C++[x.2]) l else (f,E,C) :: upG x.1 [] [x.2] l
def upL {α:Type}:List (Pr × α)→List (Pr × List Pr × List α)
 | []=>[]
 | x :: l=>upG x.1 [] [x.2] l
theorem upG_map {α β:Type} (g:α→β):∀ (l:List (Pr × α)) (f:Pr) (E:List Pr) (C:List α),upG f E (C.map g) (l.map fun x=>(x.1,g x.2))=(upG f E C l).map fun x=>(x.1,x.2.1,x.2.2.map g)
 | [],f,E,C=>rfl
 | x :: l,f,E,C=>by
  simp only [Zx,upG];split
  ·rw [←upG_map g l f (E++[x.1]) (C++[x.2])];simp
  ·rw [Zx,←upG_map g l x.1 [] [x.2]];simp
theorem upL_map {α β:Type} (g:α→β) (l:List (Pr × α)):upL (l.map fun x=>(x.1,g x.2))=(upL l).map fun x=>(x.1,x.2.1,x.2.2.map g):=by
 cases l with
 | nil=>rfl
 | cons x l=>exact upG_map g l x.1 [] [x.2]
theorem Xkc {x:Pr} {l:List Pr} (h:Keys (x :: l)):x.1.length≤300∧Keys [x]∧Keys l :=
 ⟨(h x (by simp)).1,h.sub (by simp),h.sub fun e he=>Yg _ he⟩
structure PackR (g l:List Pr) (R:List (Pr × List Pr)):Prop where
 ne:R≠[]
 flat:R.flatMap (·.2)=g++l
 fit:∀ y∈R,fitsP true y.2=true
 head:∀ y∈R.tail,y.2.head?=some y.1
 full:R.tail≠[]→∀ y∈R,y.2≠[]
 heavy:503*R.tail.length≤sumE true (g++l)+sumE true (R.tail.map (·.1))
theorem Xjg : ∀ (l:List Pr) (f:Pr) (g:List Pr),Keys l→fitsP true g=true→PackR g l (packG f g l)∧(packG f g l).head?=some (f,((packG f g l).head?.map (·.2)).getD [])∧(g.head?.isSome→(((packG f g l).head?.map (·.2)).getD []).head?=g.head?)
 | [],f,g,hk,hg=>⟨⟨by simp [packG],by simp [packG],by simp [packG,hg],by simp [packG],by simp [packG],by simp [packG]⟩,by simp [packG],by simp [packG]⟩
 | x :: l,f,g,hk,hg=>by
  obtain ⟨k1,k2,k3⟩:=Xkc hk;unfold packG;split
  ·rename_i hf
   obtain ⟨h1,h2,h3⟩:=Xjg l f (g++[x]) k3 hf;refine ⟨⟨h1.ne,by rw [h1.flat];simp,h1.fit,h1.head,h1.full,by have:=h1.heavy;simpa using this⟩,h2,fun hs=>?_⟩
   rw [h3 (by simp)]
   cases g with
   | nil=>simp at hs
   | cons=>rfl
  ·rename_i hf
   obtain ⟨h1,h2,h3⟩:=Xjg l x [x] k3 (Xgk k1)
   have hgn:g≠[]:=by
    rintro rfl;exact hf (Xgk k1)
   have hne:=h1.ne;obtain ⟨y,t,hy⟩:=Wt hne;refine ⟨⟨by simp,by simp [h1.flat],fun z hz=>?_,fun z hz=>?_,fun _ z hz=>?_,?_⟩,by simp,by simp⟩
   ·rcases Zg.1 hz with rfl | hz
    ·exact hg
    ·exact h1.fit z hz
   ·rw [List.tail_cons,hy] at hz
    rcases Zg.1 hz with rfl | hz
    ·rw [hy] at h2 h3
     simp at h2 h3;rw [h3,h2]
    ·exact h1.head z (by rw [hy];exact hz)
   ·rcases Zg.1 hz with rfl | hz
    ·exact hgn
    ·by_cases ht:t=[]
     ·rw [hy,ht] at hz
      rw [hy] at h3;simp at h3 hz;subst hz;intro e
      rw [e] at h3;simp at h3
     ·exact h1.full (by rw [hy];exact ht) z hz
   ·have h4:=h1.heavy
    rw [Bool.not_eq_true,Xib,Xbn] at hf;rw [hy] at h4 h2 ⊢;simp at h2;simp only [List.tail_cons,Zz,Zx,sumE,Xbn,baseE] at h4 hf ⊢;rw [h2];simp only [if_true] at h4 hf ⊢;omega
theorem Xml : ∀ (E:List Pr) (b:Pr) (K:List (List Tg)) (k:List Tg),K.length=E.length+1→weave (E++[b]) (K++[k])=weave E K++sp b :: k
 | [],b,[k0],k,_=>by simp [weave]
 | [],_,[],_,h=>by simp at h
 | [],_,_ :: _ :: _,_,h=>by simp at h
 | e :: E,b,[],_,h=>by simp at h
 | e :: E,b,k0 :: K,k,h=>by
  simp only [Xa,weave,Zu];rw [Xml E b K k (by simpa using h)]
def lvlS : List (Pr × List Tg)→List Tg
 | []=>[]
 | x :: t=>x.2++Xbg (t.map (·.1)) (t.map (·.2))
structure UpR {α:Type} (E:List Pr) (C:List α) (l:List (Pr × α)) (R:List (Pr × List Pr × List α)):Prop where
 ne:R≠[]
 flat:R.flatMap (·.2.2)=C++l.map (·.2)
 long:∀ y∈R,y.2.2.length=y.2.1.length+1
 fit:∀ y∈R,fitsP false y.2.1=true∧Keys y.2.1
 sub:∀ y∈R.tail,y.1∈l.map (·.1)
 sum:∀ s:α→List Tg,lvlS (R.map fun y=>(y.1,weave y.2.1 (y.2.2.map s)))=weave E (C.map s)++Xbg (l.map (·.1)) (l.map fun x=>s x.2)
 heavy:495*R.tail.length≤sumE false E+sumE false (l.map (·.1))
theorem upG_ok {α:Type}:∀ (l:List (Pr × α)) (f:Pr) (E:List Pr) (C:List α),Keys (l.map (·.1))→Keys E→fitsP false E=true→C.length=E.length+1→UpR E C l (upG f E C l)∧(upG f E C l).head?.map (·.1)=some f
 | [],f,E,C,hk,hE,hf,hl=>⟨⟨by simp [upG],by simp [upG],by simp [upG,hl],by simp [upG,hf,hE],by simp [upG],fun s=>by simp [upG,lvlS,Xbg],by simp [upG]⟩,rfl⟩
 | x :: l,f,E,C,hk,hE,hf,hl=>by
  rw [Zx] at hk;obtain ⟨k1,k2,k3⟩:=Xkc hk;unfold upG;split
  ·rename_i hf2
   obtain ⟨h1,h2⟩:=upG_ok l f (E++[x.1]) (C++[x.2]) k3 (hE.append k2) hf2 (by simp [hl]);refine ⟨⟨h1.ne,by rw [h1.flat];simp,h1.long,h1.fit,fun y hy=>by simp only [Zx];exact Yg _ (h1.sub y hy),fun s=>?_,?_⟩,h2⟩
   ·rw [h1.sum s]
    simp only [Zs,Zx,Wu,Xbg];rw [Xml _ _ _ _ (by simpa using hl)];simp
   ·have:=h1.heavy
    simp only [Xbn,sumE,Zx] at this ⊢;omega
  ·rename_i hf2
   obtain ⟨h1,h2⟩:=upG_ok l x.1 [] [x.2] k3 (fun e he=>by cases he) (by decide) rfl;obtain ⟨y,t,hy⟩:=Wt h1.ne;rw [hy] at h2;simp at h2;refine ⟨⟨by simp,by simp [h1.flat],fun z hz=>?_,fun z hz=>?_,fun z hz=>?_,fun s=>?_,?_⟩,rfl⟩
   ·rcases Zg.1 hz with rfl | hz
    ·exact hl
    ·exact h1.long z hz
   ·rcases Zg.1 hz with rfl | hz
    ·exact ⟨hf,hE⟩
    ·exact h1.fit z hz
   ·rw [List.tail_cons,hy] at hz
    rcases Zg.1 hz with rfl | hz
    ·simp [h2]
    ·simp only [Zx]
     exact Yg _ (h1.sub z (by rw [hy];exact hz))
   ·have h3:=h1.sum s
    rw [hy] at h3 ⊢;simp only [Zx,lvlS,Xbg,h2] at h3 ⊢;simp only [Xa];rw [h3]
    simp [weave]
   ·have h4:=h1.heavy
    rw [Bool.not_eq_true,Xib,Xbn] at hf2;rw [hy] at h4 ⊢;simp only [List.tail_cons,Zz,Zx,sumE,baseE] at h4 hf2 ⊢;simp at hf2;omega
inductive Packs : Bool→List (Pr × List Pr × List Int)→List Nd→List Nd→Prop
 | one {leaf:Bool} {x:Pr × List Pr × List Int} {out:List Nd}:Packs leaf [x] out (out++[⟨0,leaf,x.2.1,x.2.2⟩])
 | more {leaf:Bool} {level:List (Pr × List Pr × List Int)} {out res:List Nd} (h:1<level.length) (hp:Packs false (upL (seps out.length level)) (out++numb leaf out.length level) res):Packs leaf level out res
def newK {h:Nat}:Nat→List (Pr × Tr h)→List (Pr × Tr h)
 | _,[]=>[]
 | m,x :: l=>(x.1,setId (-1-(m:Int)) x.2) :: newK (m+1) l
def flatT {h:Nat} (ts:List (Pr × Tr h)):List (Pr × List Pr × List Int):=ts.map fun y=>(y.1,y.2.es,y.2.top.cs)
def lvlT {h:Nat} (ts:List (Pr × Tr h)):List Tg:=lvlS (ts.map fun y=>(y.1,seq h y.2))
theorem Xpb {h:Nat}:∀ (ts:List (Pr × Tr h)) (m:Nat),seps m (flatT ts)=(newK m ts).map fun y=>(y.1,y.2.id)
 | [],_=>rfl
 | x :: l,m=>by simp only [flatT,newK,Zx,seps,Xnn];congr 1;exact Xpb l (m+1)
theorem newK_fst {h:Nat}:∀ (ts:List (Pr × Tr h)) (m:Nat),(newK m ts).map (·.1)=ts.map (·.1)
 | [],_=>rfl
 | x :: l,m=>by simp [newK,newK_fst l]
theorem Xna {h:Nat}:∀ (ts:List (Pr × Tr h)) (m:Nat),(newK m ts).length=ts.length
 | [],_=>rfl
 | x :: l,m=>by simp [newK,Xna l]
theorem newK_seq {h:Nat}:∀ (ts:List (Pr × Tr h)) (m:Nat),((newK m ts).map fun y=>(y.1,seq h y.2))=ts.map fun y=>(y.1,seq h y.2)
 | [],_=>rfl
 | x :: l,m=>by simp [newK,newK_seq l,Xkn]
theorem Xnb {h:Nat}:∀ (ts:List (Pr × Tr h)) (m:Nat),(newK m ts).map (fun y=>y.2.top)=numb (decide (h=0)) m (flatT ts)
 | [],_=>rfl
 | x :: l,m=>by simp only [newK,flatT,Zx,numb,Xfz,Tr.top_leaf,Tr.top_es];congr 1;exact Xnb l (m+1)
theorem Xlt {h:Nat}:∀ (ts:List (Pr × Tr h)) (m:Nat),(newK m ts).flatMap (fun y=>below h y.2)=ts.flatMap fun y=>below h y.2
 | [],_=>rfl
 | x :: l,m=>by simp [newK,Xlt l,Xgz]
theorem newK_wf {h:Nat}:∀ (ts:List (Pr × Tr h)) (m:Nat),(∀ y∈ts,Wf h y.2)→∀ y∈newK m ts,Wf h y.2
 | [],_,_,y,hy=>by cases hy
 | x :: l,m,hw,y,hy=>by
  rcases Zg.1 hy with rfl | hy
  ·exact Xno _ (hw x (by simp))
  ·exact newK_wf l (m+1) (fun z hz=>hw z (by simp [hz])) y hy
theorem few_up (b c:Nat) (h:495*c≤316*b) (hb:1≤b):3*c+1≤2*b:=by
 rcases Yv b 12 with h1 | h1
 ·have:∀ b:Fin 12,∀ c:Fin 12,495*c.val≤316*b.val→1≤b.val→3*c.val+1≤2*b.val:=by decide
  exact this ⟨b,h1⟩ ⟨c,by omega⟩ h hb
 ·omega
theorem packs_tree : ∀ (n:Nat) {h:Nat} (ts:List (Pr × Tr h)) (out:List Nd),ts.length≤n→ts≠[]→(∀ y∈ts,Wf h y.2∧fitsP (decide (h=0)) y.2.es=true∧Keys y.2.es)→Ris (lvlT ts)→Keys (ts.tail.map (·.1)) →
  ∃ (G:List Nd) (H':Nat) (t':Tr H'),Packs (decide (h=0)) (flatT ts) out (out++G++[t'.top])∧t'.id=0∧G.map (·.id)=ids out.length G.length∧Wf H' t'∧seq H' t'=lvlT ts ∧
   (nodes H' t').Perm (G++[t'.top]++ts.flatMap fun y=>below h y.2)∧(∀ m∈G++[t'.top],fitsP m.leaf m.es=true∧Keys m.es) ∧
   (ts.length=1→G.length=0)∧(2≤ts.length→∃ b,495*b≤sumE false (ts.tail.map (·.1))∧G.length+1≤ts.length+3*b+1):=by
 intro n
 induction n with
 | zero =>
  intro h ts out hn hne
  cases ts with
  | nil=>exact absurd rfl hne
  | cons=>simp at hn
 | succ n ih =>
  intro h ts out hn hne ha hr hk
  rcases Yv ts.length 2 with h2 | h2
  ·obtain ⟨x,rfl⟩:∃ x,ts=[x]:=by
    cases ts with
    | nil=>exact absurd rfl hne
    | cons x t=>cases t with
     | nil=>exact ⟨x,rfl⟩
     | cons=>simp only [Zz] at h2;omega
   obtain ⟨a1,a2,a3⟩:=ha x (by simp);refine ⟨[],h,setId 0 x.2,?_,Xnn _ _,rfl,Xno _ a1,?_,?_,fun m hm=>?_,fun _=>rfl,fun h=>by simp at h⟩
   ·rw [Xfz,Tr.top_leaf,Tr.top_es,Xj]
    exact .one
   ·rw [Xkn];simp [lvlT,lvlS,Xbg]
   ·simp [nodes,Xgz]
   ·simp only [Ym,Zo] at hm
    subst hm;rw [Xfz];simp only;rw [Tr.top_leaf,Tr.top_es];exact ⟨a2,a3⟩
  ·obtain ⟨x,t,hxt⟩:=Wt hne
   obtain ⟨K,hK⟩:∃ K,newK out.length ts=K:=⟨_,rfl⟩;obtain ⟨k,kt,hkt⟩:∃ k kt,K=k :: kt:=Wt (by intro e;have:=Xna ts out.length;rw [hK,e] at this;simp at this;omega)
   have hfst:kt.map (·.1)=ts.tail.map (·.1):=by
    have:=newK_fst ts out.length;rw [hK,hkt,hxt] at this;simp only [Zx,List.cons.injEq] at this
    rw [hxt];exact this.2
   have hktl:kt.length+1=ts.length:=by
    have:=Xna ts out.length;rw [hK,hkt] at this
    simpa using this
   obtain ⟨hU,hUf⟩:=upG_ok kt k.1 [] [k.2] (by rw [hfst];exact hk) (fun e he=>by cases he) (by decide) rfl
   obtain ⟨ts2,hts2⟩:∃ ts2:List (Pr × Tr (h+1)),ts2=(upL K).map fun y=>(y.1,.node 0 y.2.1 y.2.2):=⟨_,rfl⟩
   have hUL:upL K=upG k.1 [] [k.2] kt:=by rw [hkt];rfl
   rw [←hUL] at hU hUf;obtain ⟨R,hR⟩:∃ R,upL K=R:=⟨_,rfl⟩;rw [hR] at hU hUf hts2
   have hts2l:ts2.length=R.length:=by rw [hts2];simp
   have hRl:R.tail.length+1=R.length:=by
    have:=hU.ne
    cases R with
    | nil=>exact absurd rfl this
    | cons=>simp
   have hhv:=hU.heavy;simp only [sumE,Yd] at hhv;rw [hfst] at hhv;have hcnt:=Xdk false hk;simp only [Zl,Bool.false_eq_true,if_false] at hcnt
   have htl:ts.tail.length=ts.length-1:=by simp
   rw [htl] at hcnt;have hfew:=few_up (ts.length-1) R.tail.length (by omega) (by omega)
   have hseq2:lvlT ts2=lvlT ts:=by
    unfold lvlT;rw [hts2,Yw];have h5:=hU.sum (seq h);show lvlS (R.map fun y=>(y.1,seq (h+1) (.node 0 y.2.1 y.2.2)))=_;simp only [Xcb];rw [h5,←newK_seq ts out.length,hK,hkt]
    simp [lvlS,weave,Function.comp_def]
   have hflat:flatT ts2=upL (seps out.length (flatT ts)):=by
    rw [Xpb,hK,upL_map,hR,hts2];unfold flatT;rw [Yw];rfl
   have hkt2:ts2.tail.map (·.1)=R.tail.map (·.1):=by rw [hts2,←List.map_tail,Yw];rfl
   obtain ⟨G,H',t',hP,p1,p2,p3,p4,p5,p6,p7,p8⟩:=ih ts2 (out++numb (decide (h=0)) out.length (flatT ts)) (by omega) (by rw [hts2];simpa using hU.ne)
    (fun y hy=>by
     rw [hts2] at hy;obtain ⟨z,hz,rfl⟩:=Zi.1 hy;obtain ⟨f1,f2⟩:=hU.fit z hz;refine ⟨?_,f1,f2⟩;rw [Xce];refine ⟨hU.long z hz,fun c hc=>?_⟩;have h6:c∈R.flatMap (·.2.2):=Yl.2 ⟨z,hz,hc⟩;rw [hU.flat] at h6
     have h7:c∈K.map (·.2):=by rw [hkt];simpa using h6
     obtain ⟨q,hq,rfl⟩:=Zi.1 h7;rw [←hK] at hq
     exact newK_wf ts out.length (fun y hy=>(ha y hy).1) q hq) (by rw [hseq2];exact hr)
    (hk.sub fun e he=>by
     rw [hkt2] at he;obtain ⟨y,hy,rfl⟩:=Zi.1 he;rw [←hfst]
     exact hU.sub y hy)
   have hd:decide (h+1=0)=false:=by simp
   rw [hd,hflat] at hP
   have hnl:(numb (decide (h=0)) out.length (flatT ts)).length=ts.length:=by rw [Xbu];simp [flatT]
   refine ⟨numb (decide (h=0)) out.length (flatT ts)++G,H',t',?_,p1,?_,p3,by rw [p4,hseq2],?_,fun m hm=>?_,fun h1=>by omega,fun _=>⟨R.tail.length,hhv,?_⟩⟩
   ·refine .more (by unfold flatT;rw [Zl];omega) ?_
    rw [←Zu];exact hP
   ·rw [Zs,Xen,p2,Ze,Ze,hnl]
    rw [Xgh out.length ts.length G.length]
    simp [flatT]
   ·refine p5.trans ?_
    have h8:ts2.flatMap (fun y=>below (h+1) y.2)=(K.map (·.2)).flatMap (nodes h):=by
     rw [hts2,List.flatMap_map];show R.flatMap (fun y=>y.2.2.flatMap (nodes h))=_;rw [←List.flatMap_assoc,hU.flat,hkt];simp
    have h9:=Xic (K.map (·.2))
    have h10:(K.map (·.2)).map Tr.top=numb (decide (h=0)) out.length (flatT ts):=by rw [Yw,←hK,←Xnb];rfl
    have h11:(K.map (·.2)).flatMap (below h)=ts.flatMap fun y=>below h y.2:=by rw [←Xlt ts out.length,hK,List.flatMap_map]
    rw [h10,h11,←h8] at h9
    refine (h9.append_left (G++[t'.top])).trans ?_
    rw [Wz];intro a
    simp only [Vh];omega
   ·rw [Zu] at hm
    rcases Za.1 hm with hm | hm
    ·rw [←Xnb] at hm
     obtain ⟨y,hy,rfl⟩:=Zi.1 hm
     have:∀ (ts:List (Pr × Tr h)) (m:Nat),(∀ y∈ts,fitsP (decide (h=0)) y.2.es=true∧Keys y.2.es)→∀ y∈newK m ts,fitsP (decide (h=0)) y.2.es=true∧Keys y.2.es:=by
      intro ts
      induction ts with
      | nil=>intro m _ y hy;cases hy
      | cons a l ih =>
       intro m hA y hy
       rcases Zg.1 hy with rfl | hy
       ·have:∀ {h:Nat} (t:Tr h) (j:Int),(setId j t).es=t.es:=by intro h t j;rw [←Tr.top_es,Xfz,←Tr.top_es]
        rw [this];exact hA a (by simp)
       ·exact ih (m+1) (fun z hz=>hA z (by simp [hz])) y hy
     rw [Tr.top_leaf,Tr.top_es];exact this ts out.length (fun y hy=>(ha y hy).2) y hy
    ·exact p6 m hm
   ·rw [Ze,hnl]
    rcases Yv ts2.length 2 with h3 | h3
    ·have:=p7 (by omega);omega
    ·obtain ⟨b,hb1,hb2⟩:=p8 h3
     have hkk:Keys (ts2.tail.map (·.1)):=hk.sub fun e he=>by
      rw [hkt2] at he;obtain ⟨y,hy,rfl⟩:=Zi.1 he;rw [←hfst];exact hU.sub y hy
     have hc2:=Xdk false hkk;simp only [Zl,Bool.false_eq_true,if_false,List.length_tail] at hc2;have:=few_up (ts2.length-1) b (by omega) (by omega);omega
end T
namespace T
open Go Go.RowKit
def lenE (E:List Pr):Nat:=(E.map fun e=>e.1.length).sum
theorem Xkt (leaf:Bool):∀ E:List Pr,sumE leaf E=lenE E+(if leaf then 12 else 16)*E.length
 | []=>by simp [sumE,lenE]
 | e :: E=>by
  have:=Xkt leaf E;simp only [sumE,wE,lenE,Zx,List.sum_cons,Zz] at this ⊢
  cases leaf <;> simp at * <;> omega
theorem Xcd (A B:List Pr):lenE (A++B)=lenE A+lenE B:=by simp [lenE]
theorem lenE_le {E:List Pr} (h:Keys E):lenE E≤300*E.length:=by
 induction E with
 | nil=>simp [lenE]
 | cons e E ih =>
  obtain ⟨k1,k2,k3⟩:=Xkc h;have:=ih k3;simp only [lenE,Zx,List.sum_cons,Zz] at this ⊢;omega
def mostP (l:List Pr):Nat:=if l.length=0 then 1 else 4+lenE l / 100+l.length / 4
theorem Xlm : ∀ {R:List (Pr × List Pr)},(∀ y∈R,y.2.head?=some y.1)→lenE (R.map (·.1))≤lenE (R.flatMap (·.2))
 | [],_=>Zq _
 | y :: R,h=>by
  have ih:=Xlm (R:=R) fun z hz=>h z (by simp [hz])
  have h0:=h y (by simp)
  obtain ⟨q,hq⟩:∃ q,y.2=y.1 :: q:=by
   cases e:y.2 with
   | nil=>rw [e] at h0;simp at h0
   | cons a b=>rw [e] at h0;simp at h0;exact ⟨b,by rw [h0]⟩
  simp only [Zx,Yu,Xcd];rw [hq];simp only [lenE,Zx,List.sum_cons] at ih ⊢;omega
theorem Xkx : ∀ (R:List (Pr × List Pr)),Xbg (R.map (·.1)) (R.map fun y=>y.2.map en)=(R.map fun y=>(y.1,y.2,([]:List Int))).flatMap fun x=>sp x.1 :: x.2.1.map en
 | []=>rfl
 | y :: R=>by simp only [Zx,Xbg,Yu];rw [Xkx R]
def packL (l:List Pr):List (Pr × List Pr × List Int):=(packG ([],0) [] l).map fun y=>(y.1,y.2,[])
theorem packs_all {l:List Pr} (hu:Up l) (hk:Keys l) :
  ∃ (G:List Nd) (H':Nat) (t':Tr H'),Packs true (packL l) [] (G++[t'.top])∧t'.id=0∧G.map (·.id)=ids 0 G.length∧Wf H' t'∧Ris (seq H' t')∧ents (seq H' t')=l ∧
   (nodes H' t').Perm (G++[t'.top])∧(∀ m∈G++[t'.top],fitsP m.leaf m.es=true∧Keys m.es)∧G.length+1≤mostP l:=by
 obtain ⟨hP,h2,h3⟩:=Xjg l ([],0) [] hk (by decide);obtain ⟨R,hR⟩:∃ R,packG ([],0) [] l=R:=⟨_,rfl⟩;rw [hR] at hP h2 h3;obtain ⟨y,t,hy⟩:=Wt hP.ne
 obtain ⟨ts,hts⟩:∃ ts:List (Pr × Tr 0),ts=R.map fun y=>(y.1,.leaf 0 y.2):=⟨_,rfl⟩
 have hfl:flatT ts=packL l:=by rw [hts];unfold flatT packL;rw [Yw,hR];rfl
 have hflat:=hP.flat;rw [Ym,hy,Yu] at hflat
 have hheads:∀ z∈t,z.2.head?=some z.1:=fun z hz=>hP.head z (by rw [hy];exact hz)
 have hlvl:lvlT ts=y.2.map en++(t.map fun y=>(y.1,y.2,([]:List Int))).flatMap fun x=>sp x.1 :: x.2.1.map en:=by
  rw [hts,hy,←Xkx];unfold lvlT;simp only [Zx,lvlS,Yw];rfl
 have hR1:Ris (l.map en):=by unfold Ris;rw [Xf];exact hu.imp fun {a b} hab=>.inl hab
 have hflat2:(t.map fun y=>(y.1,y.2,([]:List Int))).flatMap (fun x=>x.2.1)=t.flatMap (·.2):=by rw [List.flatMap_map]
 have hris:Ris (lvlT ts):=by
  rw [hlvl]
  by_cases ht:t=[]
  ·rw [ht] at hflat ⊢
   simp at hflat ⊢
   rw [hflat];exact hR1
  ·have:=Xkl (t.map fun y=>(y.1,y.2,([]:List Int))) y.2 [] [] (hP.full (by rw [hy];exact ht) y (by rw [hy];simp)) (fun x hx=>by
    obtain ⟨z,hz,rfl⟩:=Zi.1 hx
    exact hheads z hz) (by rw [hflat2,hflat];simpa using hR1)
   simpa using this
 have hents:ents (lvlT ts)=l:=by
  rw [hlvl,Xby,Xfn,←hflat,←hflat2];congr 1;generalize (t.map fun y=>(y.1,y.2,([]:List Int)))=q
  induction q with
  | nil=>rfl
  | cons x q ih=>simp only [Yu,Xby,ents_sp,Xfn,ih]
 have hkf:Keys (t.map (·.1)):=hk.sub fun e he=>by
  obtain ⟨z,hz,rfl⟩:=Zi.1 he;rw [←hflat];refine Yk _ (Yl.2 ⟨z,hz,?_⟩);have:=hheads z hz
  cases e:z.2 with
  | nil=>rw [e] at this;simp at this
  | cons a b=>rw [e] at this;simp at this;simp [this]
 have htl:ts.tail.map (·.1)=t.map (·.1):=by rw [hts,hy];simp [Function.comp_def]
 obtain ⟨G,H',t',q1,q2,q3,q4,q5,q6,q7,q8,q9⟩:=packs_tree ts.length ts [] (Zq _) (by rw [hts];simpa using hP.ne) (fun z hz=>by
  rw [hts] at hz;obtain ⟨v,hv,rfl⟩:=Zi.1 hz;refine ⟨trivial,hP.fit v hv,hk.sub fun e he=>?_⟩;have h5:e∈R.flatMap (·.2):=Yl.2 ⟨v,hv,he⟩;rw [hP.flat] at h5
  exact h5) hris (by rw [htl];exact hkf)
 rw [hfl] at q1;refine ⟨G,H',t',q1,q2,q3,q4,by rw [q5];exact hris,by rw [q5];exact hents,?_,q7,?_⟩
 ·refine q6.trans (List.Perm.of_eq ?_)
  have:ts.flatMap (fun y=>below 0 y.2)=[]:=List.flatMap_eq_nil_iff.2 fun _ _=>rfl
  rw [this,Xj]
 ·have hl1:ts.length=t.length+1:=by rw [hts,hy];simp
  unfold mostP
  by_cases hl:l.length=0
  ·obtain rfl:=List.length_eq_zero_iff.1 hl
   rw [if_pos hl]
   have:R=[(([],0),[])]:=by rw [←hR];rfl
   have:=q8 (by rw [hts,this];rfl);omega
  ·rw [if_neg hl]
   rcases Yv ts.length 2 with h5 | h5
   ·have:=q8 (by omega);omega
   ·obtain ⟨b,b1,b2⟩:=q9 h5
    rw [htl,Xkt] at b1;have hh:=hP.heavy;rw [Ym,hy,List.tail_cons,Xkt,Xkt] at hh;have h6:=Xlm hheads
    have h7:lenE (t.flatMap (·.2))≤lenE l:=by rw [←hflat,Xcd];omega
    have h8:=lenE_le hk;simp only [if_true,Bool.false_eq_true,if_false,Zl] at b1 hh;omega
end T
namespace T
open Go Go.RowKit
def AllQ (Q:Pr→Prop) (ns:List Nd):Prop:=∀ n∈ns,∀ e∈n.es,Q e
theorem AllQ.append {Q:Pr→Prop} {a b:List Nd} (ha:AllQ Q a) (hb:AllQ Q b):AllQ Q (a++b):=fun n hn=>by
 rcases Za.1 hn with h | h
 ·exact ha n h
 ·exact hb n h
theorem AllQ.cons {Q:Pr→Prop} {n:Nd} {b:List Nd} (ha:∀ e∈n.es,Q e) (hb:AllQ Q b):AllQ Q (n :: b):=fun m hm=>by
 rcases Zg.1 hm with rfl | h
 ·exact ha
 ·exact hb m h
theorem AllQ.sub {Q:Pr→Prop} {a b:List Nd} (ha:AllQ Q a) (h:∀ n∈b,n∈a):AllQ Q b:=fun n hn=>ha n (h n hn)
theorem Xpf {α:Type} {leaf:Bool} {E:List Pr} {C:List α} {p:List Pr × List α} {l:List (Pr × List Pr × List α)} (h:Parts leaf E C p l):(∀ e∈p.1,e∈E)∧∀ x∈l,x.1∈E∧∀ e∈x.2.1,e∈E:=by
 have hrest:∀ {E:List Pr} (i:Nat),∀ e∈restE leaf i E,e∈E:=fun i e he=>by
  unfold restE at he
  split at he <;> exact Ys he
 induction h with
 | one hi hb hf =>
  refine ⟨fun e he=>Yn he,fun x hx=>?_⟩;rw [Zo] at hx;subst hx;exact ⟨Zm hb,hrest _⟩
 | more hi hb hf hp ih =>
  obtain ⟨a1,a2⟩:=ih;refine ⟨fun e he=>Yn he,fun x hx=>?_⟩
  rcases Zg.1 hx with rfl | hx
  ·exact ⟨Zm hb,fun e he=>hrest _ _ (a1 e he)⟩
  ·exact ⟨hrest _ _ (a2 x hx).1,fun e he=>hrest _ _ ((a2 x hx).2 e he)⟩
theorem Xje {Q:Pr→Prop} {leaf:Bool}:∀ {l:List (Pr × List Pr × List Int)} {m:Nat},(∀ x∈l,∀ e∈x.2.1,Q e)→AllQ Q (numb leaf m l)
 | [],_,_=>fun n hn=>by cases hn
 | x :: l,m,h=>AllQ.cons (h x (by simp)) (Xje fun y hy=>h y (by simp [hy]))
theorem splits_mem {Q:Pr→Prop} {n:Nd} {us F W' F':List Nd} (h:Splits n us F W' F') (hn:∀ e∈n.es,Q e) (hu:AllQ Q us) (hF:AllQ Q F):AllQ Q (W'++F'):=by
 induction h with
 | fits=>exact (AllQ.cons hn hu).append hF
 | @root n F p l W' F' hf hp hs ih =>
  obtain ⟨h1,h2⟩:=Xpf hp;refine ih (fun e he=>?_) (fun n hn=>by cases hn) (hF.append (AllQ.cons (fun e he=>hn e (h1 e he)) (Xje fun x hx e he=>hn e ((h2 x hx).2 e he))));obtain ⟨x,hx,rfl⟩:=Zi.1 he;exact hn _ (h2 x hx).1
 | @up n u us F p l W' F' hf hp hs ih =>
  obtain ⟨h1,h2⟩:=Xpf hp
  have h3:=ih (fun e he=>by
   simp only at he;rw [Xnv,Xch] at he
   rcases he with he | he
   ·exact hu u (by simp) e he
   ·obtain ⟨x,hx,rfl⟩:=Zi.1 he
    exact hn _ (h2 x hx).1) (hu.sub fun n hn=>by simp [hn]) (hF.append (Xje fun x hx e he=>hn e ((h2 x hx).2 e he)))
  exact AllQ.cons (fun e he=>hn e (h1 e he)) h3
theorem upG_mem {α:Type} {Q:Pr→Prop}:∀ (l:List (Pr × α)) (f:Pr) (E:List Pr) (C:List α),(∀ x∈l,Q x.1)→(∀ e∈E,Q e)→(∀ y∈upG f E C l,∀ e∈y.2.1,Q e)∧∀ y∈(upG f E C l).tail,Q y.1
 | [],f,E,C,hl,hE=>⟨fun y hy=>by simp [upG] at hy;subst hy;exact hE,by simp [upG]⟩
 | x :: l,f,E,C,hl,hE=>by
  have hx:=hl x (by simp)
  have hl2:∀ y∈l,Q y.1:=fun y hy=>hl y (by simp [hy])
  unfold upG;split
  ·exact upG_mem l f _ _ hl2 (fun e he=>by
    rcases Za.1 he with h | h
    ·exact hE e h
    ·simp at h;subst h;exact hx)
  ·obtain ⟨h1,h2⟩:=upG_mem l x.1 [] [x.2] hl2 (fun e he=>by cases he)
   refine ⟨fun y hy=>?_,fun y hy=>?_⟩
   ·rcases Zg.1 hy with rfl | hy
    ·exact hE
    ·exact h1 y hy
   ·rw [List.tail_cons] at hy
    have h3:∀ (l:List (Pr × α)) (f:Pr) (E:List Pr) (C:List α),∃ z t,upG f E C l=z :: t∧z.1=f:=by
     intro l
     induction l with
     | nil=>exact fun f E C=>⟨_,[],rfl,rfl⟩
     | cons a l ih =>
      intro f E C;unfold upG;split
      ·exact ih f _ _
      ·exact ⟨_,_,rfl,rfl⟩
    obtain ⟨z,t,e1,e2⟩:=h3 l x.1 [] [x.2];rw [e1] at hy h2
    rcases Zg.1 hy with rfl | hy
    ·rw [e2];exact hx
    ·exact h2 y hy
theorem packs_mem {Q:Pr→Prop} {leaf:Bool} {level:List (Pr × List Pr × List Int)} {out res:List Nd} (h:Packs leaf level out res) (hl:∀ y∈level,∀ e∈y.2.1,Q e) (ht:∀ y∈level.tail,Q y.1) (ho:AllQ Q out):AllQ Q res:=by
 induction h with
 | one=>exact ho.append (AllQ.cons (hl _ (by simp)) (fun n hn=>by cases hn))
 | @more leaf level out res h hp ih =>
  cases level with
  | nil=>simp at h
  | cons x l =>
   have h1:∀ y∈seps (out.length+1) l,Q y.1:=fun y hy=>by
    have h2:y.1∈(seps (out.length+1) l).map (·.1):=Zi.2 ⟨y,hy,rfl⟩;rw [Xch] at h2;obtain ⟨z,hz,e⟩:=Zi.1 h2;rw [←e];exact ht z (by simpa using hz)
   obtain ⟨h2,h3⟩:=upG_mem (seps (out.length+1) l) x.1 [] [(-1-(out.length:Int))] h1 (fun e he=>by cases he);exact ih h2 h3 (ho.append (Xje hl))
theorem packL_mem {Q:Pr→Prop} {l:List Pr} (hk:Keys l) (hl:∀ e∈l,Q e):(∀ y∈packL l,∀ e∈y.2.1,Q e)∧∀ y∈(packL l).tail,Q y.1:=by
 obtain ⟨hP,h2,h3⟩:=Xjg l ([],0) [] hk (by decide);have hflat:=hP.flat;rw [Ym] at hflat
 have hin:∀ z∈packG ([],0) [] l,∀ e∈z.2,Q e:=fun z hz e he=>hl e (by rw [←hflat];exact Yl.2 ⟨z,hz,he⟩)
 refine ⟨fun y hy=>?_,fun y hy=>?_⟩
 ·obtain ⟨z,hz,rfl⟩:=Zi.1 hy
  exact hin z hz
 ·unfold packL at hy
  rw [←List.map_tail] at hy;obtain ⟨z,hz,rfl⟩:=Zi.1 hy;have h4:=hP.head z hz
  cases e:z.2 with
  | nil=>rw [e] at h4;simp at h4
  | cons a b =>
   rw [e] at h4;simp at h4;exact hin z (List.mem_of_mem_tail hz) z.1 (by rw [e,h4];simp)
end T
namespace T
open Go Go.RowKit B C G H
def lens (cs:List (List UInt8)):Nat:=(cs.map List.length).sum
theorem Xgw (a b:List (List UInt8)):lens (a++b)=lens a+lens b:=by simp [lens]
structure PageIs (kind:Nat) (cs:List (List UInt8)) (q:List UInt8):Prop where
 pg:Pg q
 kind:g q 4=kind
 count:nS q=cs.length
 cells:∀ (j:Nat) (b:List UInt8),cs[j]?=some b→ct q j=some b
 room:bg q+lens cs=512
theorem PageIs.new (kind:UInt8):PageIs kind.toNat [] (newP kind):=by
 have h:=new_fresh kind;exact ⟨h.pg,h.kind,h.count,fun j b hj=>by simp at hj,by rw [h.beg];rfl⟩
theorem PageIs.freeS {kind:Nat} {cs:List (List UInt8)} {q:List UInt8} (h:PageIs kind cs q):freeS q=cs.length :=
 freeS_eq (fun k hk=>by rw [h.cells k _ (Zc hk)];simp) (Xdn.2 (by rw [h.count];omega))
theorem PageIs.ins {kind:Nat} {cs:List (List UInt8)} {q b:List UInt8} (h:PageIs kind cs q) (h1:1≤b.length) (h2:b.length≤400) (hr:4*(cs.length+1)+lens cs+b.length≤502) (hn:cs.length<125) :
  insE q b=0∧PageIs kind (cs++[b]) (G.insP q b):=by
 have hf:=h.freeS;have hroom:=h.room
 have he:insE q b=0:=by
  unfold insE;rw [if_neg (by rw [Xfv.2 h.pg];simp),if_neg (by omega),if_neg]
  unfold need freeB;rw [hf,h.count,if_neg (by omega)];omega
 have hI:=ins_ok he;refine ⟨he,hI.pg,by rw [hI.kind,h.kind],?_,fun j c hj=>?_,?_⟩
 ·rw [hI.count,h.count,hf,Ze,Zt];omega
 ·rw [List.getElem?_append] at hj
  split at hj
  ·rename_i hlt
   rw [hI.rest j (by rw [hf];omega)];exact h.cells j c hj
  ·rename_i hge
   have hlen:j-cs.length < [b].length:=(Zh.1 hj).1;simp only [Zt] at hlen
   have:j=cs.length:=by omega
   subst this;rw [Wd] at hj;simp only [Zb,Zw] at hj;rw [←hj,←hf];exact hI.mine
 ·have:=hI.beg
  have hb:lens [b]=b.length:=by simp [lens]
  rw [Xgw,hb];omega
def weigh (cs:List (List UInt8)):Nat:=lens cs+4*cs.length
def cellN (n:Nd) (i:Nat):List UInt8:=(if n.leaf then [] else le (n.cs.getD (i+1) 0).toNat 4)++le (n.es.getD i ([],0)).2 8++(n.es.getD i ([],0)).1
def Xcc (n:Nd):List (List UInt8):=(if n.leaf then [] else [le (n.cs.getD 0 0).toNat 4])++(List.range n.es.length).map (cellN n)
theorem Xob (n:Nd) (i:Nat):(cellN n i).length=(if n.leaf then 0 else 4)+8+(n.es.getD i ([],0)).1.length:=by
 unfold cellN
 cases n.leaf <;> simp [Xay] <;> omega
def headN (leaf:Bool):Nat:=if leaf then 0 else 1
theorem Xjl (n:Nd):(Xcc n).length=headN n.leaf+n.es.length:=by
 unfold Xcc headN
 cases n.leaf <;> simp;omega
def Xbd (n:Nd) (i:Nat):List (List UInt8):=(if n.leaf then [] else [le (n.cs.getD 0 0).toNat 4])++(List.range i).map (cellN n)
theorem Xfm (n:Nd) (i:Nat):Xbd n (i+1)=Xbd n i++[cellN n i]:=by
 unfold Xbd
 rw [List.range_succ,Zs,Zu];rfl
theorem cellsTo_len (n:Nd) (i:Nat):(Xbd n i).length=headN n.leaf+i:=by
 unfold Xbd headN
 cases n.leaf <;> simp;omega
theorem Xdo (n:Nd):∀ i,i≤n.es.length→weigh (Xbd n i)=baseE n.leaf+sumE n.leaf (n.es.take i)
 | 0,_=>by
  unfold weigh Xbd baseE
  cases n.leaf <;> simp [lens,Xay,sumE]
 | i+1,h=>by
  have ih:=Xdo n i (by omega);unfold weigh at ih ⊢;rw [Xfm,Xgw,Ze,Xks n.leaf n.es (by omega)]
  have hb:lens [cellN n i]=(cellN n i).length:=by simp [lens]
  rw [hb,Xob]
  have hg:n.es.getD i ([],0)=n.es[i]:=by rw [Zf,Zc (by omega)];rfl
  rw [hg];unfold wE;simp only [Zt]
  cases hl:n.leaf <;> rw [hl] at ih <;> simp at ih ⊢ <;> omega
theorem cells_ok {n:Nd} (hk:Keys n.es):∀ b∈Xcc n,1≤b.length∧b.length≤400:=by
 intro b hb;unfold Xcc at hb
 rcases Za.1 hb with hb | hb
 ·cases hl:n.leaf <;> rw [hl] at hb <;> simp at hb
  rw [hb,Xay];omega
 ·obtain ⟨i,hi,rfl⟩:=Zi.1 hb
  rw [Ww] at hi;rw [Xob]
  have hg:n.es.getD i ([],0)=n.es[i]:=by rw [Zf,Zc hi];rfl
  rw [hg];have:=(hk _ (Yx hi)).1
  split <;> omega
def kindP (root leaf:Bool):Nat:=if leaf then (if root then 33 else 35) else (if root then 34 else 36)
def kindU (root leaf:Bool):UInt8:=if leaf then (if root then 33 else 35) else (if root then 34 else 36)
theorem Xou (root leaf:Bool):(kindU root leaf).toNat=kindP root leaf:=by cases root <;> cases leaf <;> rfl
def Xel (root:Bool) (n:Nd) (q:List UInt8):Prop:=PageIs (kindP root n.leaf) (Xcc n) q
theorem laid_next {root:Bool} {n:Nd} {i:Nat} {q:List UInt8} (hk:Keys n.es) (hf:fitsP n.leaf n.es=true) (hi:i<n.es.length) (h:PageIs (kindP root n.leaf) (Xbd n i) q):insE q (cellN n i)=0∧PageIs (kindP root n.leaf) (Xbd n (i+1)) (G.insP q (cellN n i)):=by
 rw [Xcf] at hf;have h1:=Xdo n (i+1) (by omega);have h2:=Xpt n.leaf n.es (show i+1≤n.es.length by omega);rw [We] at h2
 have hb:lens [cellN n i]=(cellN n i).length:=by simp [lens]
 have hc:=cells_ok hk (cellN n i) (Yk _ (Yj (Ww.2 hi)));unfold weigh at h1;rw [Xfm,Xgw,hb,Ze,Zt] at h1;rw [Xfm];exact h.ins hc.1 hc.2 (by omega) (by omega)
theorem Xjk (n:Nd):Xbd n n.es.length=Xcc n:=rfl
end T
namespace T
open Go Go.RowKit
def mapN (φ:Int→Int) (n:Nd):Nd:=⟨φ n.id,n.leaf,n.es,n.cs.map φ⟩
def mapT (φ:Int→Int):{h:Nat}→Tr h→Tr h
 | 0,t=>.leaf (φ t.id) t.es
 | _+1,t=>.node (φ t.id) t.es (t.kids.map (mapT φ))
theorem mapT_id (φ:Int→Int):∀ {h:Nat} (t:Tr h),(mapT φ t).id=φ t.id
 | 0,_=>rfl
 | _+1,_=>rfl
theorem mapT_top (φ:Int→Int):∀ {h:Nat} (t:Tr h),(mapT φ t).top=mapN φ t.top
 | 0,t=>rfl
 | h+1,t=>by
  obtain ⟨i,E,K,rfl⟩:=Tr.is_node t;show (Tr.node (φ i) E (K.map (mapT φ))).top=_;rw [Tr.node_top,Tr.node_top];simp only [mapN,Yw];congr 1
  exact Xc fun k _=>mapT_id φ k
theorem Xhl (φ:Int→Int):∀ {h:Nat} (t:Tr h),seq h (mapT φ t)=seq h t
 | 0,t=>rfl
 | h+1,t=>by
  obtain ⟨i,E,K,rfl⟩:=Tr.is_node t;show seq (h+1) (.node (φ i) E (K.map (mapT φ)))=_;rw [Xcb,Xcb,Yw];congr 1
  exact Xc fun k _=>Xhl φ k
theorem mapT_wf (φ:Int→Int):∀ {h:Nat} {t:Tr h},Wf h t→Wf h (mapT φ t)
 | 0,_,_=>trivial
 | h+1,t,hw=>by
  obtain ⟨i,E,K,rfl⟩:=Tr.is_node t;show Wf (h+1) (.node (φ i) E (K.map (mapT φ)));rw [Xce] at hw ⊢;refine ⟨by rw [Zl];exact hw.1,fun k hk=>?_⟩
  obtain ⟨k0,hk0,rfl⟩:=Zi.1 hk;exact mapT_wf φ (hw.2 k0 hk0)
theorem Xdc (φ:Int→Int):∀ {h:Nat} (t:Tr h),nodes h (mapT φ t)=(nodes h t).map (mapN φ)
 | 0,t=>rfl
 | h+1,t=>by
  have ht:=mapT_top φ t;obtain ⟨i,E,K,rfl⟩:=Tr.is_node t;show nodes (h+1) (.node (φ i) E (K.map (mapT φ)))=_;rw [Xbr,Xbr,Zx]
  refine congr (congrArg List.cons ht) ?_
  rw [List.flatMap_map,List.map_flatMap];rw [List.flatMap_def,List.flatMap_def];congr 1
  exact Xc fun k _=>Xdc φ k
theorem Xdw : ∀ {h:Nat} {t:Tr h} {n:Nd} {c:Int},n∈nodes h t→c∈n.cs→c∈(below h t).map (·.id)
 | 0,t,n,c,hn,hc=>by
  obtain ⟨i,E,rfl⟩:=Tr.is_leaf t;rw [Xan,Zo] at hn
  subst hn;cases hc
 | h+1,t,n,c,hn,hc=>by
  obtain ⟨i,E,K,rfl⟩:=Tr.is_node t;have hb:below (h+1) (.node i E K)=K.flatMap (nodes h):=rfl;rw [Xbr] at hn;rw [hb]
  rcases Zg.1 hn with e | hn
  ·subst e
   rw [Tr.node_top] at hc;obtain ⟨k,hk,rfl⟩:=Zi.1 hc;refine Zi.2 ⟨k.top,Yl.2 ⟨k,hk,by simp [nodes]⟩,Tr.top_id k⟩
  ·obtain ⟨k,hk,hnk⟩:=Yl.1 hn
   obtain ⟨m,hm,e⟩:=Zi.1 (Xdw hnk hc);exact Zi.2 ⟨m,Yl.2 ⟨k,hk,by simp [nodes,hm]⟩,e⟩
theorem Xdb : ∀ {h:Nat} {t:Tr h} {n:Nd},Wf h t→n∈nodes h t→n.cs.length=if n.leaf then 0 else n.es.length+1
 | 0,t,n,hw,hn=>by
  obtain ⟨i,E,rfl⟩:=Tr.is_leaf t;rw [Xan,Zo] at hn
  subst hn;rfl
 | h+1,t,n,hw,hn=>by
  obtain ⟨i,E,K,rfl⟩:=Tr.is_node t;rw [Xce] at hw;rw [Xbr] at hn
  rcases Zg.1 hn with e | hn
  ·subst e
   rw [Tr.node_top]
   simpa using hw.1
  ·obtain ⟨k,hk,hnk⟩:=Yl.1 hn
   exact Xdb (hw.2 k hk) hnk
theorem Xct : ∀ {h:Nat} {t:Tr h},Wf h t→h+1≤(nodes h t).length
 | 0,t,_=>by simp [nodes]
 | h+1,t,hw=>by
  obtain ⟨i,E,K,rfl⟩:=Tr.is_node t;rw [Xce] at hw;rw [Xbr,Zz]
  cases K with
  | nil=>simp at hw
  | cons k K =>
   have:=Xct (hw.2 k (by simp));simp only [Yu,Ze];omega
def ren (nums:List Nat) (o:Int→Int) (x:Int):Int:=if x<0 then ((nums.getD (-1-x).toNat 0:Nat):Int) else o x
theorem Xfy (nums:List Nat) (o:Int→Int) (i:Nat):ren nums o (-1-(i:Int))=((nums.getD i 0:Nat):Int):=by
 unfold ren;rw [if_pos (by omega),show (-1-(-1-(i:Int))).toNat=i by omega]
theorem Xeg (nums:List Nat) (o:Int→Int) {x:Int} (h:0≤x):ren nums o x=o x:=if_neg (by omega)
theorem Xie : ∀ {n m:Nat} {x:Int},x∈ids m n→∃ i,i<n∧x = -1-((m+i:Nat):Int)
 | 0,m,x,h=>by cases h
 | n+1,m,x,h=>by
  rcases Zg.1 h with h | h
  ·exact ⟨0,by omega,by rw [h,Wm]⟩
  ·obtain ⟨i,hi,e⟩:=Xie h
   exact ⟨i+1,by omega,by rw [e,show m+1+i=m+(i+1) by omega]⟩
theorem Xmu (nums:List Nat) (o:Int→Int):∀ (n m:Nat),m+n≤nums.length→(ids m n).map (ren nums o)=((nums.drop m).take n).map fun (i:Nat)=>(i:Int)
 | 0,m,_=>by simp [ids]
 | n+1,m,h=>by
  have hm:m<nums.length:=by omega
  rw [Vf hm];simp only [ids,Zx,Xv,Xfy];rw [Xmu nums o n (m+1) (by omega)];rw [Zf,Zc hm];rfl
end T
namespace T
open Go Go.RowKit
def aft (last:Pr) (begun:Bool) (e:Pr):Bool:=if begun then decide (lt last e) else !decide (lt e last)
def nextP (l:List Pr) (last:Pr) (begun:Bool):Option Pr:=l.find? (aft last begun)
def curI (E:List Pr) (last:Pr) (begun:Bool):Nat:=if has E last && begun then low E last+1 else low E last
theorem next_leaf {E:List Pr} (hE:Up E) (last:Pr) (begun:Bool):nextP E last begun=E[curI E last begun]?:=by
 have hbelow:∀ j (h:j<E.length),j<low E last→lt E[j] last:=fun j h hj=>Xft hj
 have habove:∀ j (h:j<E.length),low E last≤j→¬lt E[j] last:=fun j h hj=>Xfs hE hj h
 have hbefore:∀ j (h:j<E.length),j<curI E last begun→aft last begun E[j]=false:=fun j h hj=>by
  unfold curI at hj;unfold aft;split at hj
  ·rename_i hc
   rw [Bool.and_eq_true] at hc;rw [if_pos hc.2]
   refine decide_eq_false fun hl=>?_
   by_cases e:j<low E last
   ·exact lt_asymm hl (hbelow j h e)
   ·have e2:j=low E last:=by omega
    have h1:E[low E last]?=some last:=by simpa [has] using hc.1
    subst e2;rw [Zc h] at h1;rw [Option.some.inj h1] at hl;exact lt_irrefl _ hl
  ·have h2:=hbelow j h hj
   cases begun
   ·simp [h2]
   ·simp [lt_asymm h2]
 have hat:∀ (h:curI E last begun<E.length),aft last begun E[curI E last begun]=true:=fun h=>by
  unfold aft
  by_cases hc:(has E last && begun)=true
  ·have hc':=hc
   rw [Bool.and_eq_true] at hc'
   have hi:curI E last begun=low E last+1:=by unfold curI;rw [if_pos hc]
   rw [if_pos hc'.2]
   refine decide_eq_true ?_
   have h1:E[low E last]?=some last:=by simpa [has] using hc'.1
   obtain ⟨h2,h3⟩:=Zh.1 h1;have h4:=Yy.1 hE (low E last) (curI E last begun) h2 h (by omega);rw [h3] at h4;exact h4
  ·have hi:curI E last begun=low E last:=by unfold curI;rw [if_neg hc]
   have h1:=habove (curI E last begun) h (by omega);cases begun
   ·simp [h1]
   ·simp only [if_true]
    refine decide_eq_true ?_
    rcases Xiu E[curI E last true] last with h2 | h2 | h2
    ·exact absurd h2 h1
    ·exfalso
     refine hc ?_
     rw [Bool.and_eq_true];refine ⟨?_,rfl⟩;unfold has
     refine decide_eq_true ?_
     have h3:=Zc h;rw [h2,hi] at h3;exact h3
    ·exact h2
 unfold nextP
 by_cases h:curI E last begun<E.length
 ·rw [Zc h]
  refine List.find?_eq_some_iff_getElem.2 ⟨hat h,curI E last begun,h,rfl,fun j hj=>?_⟩
  rw [hbefore j (by omega) hj];rfl
 ·rw [Xb (by omega),Vb]
  intro e he;obtain ⟨j,hj,rfl⟩:=Xl he
  rw [hbefore j hj (by omega)];simp
theorem Xgx (l k:List Pr) (last:Pr) (begun:Bool):nextP (l++k) last begun=(nextP l last begun).or (nextP k last begun):=List.find?_append
theorem next_skip {h:Nat} {i:Int} {E:List Pr} {K:List (Tr h)} (hw:Wf (h+1) (.node i E K)) (hr:Ris (seq (h+1) (.node i E K))) (last:Pr) (begun:Bool) {j:Nat} {t:Tr h} (hj:j<Xao E last) (ht:K[j]?=some t):nextP (ents (seq h t)) last begun=none:=by
 rw [Xce] at hw
 have hje:j<E.length:=by have:=Xex E last;omega
 have hsp:¬lt last E[j]:=Xhy hj;rw [Xcb] at hr;have hcut:=Xky E (K.map (seq h)) (by simpa using hw.1) (i:=j) (Zc hje);rw [hcut] at hr;unfold Ris at hr
 have hall:∀ g∈seq h t,tlt g (sp E[j]):=fun g hg=>by
  have h1:=(Zn.1 hr).2.2 g ?_ (sp E[j]) (by simp)
  ·exact h1
  ·have h2:(K.map (seq h)).take (j+1)=(K.map (seq h)).take j++[seq h t]:=by
    rw [Xg,Zr,ht];rfl
   rw [h2];have h3:=Xfk (E.take j) [] (seq h t) ((K.map (seq h)).take j) [] (by rw [Zj,Zj,Zl];omega) rfl
   rw [Xj] at h3;rw [h3]
   simp [hg]
 unfold nextP;rw [Vb];intro e he;have h1:=hall _ (Xmz.1 he)
 have h2:lt e E[j]:=by
  rcases h1 with h1 | ⟨_,h1,_⟩
  ·exact h1
  ·simp [en] at h1
 have h3:lt e last:=by
  rcases Xiu E[j] last with h4 | h4 | h4
  ·exact Xfe h2 h4
  ·rw [←h4];exact h2
  ·exact absurd h4 hsp
 unfold aft;cases begun
 ·simp [h3]
 ·simp [lt_asymm h3]
end T
end Go.Proofs.YtiijokopcgnokaaGreat
