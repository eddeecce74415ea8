import Derived.Test.YtiijokopcgnokaaGreatWPoolB
import Derived.Test.YtiijokopcgnokaaGreatWPlain
import Derived.Deep.RegionHeld3
import Derived.IntWalk
set_option maxRecDepth 100000
set_option maxHeartbeats 4000000
set_option linter.unusedSimpArgs false
set_option linter.unusedVariables false
namespace Go.Proofs.YtiijokopcgnokaaGreat
namespace P
open Go Go.RowKit Go.Proofs.YtiijokopcgnokaaGreat D Tryz
variable {w w' : World} {p d ub hm pm asked k : Nat} {MD M : List Nat} {L : List Pl} {S : PS}
def putF (L:List Pl) (g:Pl):List Pl:=L.map fun x=>if x.at_=g.at_ then g else x
theorem Xep {g x:Pl} (h:x∈putF L g):x=g∨(x∈L∧x.at_≠g.at_):=by
 obtain ⟨y,hy,rfl⟩:=Zi.1 h;split
 ·exact .inl rfl
 ·next hne=>exact .inr ⟨hy,hne⟩
theorem Xih {l g:Pl} (hl:l∈L) (ha:g.at_=l.at_):g∈putF L g:=Zi.2 ⟨l,hl,by rw [if_pos ha.symm]⟩
theorem putF_at (L:List Pl) (g:Pl):(putF L g).map (·.at_)=L.map (·.at_):=by
 unfold putF;rw [Yw]
 apply Xc
 intro x _;show (if x.at_=g.at_ then g else x).at_=x.at_;split
 ·next h=>exact h.symm
 ·rfl
theorem putF_heldM {l g:Pl} (hl:l∈L) (ha:g.at_=l.at_) (hi:g.f.id=l.f.id) (hn:(L.map (·.at_)).Nodup):heldM (putF L g)=heldM L:=by
 unfold heldM putF;rw [Yw]
 apply Xc
 intro x hx;show (((if x.at_=g.at_ then g else x).f.id:Int),Value.pointer (some ⟨(if x.at_=g.at_ then g else x).at_,0,none⟩))=_;split
 ·next h =>
  have:x=l:=Xii hn hx hl (h.trans ha);rw [this,hi,ha]
 ·rfl
def PS.setF (S:PS) (f:Fr):PS:={ S with held:=S.held.map fun x=>if x.id=f.id then f else x }
theorem putF_fst {l g:Pl} (hl:l∈L) (ha:g.at_=l.at_) (hi:g.f.id=l.f.id) (hn:(L.map (·.at_)).Nodup) (hn2:(L.map (·.f.id)).Nodup):(putF L g).map (·.f)=(L.map (·.f)).map fun x=>if x.id=g.f.id then g.f else x:=by
 unfold putF;rw [Yw,Yw]
 apply Xc
 intro x hx
 show (if x.at_=g.at_ then g else x).f=if x.f.id=g.f.id then g.f else x.f
 by_cases h:x=l
 ·subst h;rw [if_pos ha.symm,if_pos hi.symm]
 ·rw [if_neg (fun e=>h (Xii hn hx hl (e.trans ha))),if_neg (fun e=>h (Xii hn2 hx hl (e.trans hi)))]
theorem PoolAt.poolNe (h:PoolAt w p d MD ub hm pm asked L S k):p≠ub∧p≠hm∧p≠pm∧ub≠hm∧ub≠pm∧∀ l∈L,l.at_≠p∧l.at_≠ub∧l.at_≠hm∧l.at_≠pm :=
 ⟨h.pool.ne h.used (by decide),(h.heldm.ne h.pool).symm,(h.pins.ne h.pool).symm,(h.heldm.ne h.used).symm,(h.pins.ne h.used).symm,
  fun l hl=>⟨(h.frame l hl).1.ne h.pool (by decide),(h.frame l hl).1.ne h.used (by decide),(h.heldm.ne (h.frame l hl).1).symm,(h.pins.ne (h.frame l hl).1).symm⟩⟩
theorem PoolAt.put (h:PoolAt w p d MD ub hm pm asked L S k) (hn:(L.map (·.f.id)).Nodup) {l g:Pl} (hl:l∈L) (ha:g.at_=l.at_) (hi:g.f.id=l.f.id) {asked' k':Nat} (hk:k≤k') (hak:asked'≤k') (hgk:g.last≤k') (hO:Only [p,l.at_] w w')
  (hp:Blk w' p (Xaw d ub hm pm asked' S) 112) (hg:Blk w' l.at_ (Xas g) 150) (hr:Xau 5 w' g.v g.f.b):PoolAt w' p d MD ub hm pm asked' (putF L g) (S.setF g.f) k':=by
 obtain ⟨n1,n2,n3,n4,n5,n6⟩:=h.poolNe;obtain ⟨m1,m2,m3,m4⟩:=n6 l hl
 have hX:Aside w [p,l.at_]:=fun x hx=>by
  simp at hx
  rcases hx with rfl | rfl
  ·exact .inl ⟨_,h.pool⟩
  ·exact .inr (.inl ⟨_,(h.frame l hl).1⟩)
 refine ⟨hX.disk h.disk hO,hp,hO.blk h.used (by simp;exact ⟨n1.symm,m2.symm⟩),?_,h.pins.later hO (by simp;exact ⟨n3.symm,m4.symm⟩),?_,?_,?_,h.ne,hak,?_,h.size⟩
 ·rw [putF_heldM hl ha hi h.apart]
  exact h.heldm.later hO (by simp;exact ⟨n2.symm,m3.symm⟩)
 ·intro x hx
  rcases Xep hx with rfl | ⟨hx,hne⟩
  ·rw [ha];exact ⟨hg,hr⟩
  ·exact ⟨hO.blk (h.frame x hx).1 (by simp;exact ⟨(n6 x hx).1,fun e=>hne (e.trans ha.symm)⟩),hX.row (h.frame x hx).2 hO⟩
 ·rw [putF_fst hl ha hi h.apart hn,h.fst];rfl
 ·rw [putF_at];exact h.apart
 ·intro x hx
  rcases Xep hx with rfl | ⟨hx,hne⟩
  ·exact hgk
  ·exact Zp (h.last x hx) hk
theorem PS.setF_same (hf:(S.held.map (·.id)).Nodup) {f:Fr} (h:f∈S.held):S.setF f=S:=by
 unfold PS.setF
 have:(S.held.map fun x=>if x.id=f.id then f else x)=S.held:=by
  conv=>rhs;rw [←List.map_id S.held]
  apply Xc
  intro x hx;split
  ·next e=>exact (Xii hf hx h e).symm
  ·rfl
 rw [this]
theorem PoolAt.more (h:PoolAt w p d MD ub hm pm asked L S k) {g:Pl} (hid:∀ l∈L,l.f.id≠g.f.id) (hnew:w.heap.size≤g.at_) {w1:World} (hO1:Only [] w w1) (hO:Only [hm] w1 w')
  (hm':MapAt w' hm .i64 (mput (heldM L) (g.f.id:Int) (.pointer (some ⟨g.at_,0,none⟩)))) (hg:Blk w1 g.at_ (Xas g) 150) (hr:Xau 5 w1 g.v g.f.b) (hgk:g.last≤k):PoolAt w' p d MD ub hm pm asked (L++[g]) { S with held:=S.held++[g.f] } k:=by
 have h1:=h.past2 hO1;obtain ⟨n1,n2,n3,n4,n5,n6⟩:=h1.poolNe
 have hX:Aside w1 [hm]:=fun x hx=>by
  simp at hx;subst hx;exact .inr (.inr (.inr ⟨_,_,h1.heldm⟩))
 refine ⟨hX.disk h1.disk hO,hO.blk h1.pool (by simpa using n2),hO.blk h1.used (by simpa using n4),?_,h1.pins.later hO (by simpa using h.ne.symm),?_,?_,?_,h.ne,h.asked,?_,h.size⟩
 ·rw [put_new (Xfr hid)] at hm'
  simpa [heldM] using hm'
 ·intro x hx
  rcases Za.1 hx with hx | hx
  ·exact ⟨hO.blk (h1.frame x hx).1 (by simpa using (n6 x hx).2.2.1),hX.row (h1.frame x hx).2 hO⟩
  ·simp at hx
   subst hx;exact ⟨hO.blk hg (by simpa using (h1.heldm.ne hg).symm),hX.row hr hO⟩
 ·simp [h.fst]
 ·rw [Zs,Xi]
  refine ⟨h.apart,by simp,?_⟩;intro a ha b hb;obtain ⟨l,hl,rfl⟩:=Zi.1 ha;simp at hb;subst hb;have:=(h.frame l hl).1.lt;omega
 ·intro x hx
  rcases Za.1 hx with hx | hx
  ·exact h.last x hx
  ·simp at hx;subst hx;exact hgk
theorem heldM_del (L:List Pl) (id:Nat):mdel (heldM L) (id:Int)=heldM (L.filter fun l=>l.f.id != id):=by
 unfold mdel heldM;rw [List.filter_map];congr 1
 apply List.filter_congr
 intro x _;show ((x.f.id:Int) != (id:Int))=(x.f.id != id)
 by_cases h:x.f.id=id
 ·rw [h];simp
 ·rw [bne_iff_ne.2 (fun e=>h (Int.natCast_inj.1 e)),bne_iff_ne.2 h]
def PS.drop (S:PS) (id:Nat):PS:={ S with held:=S.held.filter fun f=>f.id != id }
theorem PoolAt.drop (h:PoolAt w p d MD ub hm pm asked L S k) (id:Nat) (hO:Only [hm] w w') (hm':MapAt w' hm .i64 (mdel (heldM L) (id:Int))):PoolAt w' p d MD ub hm pm asked (L.filter fun l=>l.f.id != id) (S.drop id) k:=by
 obtain ⟨n1,n2,n3,n4,n5,n6⟩:=h.poolNe
 have hX:Aside w [hm]:=fun x hx=>by
  simp at hx;subst hx;exact .inr (.inr (.inr ⟨_,_,h.heldm⟩))
 refine ⟨hX.disk h.disk hO,hO.blk h.pool (by simpa using n2),hO.blk h.used (by simpa using n4),?_,h.pins.later hO (by simpa using h.ne.symm),?_,?_,?_,h.ne,h.asked,?_,h.size⟩
 ·rw [←heldM_del];exact hm'
 ·intro x hx
  have hx:=(Yp.1 hx).1;exact ⟨hO.blk (h.frame x hx).1 (by simpa using (n6 x hx).2.2.1),hX.row (h.frame x hx).2 hO⟩
 ·show _=S.held.filter _
  rw [←h.fst,List.filter_map];rfl
 ·exact h.apart.sublist (List.filter_sublist.map _)
 ·exact fun x hx=>h.last x (Yp.1 hx).1
theorem Xdf (h:PoolAt w p d MD ub hm pm asked L S k) (hf:S.Fine k) (hk:k≤1000000000000) {l:Pl} (hl:l∈L) :
  Calls prog 77 #[.pointer (some ⟨p,0,none⟩),.int .i64 l.f.id] w fun e w'=>e=.returned (.pointer (some ⟨l.at_,0,none⟩))∧PoolAt w' p d MD ub hm pm (asked+1) (putF L { l with last:=asked+1 }) S (k+1)∧Only [p,l.at_] w w':=by
 have c7:=h.pool.cell 7;have c4:=h.pool.cell 4;have l3:=(h.frame l hl).1.cell 3;simp only [Xaw,Xas,Zd,Zb] at c4 c7 l3;have f7:=h.pool.frozen 7;have g3:=(h.frame l hl).1.frozen 3;have hne:=((h.poolNe.2.2.2.2.2) l hl).1;have hne2:=hne.symm;have hak:asked≤1000000000000:=Zp h.asked hk
 have hlk:(Instr.lookup 109 (.map (some hm)) (.int .i64 (l.f.id:Int)) false).run prog (w.setCell ⟨p,7,none⟩ (.int .i64 ((asked:Int)+1)))=.ok (.pointer (some ⟨l.at_,0,none⟩)) (w.setCell ⟨p,7,none⟩ (.int .i64 ((asked:Int)+1))):=by
  have:=(h.heldm.later (Xbe w p 7 (.int .i64 ((asked:Int)+1))) (by simpa using h.poolNe.2.1.symm)).look underlying109 underlying3 (Xji _) (l.f.id:Int) false;rw [Xow (h.ids hf) hl] at this;exact this
 have HH:=Th h;have HF:=Th hf;have HL:=Th hl;have HK:=Th hk;clear h hf hl hk;obtain ⟨la,lv,lt,⟨li,lb,ln,ld⟩⟩:=l;simp only at *
 go_enter func77,ntmps77
 go_wp2_with fail
 go_ret;have hO:Only [p,la] w ((w.setCell ⟨p,7,none⟩ (.int .i64 ((asked:Int)+1))).setCell ⟨la,3,none⟩ (.int .i64 ((asked:Int)+1))):=((Only.refl _ _).setCell (.inl (by simp)) _).setCell (.inl (by simp)) _;refine ⟨rfl,?_,hO⟩;have h:=HH.out;have hb:=(h.frame _ HL.out).1;have key:=h.put (h.ids HF.out) HL.out (g:=⟨la,lv,asked+1,⟨li,lb,ln,ld⟩⟩) rfl rfl (asked':=asked+1) (k':=k+1) (by omega) (by have:=h.asked;omega) (by show asked+1≤_;have:=h.asked;omega) hO
  (((h.pool.set 7 _).far _ (by exact hne2)).to (by simp [Xaw])) (((hb.far _ (by exact hne)).set 3 _).to (by simp [Xas])) (Xni (h.frame _ HL.out).2 hO (Aside.off (fun x hx=>by
   simp at hx
   rcases hx with rfl | rfl
   ·exact .inl ⟨_,h.pool⟩
   ·exact .inr (.inl ⟨_,hb⟩)) (by decide) (by decide) (by decide)))
 have e:S.setF ⟨li,lb,ln,ld⟩=S:=PS.setF_same HF.out.once (by rw [←h.fst];exact Yj HL.out);rw [e] at key;exact key
end P
namespace P
open Go Go.RowKit Go.Proofs.YtiijokopcgnokaaGreat D Tryz
variable {w w' : World} {p d ub hm pm asked k : Nat} {MD M : List Nat} {L : List Pl} {S : PS}
def _root_.Go.Proofs.YtiijokopcgnokaaGreat.D.DS.lay (s:DS) (i:Nat) (l:List UInt8):DS:={ s.changed with now:=s.now.set i l,row:=s.row++[(i,l)] }
def PS.giveUp (S:PS) (f:Fr):PS:={ S.drop f.id with d:=if f.dirty then S.d.lay (S.first+f.id) f.b else S.d }
inductive Frees (S:PS):Int→PS→Prop
 | room (h:S.held.length<S.frames):Frees S 0 S
 | none (h:S.frames≤S.held.length) (hs:∀ f∈S.held,f.free S.durable=false):Frees S 52 S
 | one (h:S.frames≤S.held.length) (f:Fr) (hf:f∈S.held) (hr:f.free S.durable=true):Frees S 0 (S.giveUp f)
theorem PS.Fine.drop (h:S.Fine k) (id:Nat):(S.drop id).Fine k where
 well:=h.well
 room:=h.room
 ids:=fun f hf=>h.ids f (Yp.1 hf).1
 len:=fun f hf=>h.len f (Yp.1 hf).1
 count0:=h.count0
 count:=h.count
 row:=h.row
 once:=h.once.sublist (List.filter_sublist.map _)
 few:=Zp (Ve _ _) h.few
 frames:=h.frames
 clean:=fun f hf hd=>h.clean f (Yp.1 hf).1 hd
theorem getD_set_ne {α:Type} (l:List α) (i j:Nat) (x z:α) (h:i≠j):(l.set i x).getD j z=l.getD j z:=by
 rw [Zf,Zf,Zv h]
theorem getD_set_self {α:Type} (l:List α) (i:Nat) (x z:α) (h:i<l.length):(l.set i x).getD i z=x:=by
 rw [Zf,Yr h];rfl
theorem PS.Fine.giveUp (h:S.Fine k) (f:Fr):(S.giveUp f).Fine (k+1):=by
 have hd:=h.drop f.id;unfold PS.giveUp
 cases f.dirty with
 | false=>exact hd.more (Xy _)
 | true =>
  refine ⟨?_,?_,hd.ids,hd.len,?_,?_,?_,hd.once,hd.few,hd.frames,?_⟩
  ·have:=h.well.changed;exact ⟨this.1,this.2,this.3⟩
  ·show _≤(S.d.now.set _ _).length;rw [Yz];exact h.room
  ·show 0≤S.d.count+1;have:=h.count0;omega
  ·show S.d.count+1≤_;have:=h.count;omega
  ·show (S.d.row++[_]).length≤_;have:=h.row;simp;omega
  ·intro x hx hxd
   have hne:=(Yp.1 hx).2;show (S.d.now.set (S.first+f.id) f.b).getD (S.first+x.id) []=x.b;rw [getD_set_ne _ _ _ _ _ (by simp at hne;omega)]
   exact h.clean x (Yp.1 hx).1 hxd
theorem Frees.fine {r:Int} {S':PS} (h:Frees S r S') (hf:S.Fine k):S'.Fine (k+1):=by
 cases h with
 | room=>exact hf.more (Xy _)
 | none=>exact hf.more (Xy _)
 | one h f hm hr=>exact hf.giveUp f
theorem Frees.room_ {S':PS} (h:Frees S 0 S') (hf:S.Fine k):S'.held.length<S'.frames:=by
 cases h with
 | room h=>exact h
 | one h f hm hr =>
  show (S.held.filter _).length<S.frames;have h1:=hf.few
  have:(S.held.filter fun x=>x.id != f.id).length<S.held.length:=by
   apply Nat.lt_of_le_of_ne (Ve _ _)
   intro e;have:=List.length_filter_eq_length_iff.1 e f hm;simp at this
  omega
theorem PoolAt.size2 (h:PoolAt w p d MD ub hm pm asked L S k):L.length=S.held.length:=by rw [←h.fst,Zl]
theorem Pool.ofAt {w0:World} (hM:∀ x∈M,x<w0.heap.size) (hO:Only M w0 w') (h:PoolAt w' p d MD ub hm pm asked L S k) (hf:S.Fine k) (h1:∀ x∈MD,x∈M∨w0.heap.size≤x) (h2:p∈M) (h3:ub∈M∨w0.heap.size≤ub) (h4:hm∈M∨w0.heap.size≤hm) (h5:pm∈M∨w0.heap.size≤pm)
  (h6:∀ l∈L,(l.at_∈M∨w0.heap.size≤l.at_)∧∀ x,l.v.ownBlock=some x→x∈M∨w0.heap.size≤x):∃ M',Pool w' p d M' S k∧Step M M' w0 w':=by
 refine ⟨M++(MD++[ub,hm,pm]++L.map (·.at_)++L.filterMap (·.v.ownBlock)),⟨⟨MD,ub,hm,pm,asked,L,h,fun x hx=>by simp [hx],by simp [h2],by simp,by simp,by simp,fun l hl=>⟨?_,fun x hx=>?_⟩⟩,?_,hf⟩,hO,?_⟩
 ·simp only [Za,Zi]
  exact .inr (.inl (.inr ⟨l,hl,rfl⟩))
 ·simp only [Za,List.mem_filterMap]
  exact .inr (.inr ⟨l,hl,hx⟩)
 ·intro x hx
  simp only [Za,Zi,List.mem_filterMap,Zg,Xt,or_false] at hx
  rcases hx with hx | ((hx | (rfl | rfl | rfl)) | ⟨l,hl,rfl⟩) | ⟨l,hl,hx⟩
  ·exact Ye (hM x hx) hO.size
  ·exact h.disk.lt x hx
  ·exact h.used.lt
  ·exact h.heldm.lt
  ·exact h.pins.lt
  ·exact (h.frame l hl).1.lt
  ·exact Xbk (h.frame l hl).2 hx
 ·intro x hx
  simp only [Za,Zi,List.mem_filterMap,Zg,Xt,or_false] at hx
  rcases hx with hx | ((hx | (rfl | rfl | rfl)) | ⟨l,hl,rfl⟩) | ⟨l,hl,hx⟩
  ·exact .inl hx
  ·exact h1 x hx
  ·exact h3
  ·exact h4
  ·exact h5
  ·exact (h6 l hl).1
  ·exact (h6 l hl).2 x hx
theorem PoolAt.lookLen (h:PoolAt w p d MD ub hm pm asked L S k) (hO:Only [] w w'):(Builtin.len_ #[109] 3 #[.map (some hm)]).run prog w'=.ok (.int .i64 L.length) w':=by
 have:=(h.heldm.past hO).len (P:=prog) underlying109 3
 simpa [heldM] using this
theorem PoolAt.step (h:PoolAt w p d MD ub hm pm asked L S k) {MD':List Nat} {s':DS} (hD:Disk w' d MD' s') (hS:Step MD MD' w w'):PoolAt w' p d MD' ub hm pm asked L { S with d:=s' } k:=by
 have one:∀ x,Aside w [x]→x∉MD:=fun x hx hm=>hx.apart h.disk x hm (by simp)
 refine ⟨hD,hS.1.blk h.pool (one p (fun x hx=>by simp at hx;subst hx;exact .inl ⟨_,h.pool⟩)),hS.1.blk h.used (one ub (fun x hx=>by simp at hx;subst hx;exact .inr (.inr (.inl ⟨_,h.used⟩)))),
  h.heldm.later hS.1 (one hm (fun x hx=>by simp at hx;subst hx;exact .inr (.inr (.inr ⟨_,_,h.heldm⟩)))),h.pins.later hS.1 (one pm (fun x hx=>by simp at hx;subst hx;exact .inr (.inr (.inr ⟨_,_,h.pins⟩)))),
  fun l hl=>⟨hS.1.blk (h.frame l hl).1 (one l.at_ (fun x hx=>by simp at hx;subst hx;exact .inr (.inl ⟨_,(h.frame l hl).1⟩))),(h.frame l hl).2.off hS.1 (h.disk.off (by decide) (by decide) (by decide))⟩,h.fst,h.apart,h.ne,h.asked,h.last,h.size⟩
theorem PoolAt.up (h:PoolAt w p d MD ub hm pm asked L S k) {k2:Nat} (hk:k≤k2):PoolAt w p d MD ub hm pm asked L S k2 :=
 ⟨h.disk,h.pool,h.used,h.heldm,h.pins,h.frame,h.fst,h.apart,h.ne,Zp h.asked hk,fun l hl=>Zp (h.last l hl) hk,h.size⟩
theorem PoolAt.to {S':PS} (h:PoolAt w p d MD ub hm pm asked L S k) (e:S=S'):PoolAt w p d MD ub hm pm asked L S' k:=e ▸ h
theorem Xop (h:Pool w p d M S k) (hk:k≤1000000):Calls prog 76 #[.pointer (some ⟨p,0,none⟩)] w fun e w'=>∃ r S' M',e=.returned (.int .i64 r)∧Frees S r S'∧Pool w' p d M' S' (k+1)∧Step M M' w w':=by
 have HP:=Th h;obtain ⟨MD,ub,hm,pm,asked,L,hA,hm1,hm2,hm3,hm4,hm5,hm6⟩:=h.at_;have HA:=Th hA;have HF:=Th h.fine;have c2:=hA.pool.cell 2;have c4:=hA.pool.cell 4;simp only [Xaw,Zd,Zb] at c2 c4;have C2:=Later.cell c2;have C4:=Later.cell c4
 have LL:∀ x:Later w,(Builtin.len_ #[109] 3 #[.map (some hm)]).run prog x.v=.ok (.int .i64 L.length) x.v:=fun x=>hA.lookLen x.h
 have hlen:=hA.size2;have HM:Hid ((∀ x∈MD,x∈M)∧p∈M∧ub∈M∧hm∈M∧pm∈M∧(∀ l∈L,l.at_∈M∧∀ x,l.v.ownBlock=some x→x∈M)):=⟨hm1,hm2,hm3,hm4,hm5,hm6⟩;clear h hA hm1 hm2 hm3 hm4 hm5 hm6 c2 c4;generalize hfr:S.frames=fr at *;have HFR:=Th hfr;generalize hln:L.length=n at *;have HN:=Th hln;have HLEN:=Th hlen;clear hfr hln hlen
 by_cases hroom:n<fr
 ·go_enter func76,ntmps76
  go_wp2_with fail
  refine Xaa (Only.refl _ _) (by kernel_rfl) (by kernel_rfl) ?_
  repeat (go_big_quiet_step (fail))
  refine wpQuiet_nil ?_
  rintro _ ⟨xq,rfl⟩
  go_wp2_with fail
  go_ret;have:=HLEN.out;refine ⟨_,S,M,rfl,.room (by rw [HFR.out];omega),(HP.out.past xq.h).more (Xy _),xq.h.mono (by simp),fun x hx=>.inl hx⟩
 ·have hroom2:decide (n<fr)=false:=by simpa using hroom
  go_enter func76,ntmps76
  go_wp2_with fail
  refine Xaa (Only.refl _ _) (by kernel_rfl) (by kernel_rfl) ?_
  repeat (go_big_quiet_step (fail))
  refine wpQuiet_nil ?_
  rintro _ ⟨xq,rfl⟩
  go_wp2_with fail
  refine (victim_any (HA.out.past2 xq.h) HF.out).mono ?_
  rintro e w3 ⟨id,b,rfl,hv,hO3⟩;have HV:=Th hv;have O3:=Th (xq.h.trans hO3 (by simp));clear hv hO3
  cases b with
  | false =>
   go_wp2_with fail
   go_ret;refine ⟨_,S,M,rfl,.none (by have:=HLEN.out;rw [HFR.out];omega) ?_,(HP.out.past O3.out).more (Xy _),O3.out.mono (by simp),fun x hx=>.inl hx⟩
   have:=HV.out;unfold Xlf at this
   rwa [if_neg (by simp)] at this
  | true =>
   obtain ⟨l,hl,hli,hlf⟩:∃ l∈L,l.f.id=id∧l.f.free S.durable=true:=by
    have:=HV.out;unfold Xlf at this;rw [if_pos rfl,←HA.out.fst] at this;obtain ⟨f,hf,h1,h2⟩:=this;obtain ⟨l,hl,rfl⟩:=Zi.1 hf;exact ⟨l,hl,h1,h2⟩
   subst hli;have H3:=HA.out.past2 O3.out;have hlk:=H3.lookHeld HF.out hl (Only.refl [] w3) false;simp only [Bool.false_eq_true,if_false] at hlk;have b2:=(H3.frame l hl).1.cell 2;have c4:=H3.pool.cell 4;simp only [Xaw,Xas,Zd,Zb] at c4 b2;have HL:=Th hl;have HLF:=Th hlf;have HA3:=Th H3;clear hl hlf H3 C2 C4 LL;have E:Hid (Frees S 0 (S.giveUp l.f)):=.one (by have:=HLEN.out;rw [HFR.out];omega) l.f (by rw [←HA.out.fst];exact Yj HL.out) HLF.out
   obtain ⟨la,lv,lt,⟨li,lb,ln,ld⟩⟩:=l;simp only at *
   cases ld with
   | false =>
    go_wp2_with (at_delete;refine Xin rfl _ _ 109 3 rfl underlying109 underlying3 hm (heldM L) rfl HA3.out.heldm li rfl ?_;intro w4 hm4 hO4 hs4)
    go_ret;have hO:Only M w w4:=(O3.out.mono (M':=M) (by simp)).trans hO4 (fun x hx=>by simp at hx;subst hx;exact .inl HM.out.2.2.2.1)
    obtain ⟨M',hP,hS⟩:=Pool.ofAt HP.out.lt hO ((HA3.out.drop li hO4 hm4).to (S':=S.giveUp ⟨li,lb,ln,false⟩) rfl) ((HF.out.drop li)) (fun x hx=>.inl (HM.out.1 x hx)) HM.out.2.1 (.inl HM.out.2.2.1) (.inl HM.out.2.2.2.1) (.inl HM.out.2.2.2.2.1) (fun l hl=>⟨.inl (HM.out.2.2.2.2.2 l (Yp.1 hl).1).1,fun x hx=>.inl ((HM.out.2.2.2.2.2 l (Yp.1 hl).1).2 x hx)⟩);exact ⟨_,_,M',rfl,E.out,hP.more (Xy _),hS⟩
   | true =>
    have hi:li<S.used.length:=HF.out.ids ⟨li,lb,ln,true⟩ (by rw [←HA.out.fst];exact Yj HL.out);have hrm:=HF.out.room;have hnl:=HA.out.disk.len.2;have c0:=HA3.out.pool.cell 0;have c1:=HA3.out.pool.cell 1;have b0:=(HA3.out.frame _ HL.out).1.cell 0;simp only [Xaw,Xas,Zd,Zb] at c0 c1 b0
    have WR:Hid (∀ w1,Only [] w3 w1→Calls prog 105 #[.pointer (some ⟨d,0,none⟩),.int .i64 ((S.first:Int)+li),lv] w1 fun e w'=>e=.returned (.int .i64 0)∧∃ M',Disk w' d M' (S.d.lay (S.first+li) lb)∧Step MD M' w1 w'):=fun w1 hO=>by
     have hD:=HA3.out.disk.past hO;have hr:=(HA3.out.frame _ HL.out).2
     have:=hD.write' (i:=((S.first+li:Nat):Int)) (write_ok HF.out.well.err (by omega) (HF.out.len ⟨li,lb,ln,true⟩ (by rw [←HA.out.fst];exact Yj HL.out))) HF.out.count0 (by have:=HF.out.count;omega) (by have:=HF.out.row;omega) (hr.off hO (Off.nil _ _)).at (fun a n c hv=>by
      subst hv;intro hin;obtain ⟨cs,hb⟩:=Xag (hr.off hO (Off.nil _ _)) (k:=a.block) rfl
      exact hD.off (e:=5) (by decide) (by decide) (by decide) _ hin _ hb)
     rw [show ((S.first+li:Nat):Int)=(S.first:Int)+li by omega] at this;exact this
    obtain ⟨fi,hfi⟩:∃ fi,S.first=fi:=⟨_,rfl⟩
    have HFI:=Th hfi;rw [hfi] at c1 WR;have e1:IntKind.i64.wrap ((fi:Int)+li)=(fi:Int)+li:=IntWalk.i64_in _ (by omega);clear hfi hi hrm hnl
    have aM:Hid (p∉MD∧la∉MD∧hm∉MD):=by
     have one:∀ x,Aside w3 [x]→x∉MD:=fun x hx hm=>hx.apart HA3.out.disk x hm (by simp)
     exact ⟨one p (fun x hx=>by simp at hx;subst hx;exact .inl ⟨_,HA3.out.pool⟩),one la (fun x hx=>by simp at hx;subst hx;exact .inr (.inl ⟨_,(HA3.out.frame _ HL.out).1⟩)),one hm (fun x hx=>by simp at hx;subst hx;exact .inr (.inr (.inr ⟨_,_,HA3.out.heldm⟩)))⟩
    go_wp2_with fail
    go_region_held3 (fun w'=>w'.cell? ⟨p,0,none⟩=some (.pointer (some ⟨d,0,none⟩))∧w'.cell? ⟨p,1,none⟩=some (.int .i64 fi)∧w'.cell? ⟨la,0,none⟩=some lv) (first | go_keep | exact hKEEP)
     ((go_at_call 105;refine (WR.out _ (Only.refl _ _).drew).mono ?_;rintro e w5 ⟨rfl,M5,hD5,hS5⟩;have hKEEP:=And.intro (hS5.1.cell (p:=⟨p,0,none⟩) c0 aM.out.1) (And.intro (hS5.1.cell (p:=⟨p,1,none⟩) c1 aM.out.1) (hS5.1.cell (p:=⟨la,0,none⟩) b0 aM.out.2.1))))
    have A5:Hid (PoolAt w5 p d M5 ub hm pm asked L { S with d:=S.d.lay (S.first+li) lb } k):=by
     have hD:Disk w5 d M5 (S.d.lay (S.first+li) lb):=by rw [HFI.out];exact hD5
     exact (HA3.out.past2 ((Only.refl _ _).drew)).step hD hS5
    have c4':=A5.out.pool.cell 4;simp only [Xaw,Zd,Zb] at c4';have S5:=Th hS5;clear hD5 hS5 hKEEP c0 c1 b0 e1
    go_wp2_with (at_delete;refine Xin rfl _ _ 109 3 rfl underlying109 underlying3 hm (heldM L) rfl A5.out.heldm li rfl ?_;intro w6 hm6 hO6 hs6)
    go_ret;have hO:Only M w w6:=(((O3.out.mono (M':=M) (by simp)).trans (Only.drew (Only.refl [] _)) (by simp)).trans S5.out.1 (fun x hx=>.inl (HM.out.1 x hx))).trans hO6 (fun x hx=>by simp at hx;subst hx;exact .inl HM.out.2.2.2.1)
    have hM5:∀ x∈M5,x∈M∨w.heap.size≤x:=fun x hx=>by
     rcases S5.out.2 x hx with h1 | h1
     ·exact .inl (HM.out.1 x h1)
     ·right
      have h2:=O3.out.size;have h3:w3.drew.heap.size=w3.heap.size:=rfl;omega
    obtain ⟨M',hP,hS⟩:=Pool.ofAt HP.out.lt hO (((A5.out.drop li hO6 hm6).to (S':=S.giveUp ⟨li,lb,ln,true⟩) rfl).up (Xy k)) (HF.out.giveUp _) hM5 HM.out.2.1 (.inl HM.out.2.2.1) (.inl HM.out.2.2.2.1) (.inl HM.out.2.2.2.2.1) (fun l hl=>⟨.inl (HM.out.2.2.2.2.2 l (Yp.1 hl).1).1,fun x hx=>.inl ((HM.out.2.2.2.2.2 l (Yp.1 hl).1).2 x hx)⟩);exact ⟨_,_,M',rfl,E.out,hP,hS⟩
end P
namespace P
open Go Go.RowKit Go.Proofs.YtiijokopcgnokaaGreat D B Tryz
variable {w w' : World} {p d ub hm pm asked k : Nat} {MD M : List Nat} {L : List Pl} {S : PS}
def PS.page (S:PS) (id:Nat):List UInt8:=match S.held.find? (·.id == id) with
 | some f=>f.b
 | none=>S.d.now.getD (S.first+id) []
theorem find_id {H:List Fr} (hn:(H.map (·.id)).Nodup) {f:Fr} (hf:f∈H):H.find? (fun x=>x.id == f.id)=some f:=by
 cases h:H.find? (fun x=>x.id == f.id) with
 | none=>exact absurd (Vb.1 h f hf) (by simp)
 | some g =>
  have h1:=List.find?_some h;have h2:=List.mem_of_find?_eq_some h;rw [Xii hn h2 hf (by simpa using h1)]
theorem find_no {H:List Fr} {id:Nat} (h:∀ f∈H,f.id≠id):H.find? (fun x=>x.id == id)=none:=Vb.2 fun x hx=>by simpa using h x hx
theorem PS.page_in (hn:(S.held.map (·.id)).Nodup) {f:Fr} (hf:f∈S.held):S.page f.id=f.b:=by
 unfold PS.page;rw [find_id hn hf]
theorem PS.page_out {id:Nat} (h:∀ f∈S.held,f.id≠id):S.page id=S.d.now.getD (S.first+id) []:=by
 unfold PS.page;rw [find_no h]
theorem PS.Fine.setF (h:S.Fine k) {f:Fr} (hi:f.id<S.used.length) (hl:f.b.length=512) (hd:f.dirty=true):(S.setF f).Fine k where
 well:=h.well
 room:=h.room
 ids:=fun x hx=>by
  obtain ⟨y,hy,rfl⟩:=Zi.1 hx;split
  ·exact hi
  ·exact h.ids y hy
 len:=fun x hx=>by
  obtain ⟨y,hy,rfl⟩:=Zi.1 hx;split
  ·exact hl
  ·exact h.len y hy
 count0:=h.count0
 count:=h.count
 row:=h.row
 once:=by
  have e:(S.setF f).held.map (·.id)=S.held.map (·.id):=by
   show (S.held.map _).map _=_;rw [Yw]
   apply Xc
   intro x _;show (if x.id=f.id then f else x).id=x.id;split
   ·next e=>exact e.symm
   ·rfl
  rw [e];exact h.once
 few:=by show (S.held.map _).length≤S.frames;rw [Zl];exact h.few
 frames:=h.frames
 clean:=fun x hx hxd=>by
  obtain ⟨y,hy,rfl⟩:=Zi.1 hx;split
  ·next e=>rw [if_pos e,hd] at hxd;cases hxd
  ·next e=>rw [if_neg e] at hxd;exact h.clean y hy hxd
theorem PS.Fine.addF (h:S.Fine k) {f:Fr} (hi:f.id<S.used.length) (hl:f.b.length=512) (hn:∀ x∈S.held,x.id≠f.id) (hr:S.held.length<S.frames) (hc:f.dirty=false→S.d.now.getD (S.first+f.id) []=f.b):({ S with held:=S.held++[f] }:PS).Fine k where
 well:=h.well
 room:=h.room
 ids:=fun x hx=>by
  rcases Za.1 hx with hx | hx
  ·exact h.ids x hx
  ·simp at hx;subst hx;exact hi
 len:=fun x hx=>by
  rcases Za.1 hx with hx | hx
  ·exact h.len x hx
  ·simp at hx;subst hx;exact hl
 count0:=h.count0
 count:=h.count
 row:=h.row
 once:=by
  show ((S.held++[f]).map _).Nodup;rw [Zs,Xi];refine ⟨h.once,by simp,?_⟩;intro a ha b hb;obtain ⟨x,hx,rfl⟩:=Zi.1 ha;simp at hb;subst hb;exact hn x hx
 few:=by show (S.held++[f]).length≤S.frames;simp;omega
 frames:=h.frames
 clean:=fun x hx hxd=>by
  rcases Za.1 hx with hx | hx
  ·exact h.clean x hx hxd
  ·simp at hx;subst hx;exact hc hxd
theorem PoolAt.filled (h:PoolAt w p d MD ub hm pm asked L S k) (hn:(L.map (·.f.id)).Nodup) {l:Pl} (hl:l∈L) {v:Value} {b:List UInt8} (hv:Xau 5 w v b) (lsn:Nat) :
  PoolAt (((w.setCell ⟨l.at_,0,none⟩ v).setCell ⟨l.at_,1,none⟩ (.int .u64 lsn)).setCell ⟨l.at_,2,none⟩ (.bool true)) p d MD ub hm pm asked (putF L ⟨l.at_,v,l.last,⟨l.f.id,b,lsn,true⟩⟩) (S.setF ⟨l.f.id,b,lsn,true⟩) k:=by
 have hb:=(h.frame l hl).1;have hO:Only [p,l.at_] w (((w.setCell ⟨l.at_,0,none⟩ v).setCell ⟨l.at_,1,none⟩ (.int .u64 lsn)).setCell ⟨l.at_,2,none⟩ (.bool true)):=(((Only.refl _ _).setCell (.inl (by simp)) _).setCell (.inl (by simp)) _).setCell (.inl (by simp)) _;have hne:=((h.poolNe.2.2.2.2.2) l hl).1;exact h.put hn hl (g:=⟨l.at_,v,l.last,⟨l.f.id,b,lsn,true⟩⟩) rfl rfl (Zq _) h.asked (h.last l hl) hO
  (((h.pool.far _ (by exact hne.symm)).far _ (by exact hne.symm)).far _ (by exact hne.symm)) ((((hb.set 0 v).set 1 _).set 2 _).to (by simp [Xas])) (hv.off hO (Aside.off (fun x hx=>by
   simp at hx
   rcases hx with rfl | rfl
   ·exact .inl ⟨_,h.pool⟩
   ·exact .inr (.inl ⟨_,hb⟩)) (by decide) (by decide) (by decide)))
theorem Xee {v:Value} {l:List UInt8} (h:Xau 5 w v l):∃ a c,v=.slice a l.length c:=by
 rcases h.2 with ⟨rfl,h0⟩ | ⟨g,cap,cur,rfl,_⟩
 ·exact ⟨none,0,by rw [h0]⟩
 ·exact ⟨_,cap,rfl⟩
theorem Xez {w0:World} {l:Pl} (hl:l∈L) (hM:∀ l∈L,l.at_∈M∧∀ x,l.v.ownBlock=some x→x∈M) {v:Value} (hv:∀ x,v.ownBlock=some x→w0.heap.size≤x) {f:Fr} {n n':Nat} {x:Pl} (hx:x∈putF (putF L ⟨l.at_,v,n,f⟩) ⟨l.at_,v,n',f⟩) :
  (x.at_∈M∨w0.heap.size≤x.at_)∧∀ y,x.v.ownBlock=some y→y∈M∨w0.heap.size≤y:=by
 rcases Xep hx with rfl | ⟨hx,hne⟩
 ·exact ⟨.inl (hM l hl).1,fun y hy=>.inr (hv y hy)⟩
 ·rcases Xep hx with rfl | ⟨hx,hne⟩
  ·exact ⟨.inl (hM l hl).1,fun y hy=>.inr (hv y hy)⟩
  ·exact ⟨.inl (hM x hx).1,fun y hy=>.inl ((hM x hx).2 y hy)⟩
theorem Xcp {v:Value} {b:List UInt8} {X:List Nat} (h:Xae w v b) (hO:Only X w w') (hX:∀ a n c,v=.slice (some a) n c→a.block∉X):Xae w' v b:=by
 obtain ⟨ao,cap,rfl,hc⟩:=h;refine ⟨ao,cap,rfl,fun h0=>?_⟩;obtain ⟨g,o,rfl,hc2⟩:=hc h0;exact ⟨g,o,rfl,fun j hj=>hO.cell (p:=⟨g,o+j,none⟩) (hc2 j hj) (hX ⟨g,o,none⟩ _ _ rfl)⟩
theorem bytes_lt {v:Value} {b:List UInt8} (h:Xae w v b) (h0:0<b.length) {a:Addr} {n c:Nat} (hv:v=.slice (some a) n c):a.block<w.heap.size:=by
 obtain ⟨ao,cap,rfl,hc⟩:=h;obtain ⟨g,o,rfl,hc2⟩:=hc h0;simp only [Value.slice.injEq,Zw] at hv;rw [←hv.1];exact cell_lt (hc2 0 h0)
theorem ids_more {g:Pl} (hn:(L.map (·.f.id)).Nodup) (h:∀ l∈L,l.f.id≠g.f.id):((L++[g]).map (·.f.id)).Nodup:=by
 rw [Zs,Xi];refine ⟨hn,by simp,?_⟩;intro a ha b hb;obtain ⟨x,hx,rfl⟩:=Zi.1 ha;simp at hb;subst hb;exact h x hx
theorem setF_more {f f0:Fr} (h:∀ x∈S.held,x.id≠f.id):({ S with held:=S.held++[⟨f.id,f0.b,f0.lsn,f0.dirty⟩] }:PS).setF f={ S with held:=S.held++[f] }:=by
 unfold PS.setF
 have:((S.held++[(⟨f.id,f0.b,f0.lsn,f0.dirty⟩:Fr)]).map fun x=>if x.id=f.id then f else x)=S.held++[f]:=by
  rw [Zs];congr 1
  ·conv=>rhs;rw [←List.map_id S.held]
   apply Xc
   intro x hx
   rw [if_neg (h x hx)];rfl
  ·simp
 simp only [this]
inductive Lays (S:PS) (id:Nat) (b:List UInt8) (lsn:Nat):Int→PS→Prop
 | held (f:Fr) (hf:f∈S.held) (hi:f.id=id):Lays S id b lsn 0 (S.setF ⟨id,b,if f.dirty then max lsn f.lsn else lsn,true⟩)
 | full (hi:∀ f∈S.held,f.id≠id) (h:Frees S 52 S):Lays S id b lsn 52 S
 | more (hi:∀ f∈S.held,f.id≠id) {S1:PS} (h:Frees S 0 S1):Lays S id b lsn 0 { S1 with held:=S1.held++[⟨id,b,lsn,true⟩] }
theorem Lays.to {id:Nat} {b:List UInt8} {lsn:Nat} {r:Int} {S1 S2:PS} (h:Lays S id b lsn r S1) (e:S1=S2):Lays S id b lsn r S2:=e ▸ h
theorem Frees.held {r:Int} {S':PS} (h:Frees S r S'):∀ f∈S'.held,f∈S.held:=by
 cases h with
 | room=>exact fun f h=>h
 | none=>exact fun f h=>h
 | one h f hf hr=>exact fun x hx=>(Yp.1 hx).1
theorem Frees.same {r:Int} {S':PS} (h:Frees S r S'):S'.used=S.used∧S'.first=S.first∧S'.frames=S.frames∧S'.durable=S.durable:=by
 cases h <;> exact ⟨rfl,rfl,rfl,rfl⟩
theorem lays_any (h:Pool w p d M S k) (hk:k≤1000000) (id:Nat) (hid:id<S.used.length) {v:Value} {b:List UInt8} (hv:Xae w v b) (hvM:∀ a n c,v=.slice (some a) n c→a.block∉M) (hb:b.length=512) (lsn:Nat) :
  Calls prog 50 #[.pointer (some ⟨p,0,none⟩),.int .i64 id,v,.int .u64 lsn] w fun e w'=>∃ r S' M',e=.returned (.int .i64 r)∧Lays S id b lsn r S'∧Pool w' p d M' S' (k+2)∧Step M M' w w':=by
 have HP:=Th h;obtain ⟨MD,ub,hm,pm,asked,L,hA,hm1,hm2,hm3,hm4,hm5,hm6⟩:=h.at_;have HA:=Th hA;have HF:=Th h.fine;have HM:Hid ((∀ x∈MD,x∈M)∧p∈M∧ub∈M∧hm∈M∧pm∈M∧(∀ l∈L,l.at_∈M∧∀ x,l.v.ownBlock=some x→x∈M)):=⟨hm1,hm2,hm3,hm4,hm5,hm6⟩;have HV:=Th hv;have HVM:=Th hvM;have HB:=Th hb;have HID:=Th hid;have c4:=hA.pool.cell 4;simp only [Xaw,Zd,Zb] at c4;clear hm1 hm2 hm3 hm4 hm5 hm6 hv hvM hb hid
 by_cases hheld:∃ l∈L,l.f.id=id
 ·obtain ⟨l,hl,rfl⟩:=hheld
  have hlk:=hA.lookHeld HF.out hl (Only.refl [] w) true;have b1:=(hA.frame l hl).1.cell 1;have b2:=(hA.frame l hl).1.cell 2;simp only [if_true,Xas,Zd,Zb] at hlk b1 b2;have HL:=Th hl;have hne:=((hA.poolNe.2.2.2.2.2) l hl).1;clear hl hA h;obtain ⟨la,lv,lt,⟨li,lb,ln,ld⟩⟩:=l;simp only at *;have CL:Hid (Calls prog 41 #[v] w fun e w'=>∃ v',e=.returned v'∧B.Own w w' v' b):=Xcj HV.out (by have:=HB.out;omega)
  have FS:∀ n:Nat,Hid ((S.setF ⟨li,b,n,true⟩).Fine k):=fun n=>HF.out.setF HID.out HB.out rfl
  cases ld with
  | false =>
   go_enter func50,ntmps50
   go_wp2_with (first
    | (go_at_call 41;refine CL.out.mono ?_;rintro e w1 ⟨v1,rfl,hr1,hn1,hO1⟩;obtain ⟨a1,c1,rfl⟩:=Xee hr1;have R1:=Th hr1;have N1:=Th hn1;have O1:=Th hO1;have b1':=hO1.blk (HA.out.frame _ HL.out).1 (by simp);have y0:=b1'.cell 0;have y1:=b1'.cell 1;have y2:=b1'.cell 2;have z0:=b1'.frozen 0;have z1:=b1'.frozen 1;have z2:=b1'.frozen 2;simp only [Xas,Zd,Zb] at y0 y1 y2;clear hr1 hn1 hO1 b1')
    | (go_at_call 77;refine (Xdf ((HA.out.past2 O1.out).filled (HA.out.ids HF.out) HL.out R1.out lsn) (FS lsn).out (by omega) (Xih HL.out rfl)).mono ?_;rintro e w3 ⟨rfl,hA3,hO3⟩;have A3:=Th hA3;have O3:=Th hO3;clear hA3 hO3))
   go_ret
   have hO:Only M w w3:=(((O1.out.mono (M':=M) (by simp)).trans ((((Only.refl [la] _).setCell (.inl (by simp)) _).setCell (.inl (by simp)) _).setCell (.inl (by simp)) _) (fun x hx=>by simp at hx;subst hx;exact .inl (HM.out.2.2.2.2.2 _ HL.out).1))).trans O3.out (fun x hx=>by
    simp at hx
    rcases hx with rfl | rfl
    ·exact .inl HM.out.2.1
    ·exact .inl (HM.out.2.2.2.2.2 _ HL.out).1)
   obtain ⟨M',hP,hS⟩:=Pool.ofAt HP.out.lt hO A3.out ((FS lsn).out.more (Xy _)) (fun x hx=>.inl (HM.out.1 x hx)) HM.out.2.1 (.inl HM.out.2.2.1) (.inl HM.out.2.2.2.1) (.inl HM.out.2.2.2.2.1) (fun l hl=>Xez HL.out HM.out.2.2.2.2.2 N1.out hl);exact ⟨_,_,M',rfl,.held ⟨li,lb,ln,false⟩ (by rw [←HA.out.fst];exact Yj HL.out) rfl,hP.more (Xy _),hS⟩
  | true =>
   rcases Yv lsn ln with hc | hc
   ·have HMX:Hid (max lsn ln=ln):=by show _=_;omega
    have hci:(lsn:Int)<ln:=by omega
    go_enter func50,ntmps50
    go_wp2_with (first
     | (go_at_call 41;refine CL.out.mono ?_;rintro e w1 ⟨v1,rfl,hr1,hn1,hO1⟩;obtain ⟨a1,c1,rfl⟩:=Xee hr1;have R1:=Th hr1;have N1:=Th hn1;have O1:=Th hO1;have b1':=hO1.blk (HA.out.frame _ HL.out).1 (by simp);have y0:=b1'.cell 0;have y1:=b1'.cell 1;have y2:=b1'.cell 2;have z0:=b1'.frozen 0;have z1:=b1'.frozen 1;have z2:=b1'.frozen 2;simp only [Xas,Zd,Zb] at y0 y1 y2;clear hr1 hn1 hO1 b1')
     | (go_at_call 77;refine (Xdf ((HA.out.past2 O1.out).filled (HA.out.ids HF.out) HL.out R1.out ln) (FS ln).out (by omega) (Xih HL.out rfl)).mono ?_;rintro e w3 ⟨rfl,hA3,hO3⟩;have A3:=Th hA3;have O3:=Th hO3;clear hA3 hO3))
    go_ret
    have hO:Only M w w3:=(((O1.out.mono (M':=M) (by simp)).trans ((((Only.refl [la] _).setCell (.inl (by simp)) _).setCell (.inl (by simp)) _).setCell (.inl (by simp)) _) (fun x hx=>by simp at hx;subst hx;exact .inl (HM.out.2.2.2.2.2 _ HL.out).1))).trans O3.out (fun x hx=>by
     simp at hx
     rcases hx with rfl | rfl
     ·exact .inl HM.out.2.1
     ·exact .inl (HM.out.2.2.2.2.2 _ HL.out).1)
    obtain ⟨M',hP,hS⟩:=Pool.ofAt HP.out.lt hO A3.out ((FS ln).out.more (Xy _)) (fun x hx=>.inl (HM.out.1 x hx)) HM.out.2.1 (.inl HM.out.2.2.1) (.inl HM.out.2.2.2.1) (.inl HM.out.2.2.2.2.1) (fun l hl=>Xez HL.out HM.out.2.2.2.2.2 N1.out hl);exact ⟨_,_,M',rfl,((Lays.held ⟨li,lb,ln,true⟩ (by rw [←HA.out.fst];exact Yj HL.out) rfl:Lays S li b lsn 0 _).to (congrArg (fun n=>S.setF ⟨li,b,n,true⟩) HMX.out)),hP.more (Xy _),hS⟩
   ·have HMX:Hid (max lsn ln=lsn):=by show _=_;omega
    have hci:(ln:Int)≤lsn:=by omega
    go_enter func50,ntmps50
    go_wp2_with (first
     | (go_at_call 41;refine CL.out.mono ?_;rintro e w1 ⟨v1,rfl,hr1,hn1,hO1⟩;obtain ⟨a1,c1,rfl⟩:=Xee hr1;have R1:=Th hr1;have N1:=Th hn1;have O1:=Th hO1;have b1':=hO1.blk (HA.out.frame _ HL.out).1 (by simp);have y0:=b1'.cell 0;have y1:=b1'.cell 1;have y2:=b1'.cell 2;have z0:=b1'.frozen 0;have z1:=b1'.frozen 1;have z2:=b1'.frozen 2;simp only [Xas,Zd,Zb] at y0 y1 y2;clear hr1 hn1 hO1 b1')
     | (go_at_call 77;refine (Xdf ((HA.out.past2 O1.out).filled (HA.out.ids HF.out) HL.out R1.out lsn) (FS lsn).out (by omega) (Xih HL.out rfl)).mono ?_;rintro e w3 ⟨rfl,hA3,hO3⟩;have A3:=Th hA3;have O3:=Th hO3;clear hA3 hO3))
    go_ret
    have hO:Only M w w3:=(((O1.out.mono (M':=M) (by simp)).trans ((((Only.refl [la] _).setCell (.inl (by simp)) _).setCell (.inl (by simp)) _).setCell (.inl (by simp)) _) (fun x hx=>by simp at hx;subst hx;exact .inl (HM.out.2.2.2.2.2 _ HL.out).1))).trans O3.out (fun x hx=>by
     simp at hx
     rcases hx with rfl | rfl
     ·exact .inl HM.out.2.1
     ·exact .inl (HM.out.2.2.2.2.2 _ HL.out).1)
    obtain ⟨M',hP,hS⟩:=Pool.ofAt HP.out.lt hO A3.out ((FS lsn).out.more (Xy _)) (fun x hx=>.inl (HM.out.1 x hx)) HM.out.2.1 (.inl HM.out.2.2.1) (.inl HM.out.2.2.2.1) (.inl HM.out.2.2.2.2.1) (fun l hl=>Xez HL.out HM.out.2.2.2.2.2 N1.out hl);exact ⟨_,_,M',rfl,((Lays.held ⟨li,lb,ln,true⟩ (by rw [←HA.out.fst];exact Yj HL.out) rfl:Lays S li b lsn 0 _).to (congrArg (fun n=>S.setF ⟨li,b,n,true⟩) HMX.out)),hP.more (Xy _),hS⟩
 ·have hno:∀ l∈L,l.f.id≠id:=fun l hl e=>hheld ⟨l,hl,e⟩
  have hlk:(Instr.lookup 109 (.map (some hm)) (.int .i64 (id:Int)) true).run prog w=.ok (.tuple #[.pointer none,.bool false]) w:=by
   have:=hA.heldm.look underlying109 underlying3 (Xji w) (id:Int) true;rw [Xfr hno] at this;exact this
  have HNO:Hid (∀ f∈S.held,f.id≠id):=fun f hf=>by
   rw [←HA.out.fst] at hf;obtain ⟨l,hl,rfl⟩:=Zi.1 hf;exact hno l hl
  clear hA h hheld hno
  go_enter func50,ntmps50
  go_wp2_with fail
  refine (Xop HP.out hk).mono ?_
  rintro e w1 ⟨r,S1,M1,rfl,hfr,hP1,hS1⟩;have FR:=Th hfr;have P1:=Th hP1;have S1':=Th hS1;clear hP1 hS1 c4 hlk
  have hr:r=0∨(r=52∧S1=S):=by cases hfr <;> simp
  clear hfr
  rcases hr with rfl | ⟨rfl,rfl⟩
  ·obtain ⟨MD1,ub1,hm1,pm1,asked1,L1,hA1,g1,g2,g3,g4,g5,g6⟩:=P1.out.at_
   have HA1:=Th hA1;have HF1:=Th P1.out.fine;have HM1:Hid ((∀ x∈MD1,x∈M1)∧p∈M1∧ub1∈M1∧hm1∈M1∧pm1∈M1∧(∀ l∈L1,l.at_∈M1∧∀ x,l.v.ownBlock=some x→x∈M1)):=⟨g1,g2,g3,g4,g5,g6⟩;have c4:=hA1.pool.cell 4;simp only [Xaw,Zd,Zb] at c4
   have HNO1:Hid (∀ l∈L1,l.f.id≠id):=fun l hl=>HNO.out l.f (FR.out.held l.f (by rw [←HA1.out.fst];exact Yj hl))
   clear hA1 g1 g2 g3 g4 g5 g6;have B1:Blk (w1.alloc (.cells #[.slice none 0 0,.int .u64 0,.bool false,.int .i64 0] 150)) w1.heap.size (Xas ⟨w1.heap.size,.slice none 0 0,0,⟨id,[],0,false⟩⟩) 150:=Blk.new _ _ w1;have HB1:=Th B1;clear B1;have c4a:=((Only.refl [] w1).alloc (.cells #[.slice none 0 0,.int .u64 0,.bool false,.int .i64 0] 150)).cell c4 (by simp);have HV1:Hid (Xae w1 v b):=Xcp HV.out S1'.out.1 HVM.out
   have HVM1:Hid (∀ a n c,v=.slice (some a) n c→a.block∉M1):=fun a n c e=>Step.keep S1'.out (bytes_lt HV.out (by have:=HB.out;omega) e) (HVM.out a n c e)
   have HN2:Hid (((L1++[(⟨w1.heap.size,.slice none 0 0,0,⟨id,[],0,false⟩⟩:Pl)]).map (·.f.id)).Nodup):=ids_more (HA1.out.ids HF1.out) HNO1.out;have ES:Hid (({ S1 with held:=S1.held++[⟨id,[],0,false⟩] }:PS).setF ⟨id,b,lsn,true⟩={ S1 with held:=S1.held++[⟨id,b,lsn,true⟩] }):=setF_more (f:=⟨id,b,lsn,true⟩) (f0:=⟨id,[],0,false⟩) (by rw [←HA1.out.fst];intro f hf;obtain ⟨l,hl,rfl⟩:=Zi.1 hf;exact HNO1.out l hl)
   have HF2:Hid (({ S1 with held:=S1.held++[⟨id,[],0,false⟩] }:PS).setF ⟨id,b,lsn,true⟩ |>.Fine (k+1)):=by
    show PS.Fine _ _;rw [ES.out];exact HF1.out.addF (by rw [FR.out.same.1];exact HID.out) HB.out (by rw [←HA1.out.fst];intro f hf;obtain ⟨l,hl,rfl⟩:=Zi.1 hf;exact HNO1.out l hl) (FR.out.room_ HF.out) (fun h=>by cases h)
   go_wp2_with (first
    | (refine Xio rfl _ _ _ 109 rfl underlying109 underlying3 hm1 (heldM L1) rfl (HA1.out.heldm.past ((Only.refl _ _).alloc (.cells #[.slice none 0 0,.int .u64 0,.bool false,.int .i64 0] 150))) id rfl (.pointer (some ⟨w1.heap.size,0,none⟩)) rfl ?_;intro w2 hm2 hO2 hs2;have A2:=Th (HA1.out.more (g:=⟨w1.heap.size,.slice none 0 0,0,⟨id,[],0,false⟩⟩) HNO1.out (Zq _) ((Only.refl [] w1).alloc _) hO2 hm2 HB1.out ⟨rfl,.inl ⟨rfl,rfl⟩⟩ (Yc _));have O2:=Th (((Only.refl [hm1] w1).alloc (.cells #[.slice none 0 0,.int .u64 0,.bool false,.int .i64 0] 150)).trans hO2 (fun x hx=>.inl hx));have y2:=(A2.out.frame ⟨w1.heap.size,.slice none 0 0,0,⟨id,[],0,false⟩⟩ (by simp)).1.cell 2;simp only [Xas,Zd,Zb] at y2;clear hm2 hO2 c4 c4a)
    | (go_at_call 41;refine (Xcj (Xcp HV1.out O2.out (by intro a n c e h;simp at h;exact HVM1.out a n c e (h ▸ HM1.out.2.2.2.1))) (by have:=HB.out;omega)).mono ?_;rintro e w3 ⟨v1,rfl,hr1,hn1,hO3⟩;obtain ⟨a1,c1,rfl⟩:=Xee hr1;have R1:=Th hr1;have N1:=Th hn1;have O3:=Th hO3;have b1':=hO3.blk (A2.out.frame ⟨w1.heap.size,.slice none 0 0,0,⟨id,[],0,false⟩⟩ (by simp)).1 (by simp);have y0:=b1'.cell 0;have y1:=b1'.cell 1;have y2:=b1'.cell 2;have z0:=b1'.frozen 0;have z1:=b1'.frozen 1;have z2:=b1'.frozen 2;simp only [Xas,Zd,Zb] at y0 y1 y2;clear hr1 hn1 hO3 b1')
    | (go_at_call 77;refine (Xdf ((A2.out.past2 O3.out).filled (l:=⟨w1.heap.size,.slice none 0 0,0,⟨id,[],0,false⟩⟩) HN2.out (by simp) R1.out lsn) HF2.out (by omega) (Xih (l:=⟨w1.heap.size,.slice none 0 0,0,⟨id,[],0,false⟩⟩) (by simp) rfl)).mono ?_;rintro e w4 ⟨rfl,hA4,hO4⟩;have A4:=Th hA4;have O4:=Th hO4;clear hA4 hO4))
   go_ret;have hM1:∀ x∈M1,x∈M∨w.heap.size≤x:=S1'.out.2;have hsz:w.heap.size≤w1.heap.size:=S1'.out.1.size
   have hO:Only M w w4:=(((S1'.out.1.trans O2.out (fun x hx=>by simp at hx;subst hx;exact hM1 _ HM1.out.2.2.2.1)).trans O3.out (by simp)).trans ((((Only.refl [w1.heap.size] _).setCell (.inl (by simp)) _).setCell (.inl (by simp)) _).setCell (.inl (by simp)) _) (fun x hx=>by simp at hx;subst hx;exact .inr hsz)).trans O4.out (fun x hx=>by
    simp at hx
    rcases hx with rfl | rfl
    ·exact .inl HM.out.2.1
    ·exact .inr hsz)
   obtain ⟨M',hP,hS⟩:=Pool.ofAt HP.out.lt hO (A4.out.to ES.out) (by rw [←ES.out];exact HF2.out.more (Xy _)) (fun x hx=>hM1 x (HM1.out.1 x hx)) HM.out.2.1 (hM1 _ HM1.out.2.2.1) (hM1 _ HM1.out.2.2.2.1) (hM1 _ HM1.out.2.2.2.2.1) (fun l hl=>by
    have hv:∀ y,(Value.slice a1 b.length c1).ownBlock=some y→w.heap.size≤y:=fun y hy=>by
     have h1:=N1.out y hy;have h2:=O2.out.size
     have h3:w2.heap.size=w1.heap.size+1:=by have:=hs2;simpa using this
     omega
    rcases Xep hl with rfl | ⟨hl,_⟩
    ·exact ⟨.inr hsz,fun y hy=>.inr (hv y hy)⟩
    ·rcases Xep hl with rfl | ⟨hl,_⟩
     ·exact ⟨.inr hsz,fun y hy=>.inr (hv y hy)⟩
     ·rcases Za.1 hl with hl | hl
      ·exact ⟨hM1 _ (HM1.out.2.2.2.2.2 l hl).1,fun y hy=>hM1 _ ((HM1.out.2.2.2.2.2 l hl).2 y hy)⟩
      ·simp at hl
       subst hl
       exact ⟨.inr hsz,fun y hy=>by simp [Value.ownBlock] at hy⟩)
   exact ⟨_,_,M',rfl,.more HNO.out FR.out,hP,hS⟩
  ·go_wp2_with fail
   go_ret;exact ⟨_,_,M1,rfl,.full HNO.out FR.out,P1.out.more (by omega),S1'.out⟩
end P
namespace P
open Go Go.RowKit Go.Proofs.YtiijokopcgnokaaGreat D B Tryz
variable {w w' : World} {p d ub hm pm asked k : Nat} {MD M : List Nat} {L : List Pl} {S : PS}
inductive Holds (S:PS) (id:Nat):Int→PS→Prop
 | held (f:Fr) (hf:f∈S.held) (hi:f.id=id):Holds S id 0 S
 | full (hi:∀ f∈S.held,f.id≠id) (h:Frees S 52 S):Holds S id 52 S
 | more (hi:∀ f∈S.held,f.id≠id) {S1:PS} (h:Frees S 0 S1):Holds S id 0 { S1 with held:=S1.held++[⟨id,S.page id,0,false⟩] }
def HeldAt (w:World) (pv:Value) (r:Int) (b:List UInt8):Prop:=(r=0∧∃ la v,pv=.pointer (some ⟨la,0,none⟩)∧w.cell? ⟨la,0,none⟩=some v∧Xau 5 w v b)∨(r≠0∧pv=.pointer none)
theorem Frees.now {r:Int} {S1:PS} (h:Frees S r S1) {id:Nat} (hi:∀ f∈S.held,f.id≠id):S1.d.now.getD (S1.first+id) []=S.d.now.getD (S.first+id) []:=by
 cases h with
 | room=>rfl
 | none=>rfl
 | one h f hf hr =>
  unfold PS.giveUp
  cases f.dirty with
  | false=>rfl
  | true =>
   show (S.d.now.set (S.first+f.id) f.b).getD (S.first+id) []=_;have:=hi f hf;exact getD_set_ne _ _ _ _ _ (by omega)
theorem read_in {s:DS} (hw:Well s) {i:Nat} (h:i<s.now.length):s.read (i:Int)=(s.now.getD i [],0):=by
 unfold DS.read;rw [hw.down,if_neg (by simp),if_neg (by omega)];simp
theorem holds_any (h:Pool w p d M S k) (hk:k≤1000000) (id:Nat) (hid:id<S.used.length) :
  Calls prog 96 #[.pointer (some ⟨p,0,none⟩),.int .i64 id] w fun e w'=>∃ pv r S' M',e=.returned (.tuple #[pv,.int .i64 r])∧Holds S id r S'∧HeldAt w' pv r (S.page id)∧Pool w' p d M' S' (k+2)∧Step M M' w w':=by
 have HP:=Th h;obtain ⟨MD,ub,hm,pm,asked,L,hA,hm1,hm2,hm3,hm4,hm5,hm6⟩:=h.at_;have HA:=Th hA;have HF:=Th h.fine;have HM:Hid ((∀ x∈MD,x∈M)∧p∈M∧ub∈M∧hm∈M∧pm∈M∧(∀ l∈L,l.at_∈M∧∀ x,l.v.ownBlock=some x→x∈M)):=⟨hm1,hm2,hm3,hm4,hm5,hm6⟩;have HID:=Th hid;have c4:=hA.pool.cell 4;simp only [Xaw,Zd,Zb] at c4;clear hm1 hm2 hm3 hm4 hm5 hm6
 by_cases hheld:∃ l∈L,l.f.id=id
 ·obtain ⟨l,hl,rfl⟩:=hheld
  have hlk:=hA.lookHeld HF.out hl (Only.refl [] w) true;simp only [if_true] at hlk;have HL:=Th hl;clear hl hA h hid;obtain ⟨la,lv,lt,⟨li,lb,ln,ld⟩⟩:=l;simp only at *
  go_enter func96,ntmps96
  go_wp2_with (go_at_call 77;refine (Xdf HA.out HF.out (by omega) HL.out).mono ?_;rintro e w3 ⟨rfl,hA3,hO3⟩;have A3:=Th hA3;have O3:=Th hO3;clear hA3 hO3)
  go_ret2
  have hmem:(⟨li,lb,ln,ld⟩:Fr)∈S.held:=by rw [←HA.out.fst];exact Yj HL.out
  have hO:Only M w w3:=O3.out.mono (fun x hx=>by
   simp at hx
   rcases hx with rfl | rfl
   ·exact .inl HM.out.2.1
   ·exact .inl (HM.out.2.2.2.2.2 _ HL.out).1)
  obtain ⟨M',hP,hS⟩:=Pool.ofAt HP.out.lt hO A3.out (HF.out.more (Xy _)) (fun x hx=>.inl (HM.out.1 x hx)) HM.out.2.1 (.inl HM.out.2.2.1) (.inl HM.out.2.2.2.1) (.inl HM.out.2.2.2.2.1) (fun x hx=>by
   rcases Xep hx with rfl | ⟨hx,_⟩
   ·exact ⟨.inl (HM.out.2.2.2.2.2 _ HL.out).1,fun y hy=>.inl ((HM.out.2.2.2.2.2 _ HL.out).2 y hy)⟩
   ·exact ⟨.inl (HM.out.2.2.2.2.2 _ hx).1,fun y hy=>.inl ((HM.out.2.2.2.2.2 _ hx).2 y hy)⟩)
  have hfr:=A3.out.frame ⟨la,lv,asked+1,⟨li,lb,ln,ld⟩⟩ (Xih HL.out rfl);refine ⟨_,_,S,M',rfl,.held _ hmem rfl,.inl ⟨rfl,la,lv,rfl,?_,?_⟩,hP.more (Xy _),hS⟩
  ·have:=hfr.1.cell 0
   simpa [Xas] using this
  ·rw [show S.page li=lb from PS.page_in HF.out.once hmem]
   exact hfr.2
 ·have hno:∀ l∈L,l.f.id≠id:=fun l hl e=>hheld ⟨l,hl,e⟩
  have hlk:(Instr.lookup 109 (.map (some hm)) (.int .i64 (id:Int)) true).run prog w=.ok (.tuple #[.pointer none,.bool false]) w:=by
   have:=hA.heldm.look underlying109 underlying3 (Xji w) (id:Int) true;rw [Xfr hno] at this;exact this
  have HNO:Hid (∀ f∈S.held,f.id≠id):=fun f hf=>by
   rw [←HA.out.fst] at hf;obtain ⟨l,hl,rfl⟩:=Zi.1 hf;exact hno l hl
  have hrm:=HF.out.room;have hnl:=hA.disk.len.2;have PG:Hid (S.page id=S.d.now.getD (S.first+id) []):=PS.page_out HNO.out
  have PL:Hid ((S.page id).length=512):=by
   show _=_;rw [PG.out];exact hA.disk.secLen.1 _ (by omega)
  have c0:=hA.pool.cell 0;have c1:=hA.pool.cell 1;simp only [Xaw,Xas,Zd,Zb] at c0 c1
  have RD:Hid (∀ w1,Only [] w w1→Calls prog 114 #[.pointer (some ⟨d,0,none⟩),.int .i64 ((S.first:Int)+id)] w1 fun e w'=>∃ v,e=.returned (.tuple #[v,.int .i64 0])∧Fresh w1 w' v (S.page id)∧Only [] w1 w'):=fun w1 hO=>by
   have hD:=HA.out.disk.past hO;have:=hD.read' (i:=((S.first+id:Nat):Int)) (read_in HF.out.well (by omega));rw [show ((S.first+id:Nat):Int)=(S.first:Int)+id by omega,←PG.out] at this;exact this
  obtain ⟨fi,hfi⟩:∃ fi,S.first=fi:=⟨_,rfl⟩
  have HFI:=Th hfi;rw [hfi] at c1 RD;have e1:IntKind.i64.wrap ((fi:Int)+id)=(fi:Int)+id:=IntWalk.i64_in _ (by omega);clear hfi hrm hnl hid hA h hheld hno;generalize hpg:S.page id=pg at *;have HPG:=Th hpg;clear hpg
  go_enter func96,ntmps96
  go_wp2_with fail
  go_region_held3 (fun w'=>w'.cell? ⟨p,0,none⟩=some (.pointer (some ⟨d,0,none⟩))∧w'.cell? ⟨p,1,none⟩=some (.int .i64 fi)) (first | go_keep | exact hKEEP)
   ((go_at_call 114;refine (RD.out _ (Only.refl _ _).drew).mono ?_;rintro e w1 ⟨v1,rfl,hv1,hO1⟩;have hKEEP:=And.intro (hO1.cell (p:=⟨p,0,none⟩) c0 (by simp)) (hO1.cell (p:=⟨p,1,none⟩) c1 (by simp))))
  obtain ⟨rfl,hb1⟩:v1=.slice (some ⟨w.heap.size,0,none⟩) 512 512∧Blk w1 w.heap.size (u8s pg) 5:=by
   rcases hv1 with ⟨_,h⟩ | ⟨h,hb⟩
   ·have:=PL.out;rw [h] at this;cases this
   ·rw [PL.out] at h;exact ⟨h,hb⟩
  have R1:Hid (Xau 5 w1 (.slice (some ⟨w.heap.size,0,none⟩) 512 512) pg):=hb1.byteRow PL.out (by unfold maxLen;omega);have O1:Hid (Only [] w w1):=((Only.refl _ _).drew).trans hO1 (by simp);clear hv1 hO1 hKEEP c0 c1 e1 c4 hlk hb1
  go_wp2_with fail
  refine (Xop (HP.out.past O1.out) hk).mono ?_
  rintro e w2 ⟨r,S1,M1,rfl,hfr,hP1,hS1⟩;have FR:=Th hfr;have P1:=Th hP1;have S1':=Th hS1
  have R2:Hid (Xau 5 w2 (.slice (some ⟨w.heap.size,0,none⟩) 512 512) pg):=Xab R1.out hS1.1 (fun x hx=>by
   simp [Value.ownBlock] at hx
   subst hx;intro hm;have:=HP.out.lt _ hm
   omega)
  clear hP1 hS1
  have hr:r=0∨(r=52∧S1=S):=by cases hfr <;> simp
  clear hfr
  rcases hr with rfl | ⟨rfl,rfl⟩
  ·obtain ⟨MD1,ub1,hm1,pm1,asked1,L1,hA1,g1,g2,g3,g4,g5,g6⟩:=P1.out.at_
   have HA1:=Th hA1;have HF1:=Th P1.out.fine;have HM1:Hid ((∀ x∈MD1,x∈M1)∧p∈M1∧ub1∈M1∧hm1∈M1∧pm1∈M1∧(∀ l∈L1,l.at_∈M1∧∀ x,l.v.ownBlock=some x→x∈M1)):=⟨g1,g2,g3,g4,g5,g6⟩;have c4:=hA1.pool.cell 4;simp only [Xaw,Zd,Zb] at c4
   have HNO1:Hid (∀ l∈L1,l.f.id≠id):=fun l hl=>HNO.out l.f (FR.out.held l.f (by rw [←HA1.out.fst];exact Yj hl))
   clear hA1 g1 g2 g3 g4 g5 g6;have B1:Blk (w2.alloc (.cells #[.slice (some ⟨w.heap.size,0,none⟩) 512 512,.int .u64 0,.bool false,.int .i64 0] 150)) w2.heap.size (Xas ⟨w2.heap.size,.slice (some ⟨w.heap.size,0,none⟩) 512 512,0,⟨id,pg,0,false⟩⟩) 150:=Blk.new _ _ w2;have HB1:=Th B1;clear B1
   have HF2:Hid (({ S1 with held:=S1.held++[⟨id,pg,0,false⟩] }:PS).Fine (k+1)):=by
    refine HF1.out.addF (by rw [FR.out.same.1];exact HID.out) PL.out (by rw [←HA1.out.fst];intro f hf;obtain ⟨l,hl,rfl⟩:=Zi.1 hf;exact HNO1.out l hl) (FR.out.room_ HF.out) (fun _=>?_);show S1.d.now.getD (S1.first+id) []=pg;rw [FR.out.now HNO.out];exact PG.out.symm
   go_wp2_with (first
    | (refine Xio rfl _ _ _ 109 rfl underlying109 underlying3 hm1 (heldM L1) rfl (HA1.out.heldm.past ((Only.refl _ _).alloc (.cells #[.slice (some ⟨w.heap.size,0,none⟩) 512 512,.int .u64 0,.bool false,.int .i64 0] 150))) id rfl (.pointer (some ⟨w2.heap.size,0,none⟩)) rfl ?_;intro w3 hm3 hO3 hs3;have A3:=Th (HA1.out.more (g:=⟨w2.heap.size,.slice (some ⟨w.heap.size,0,none⟩) 512 512,0,⟨id,pg,0,false⟩⟩) HNO1.out (Zq _) ((Only.refl [] w2).alloc _) hO3 hm3 HB1.out (Xad R2.out ((Only.refl [] w2).alloc _)) (Yc _));have O3:=Th (((Only.refl [hm1] w2).alloc (.cells #[.slice (some ⟨w.heap.size,0,none⟩) 512 512,.int .u64 0,.bool false,.int .i64 0] 150)).trans hO3 (fun x hx=>.inl hx));clear hm3 hO3 c4)
    | (go_at_call 77;refine (Xdf A3.out HF2.out (by omega) (l:=⟨w2.heap.size,.slice (some ⟨w.heap.size,0,none⟩) 512 512,0,⟨id,pg,0,false⟩⟩) (by simp)).mono ?_;rintro e w4 ⟨rfl,hA4,hO4⟩;have A4:=Th hA4;have O4:=Th hO4;clear hA4 hO4))
   go_ret2
   have hM1:∀ x∈M1,x∈M∨w.heap.size≤x:=fun x hx=>by
    rcases S1'.out.2 x hx with h1 | h1
    ·exact .inl h1
    ·right;have:=O1.out.size;omega
   have hsz:w.heap.size≤w2.heap.size:=Zp O1.out.size S1'.out.1.size
   have hO:Only M w w4:=((((O1.out.mono (M':=M) (by simp)).trans S1'.out.1 (fun x hx=>.inl hx)).trans O3.out (fun x hx=>by simp at hx;subst hx;exact hM1 _ HM1.out.2.2.2.1))).trans O4.out (fun x hx=>by
    simp at hx
    rcases hx with rfl | rfl
    ·exact .inl HM.out.2.1
    ·exact .inr hsz)
   obtain ⟨M',hP,hS⟩:=Pool.ofAt HP.out.lt hO A4.out (HF2.out.more (Xy _)) (fun x hx=>hM1 x (HM1.out.1 x hx)) HM.out.2.1 (hM1 _ HM1.out.2.2.1) (hM1 _ HM1.out.2.2.2.1) (hM1 _ HM1.out.2.2.2.2.1) (fun l hl=>by
    have hv:∀ y,(Value.slice (some ⟨w.heap.size,0,none⟩) 512 512).ownBlock=some y→w.heap.size≤y:=fun y hy=>by
     simp [Value.ownBlock] at hy
     omega
    rcases Xep hl with rfl | ⟨hl,_⟩
    ·exact ⟨.inr hsz,fun y hy=>.inr (hv y hy)⟩
    ·rcases Za.1 hl with hl | hl
     ·exact ⟨hM1 _ (HM1.out.2.2.2.2.2 l hl).1,fun y hy=>hM1 _ ((HM1.out.2.2.2.2.2 l hl).2 y hy)⟩
     ·simp at hl
      subst hl
      exact ⟨.inr hsz,fun y hy=>.inr (hv y hy)⟩)
   have hfr:=A4.out.frame ⟨w2.heap.size,.slice (some ⟨w.heap.size,0,none⟩) 512 512,asked1+1,⟨id,pg,0,false⟩⟩ (Xih (l:=⟨w2.heap.size,.slice (some ⟨w.heap.size,0,none⟩) 512 512,0,⟨id,pg,0,false⟩⟩) (by simp) rfl);have hcl:=hfr.1.cell 0;refine ⟨_,_,_,M',rfl,?_,.inl ⟨rfl,w2.heap.size,_,rfl,hcl,hfr.2⟩,hP,hS⟩;have:=Holds.more HNO.out FR.out;rw [HPG.out] at this;exact this
  ·go_wp2_with fail
   go_ret2
   have hS:Step M M1 w w2:=⟨(O1.out.mono (M':=M) (by simp)).trans S1'.out.1 (fun x hx=>.inl hx),fun x hx=>by
    rcases S1'.out.2 x hx with h1 | h1
    ·exact .inl h1
    ·right;have:=O1.out.size;omega⟩
   exact ⟨_,_,_,M1,rfl,.full HNO.out FR.out,.inr ⟨by decide,rfl⟩,P1.out.more (by omega),hS⟩
end P
namespace P
open Go Go.RowKit Go.Proofs.YtiijokopcgnokaaGreat D B Tryz
variable {w w' : World} {p d ub hm pm asked k : Nat} {MD M : List Nat} {L : List Pl} {S : PS}
theorem PS.Fine.use (h:S.Fine k) (j:Nat) (x:Bool):({ S with used:=S.used.set j x }:PS).Fine k :=
 ⟨h.well,by show S.first+(S.used.set j x).length≤_;rw [Yz];exact h.room,by intro f hf;show f.id<(S.used.set j x).length;rw [Yz];exact h.ids f hf,h.len,h.count0,h.count,h.row,h.once,h.few,h.frames,h.clean⟩
theorem PoolAt.use (h:PoolAt w p d MD ub hm pm asked L S k) (j:Nat) (x:Bool):PoolAt (w.setCell ⟨ub,j,none⟩ (.bool x)) p d MD ub hm pm asked L { S with used:=S.used.set j x } k:=by
 obtain ⟨n1,n2,n3,n4,n5,n6⟩:=h.poolNe;have hO:=Xbe w ub j (.bool x)
 have hX:Aside w [ub]:=fun y hy=>by simp at hy;subst hy;exact .inr (.inr (.inl ⟨_,h.used⟩))
 refine ⟨hX.disk h.disk hO,(hO.blk h.pool (by simpa using n1)).to ?_,(h.used.set j _).to ?_,h.heldm.later hO (by simpa using n4.symm),h.pins.later hO (by simpa using n5.symm),?_,h.fst,h.apart,h.ne,h.asked,h.last,?_⟩
 ·simp [Xaw]
 ·show _=(S.used.set j x).map _
  rw [List.map_set]
 ·exact fun l hl=>⟨hO.blk (h.frame l hl).1 (by simpa using (n6 l hl).2.1),hX.row (h.frame l hl).2 hO⟩
 ·show (S.used.set j x).length≤_;rw [Yz];exact h.size
theorem PoolAt.usedCell (h:PoolAt w p d MD ub hm pm asked L S k) {j:Nat} (hj:j<S.used.length):w.cell? ⟨ub,j,none⟩=some (.bool (S.used.getD j false)):=by
 rw [h.used.cell,Zr,Zc hj,Zf,Zc hj];rfl
def FirstNo (l:List Bool) (z:Int):Prop:=(z = -1∧∀ j,j<l.length→l.getD j false=true)∨∃ j:Nat,z=j∧j<l.length∧l.getD j false=false∧∀ i,i<j→l.getD i false=true
theorem Xjz {g n:Nat} {l:List Bool} (hn:l.length=n) (hm:n≤65536) (hc:∀ j,j<n→w.cell? ⟨g,j,none⟩=some (.bool (l.getD j false))) :
  Calls prog 49 #[.slice (some ⟨g,0,none⟩) n n,.bool false] w fun e w'=>∃ z,e=.returned (.int .i64 z)∧FirstNo l z∧w=w':=by
 have HC:=Th hc;have HN:=Th hn;clear hc hn
 go_enter func49,ntmps49
 go_wp2_with fail
 go_loop [8] (fun i=>∃ k:Nat,k≤n∧i=.int .i64 k∧∀ i,i<k→l.getD i false=true) (fun i=>n-(intOf i).toNat)
 case atStart=>exact ⟨0,Yc _,rfl,fun i hi=>absurd hi (Nat.not_lt_zero _)⟩
 case round =>
  obtain ⟨k,hk,rfl,hal⟩:=hrel;have HAL:=Th hal;clear hal
  by_cases hlt:k<n
  ·have c:=HC.out k hlt
   have hki:(k:Int)<n:=by omega
   cases hb:l.getD k false with
   | true =>
    have HB:=Th hb;rw [hb] at c;clear hb
    go_wp2_with fail
    go_round
    case rel=>exact ⟨k+1,by omega,by go_num,fun i hi=>by
     rcases Yv i k with h | h
     ·exact HAL.out i h
     ·obtain rfl:i=k:=by omega
      exact HB.out⟩
    case measure=>simp [intOf];omega
   | false =>
    have HB:=Th hb;rw [hb] at c;clear hb
    go_wp2_with fail
    go_ret;exact ⟨_,rfl,.inr ⟨k,rfl,by rw [HN.out];exact hlt,HB.out,HAL.out⟩,rfl⟩
  ·obtain rfl:k=n:=by omega
   go_wp2_with fail
   go_ret;exact ⟨_,rfl,.inl ⟨rfl,by rw [HN.out];exact HAL.out⟩,rfl⟩
inductive Allocs (S:PS):Nat→Int→PS→Prop
 | all (h:∀ j,j<S.used.length→S.used.getD j false=true):Allocs S 0 52 S
 | full (j:Nat) (hj:j<S.used.length) (hu:S.used.getD j false=false) (hl:∀ i,i<j→S.used.getD i false=true) (h:Lays S j zeros 0 52 S):Allocs S 0 52 S
 | one (j:Nat) (hj:j<S.used.length) (hu:S.used.getD j false=false) (hl:∀ i,i<j→S.used.getD i false=true) {S1:PS} (h:Lays S j zeros 0 0 S1):Allocs S j 0 { S1 with used:=S1.used.set j true }
theorem Lays.same {id:Nat} {b:List UInt8} {lsn:Nat} {r:Int} {S':PS} (h:Lays S id b lsn r S'):S'.used=S.used∧S'.first=S.first∧S'.frames=S.frames∧S'.durable=S.durable:=by
 cases h with
 | held f hf hi=>exact ⟨rfl,rfl,rfl,rfl⟩
 | full hi h=>exact ⟨rfl,rfl,rfl,rfl⟩
 | more hi h=>exact h.same
theorem Lays.code {id:Nat} {b:List UInt8} {lsn:Nat} {r:Int} {S':PS} (h:Lays S id b lsn r S'):r=0∨(r=52∧S'=S):=by
 cases h <;> simp
theorem info_u8 : (prog.info? 5).map (fun i=>(i.zero,i.size,i.bytes))=some (some (.int .u8 0),1,1):=by kernel_rfl
theorem zeros_make : ∀ w:World,(Instr.makeSlice 22 (.int .i64 512) (.int .i64 512)).run prog w=.ok (.slice (some ⟨w.heap.size,0,none⟩) 512 512) (w.alloc (.cells (u8s zeros).toArray 5)):=by
 intro w;obtain ⟨i,hi,hz0,hz1,hz2⟩:=info_parts info_u8;have hr:=run_make (P:=prog) w 22 5 i (.int .u8 0) underlying22 hi hz0 .i64 .i64 512 512 (by omega) (by omega) (by rw [hz2];decide) (by omega)
 rw [hr];simp only [Value.cells,hz1,Wi,Xcv,zeros,Xfj];rfl
theorem Pool.alloc (h:Pool w p d M S k) (hk:k≤1000000):Calls prog 28 #[.pointer (some ⟨p,0,none⟩)] w fun e w'=>∃ (id:Nat) (r:Int) (S':PS) (M':List Nat),e=.returned (.tuple #[.int .i64 id,.int .i64 r])∧Allocs S id r S'∧Pool w' p d M' S' (k+2)∧Step M M' w w':=by
 have HP:=Th h;obtain ⟨MD,ub,hm,pm,asked,L,hA,hm1,hm2,hm3,hm4,hm5,hm6⟩:=h.at_;have HA:=Th hA;have c3:=hA.pool.cell 3;simp only [Xaw,Zd,Zb] at c3;have IX:Hid (Calls prog 49 #[.slice (some ⟨ub,0,none⟩) S.used.length S.used.length,.bool false] w fun e w'=>∃ z,e=.returned (.int .i64 z)∧FirstNo S.used z∧w=w'):=Xjz rfl hA.size (fun j hj=>hA.usedCell hj);have hmk:=zeros_make;clear hA h hm1 hm2 hm3 hm4 hm5 hm6;generalize hz:(u8s zeros).toArray=Z at *;have HZ:=Th hz;clear hz;generalize hn:S.used.length=n at *;have HN:=Th hn;clear hn
 go_enter func28,ntmps28
 go_wp2_with fail
 refine IX.out.mono ?_
 rintro e w1 ⟨z,rfl,hz,rfl⟩;have HF:=Th hz
 rcases hz with ⟨rfl,hall⟩ | ⟨j,rfl,hj,hu,hlow⟩
 ·have ALL:=Th hall
  clear hall
  go_wp2_with fail
  go_ret2;exact ⟨0,_,S,M,rfl,.all ALL.out,HP.out.more (by omega),Only.refl _ _,fun x hx=>.inl hx⟩
 ·have HJ:Hid (j<S.used.length):=hj
  have HU:=Th hu;have HL:=Th hlow
  have hj0:¬(j:Int)<0:=by omega
  clear hj hu hlow
  go_wp2_with fail
  have hP1:=HP.out.past ((Only.refl [] w).alloc (.cells Z 5))
  have hb:Blk (w.alloc (.cells Z 5)) w.heap.size (u8s zeros) 5:=by rw [←HZ.out];exact Blk.new _ _ w
  refine (lays_any hP1 hk j HJ.out (Blk.bytes hb Xek.symm) (notIn rfl (fun hx=>by have:=HP.out.lt _ hx;omega)) Xek 0).mono ?_
  rintro e w2 ⟨r,S1,M1,rfl,hl,hP2,hS2⟩;have LY:=Th hl;have P2:=Th hP2
  have S2:Hid (Step M M1 w w2):=⟨((Only.refl M w).alloc _).trans hS2.1 (fun x hx=>.inl hx),fun x hx=>by
   rcases hS2.2 x hx with h1 | h1
   ·exact .inl h1
   ·right;rw [World.size_alloc] at h1;omega⟩
  clear hP1 hb hP2 hS2;have hr:=hl.code;clear hl
  rcases hr with rfl | ⟨rfl,rfl⟩
  ·obtain ⟨MD1,ub1,hm1,pm1,asked1,L1,hA1,g1,g2,g3,g4,g5,g6⟩:=P2.out.at_
   have hn1:S1.used.length=n:=by rw [LY.out.same.1];exact HN.out
   have hj1:j<S1.used.length:=by rw [LY.out.same.1];exact HJ.out
   have c3':=hA1.pool.cell 3;simp only [Xaw,Zd,Zb] at c3';rw [hn1] at c3' hj1;have cj:=hA1.usedCell (by rw [hn1];exact hj1)
   have fj:=hA1.used.frozen j
   have hji:(j:Int)<n:=by omega
   have hjp:(0:Int)≤j:=by omega
   have HA1:=Th hA1;have HM1:Hid ((∀ x∈MD1,x∈M1)∧p∈M1∧ub1∈M1∧hm1∈M1∧pm1∈M1∧(∀ l∈L1,l.at_∈M1∧∀ x,l.v.ownBlock=some x→x∈M1)):=⟨g1,g2,g3,g4,g5,g6⟩;generalize S1.used.getD j false=bj at *;clear hA1 g1 g2 g3 g4 g5 g6 c3 hn1
   go_wp2_with fail
   go_ret2;have A3:=HA1.out.use j true;have hO3:=Xbe w2 ub1 j (.bool true);obtain ⟨M',hP,hS⟩:=Pool.ofAt P2.out.lt (hO3.mono (M':=M1) (fun x hx=>by simp at hx;subst hx;exact .inl HM1.out.2.2.1)) A3 (P2.out.fine.use j true) (fun x hx=>.inl (HM1.out.1 x hx)) HM1.out.2.1 (.inl HM1.out.2.2.1) (.inl HM1.out.2.2.2.1) (.inl HM1.out.2.2.2.2.1) (fun l hl=>⟨.inl (HM1.out.2.2.2.2.2 l hl).1,fun y hy=>.inl ((HM1.out.2.2.2.2.2 l hl).2 y hy)⟩)
   exact ⟨j,_,_,M',rfl,.one j HJ.out HU.out HL.out LY.out,hP,S2.out.next hS⟩
  ·go_wp2_with fail
   go_ret2;exact ⟨0,_,S1,M1,rfl,.full j HJ.out HU.out HL.out LY.out,P2.out,S2.out⟩
end P
namespace P
open Go Go.RowKit Go.Proofs.YtiijokopcgnokaaGreat D B Tryz
variable {w w' : World} {p d ub hm pm asked k : Nat} {MD M : List Nat} {L : List Pl} {S : PS}
theorem PS.is_nat {id:Nat}:S.is (id:Int)=true↔id<S.used.length∧S.used.getD id false=true:=by
 unfold PS.is;simp
def PS.release (S:PS) (id:Nat):PS:={ S.drop id with used:=S.used.set id false }
theorem Pool.release_yes (h:Pool w p d M S k) (id:Nat) (hi:S.is (id:Int)=true):Calls prog 95 #[.pointer (some ⟨p,0,none⟩),.int .i64 id] w fun e w'=>e=.returned (.int .i64 0)∧∃ M',Pool w' p d M' (S.release id) k∧Step M M' w w':=by
 have IS:=Th (h.is id hi);have HP:=Th h;have HI:=Th (PS.is_nat.1 hi);obtain ⟨MD,ub,hm,pm,asked,L,hA,g1,g2,g3,g4,g5,g6⟩:=h.at_;have HA:=Th hA;have HM:Hid ((∀ x∈MD,x∈M)∧p∈M∧ub∈M∧hm∈M∧pm∈M∧(∀ l∈L,l.at_∈M∧∀ x,l.v.ownBlock=some x→x∈M)):=⟨g1,g2,g3,g4,g5,g6⟩;have c3:=hA.pool.cell 3;have c5:=hA.pool.cell 5;have c4:=(hA.use id false).pool.cell 4;simp only [Xaw,Zd,Zb] at c3 c4 c5;have hlk:=hA.lookPins (Only.refl [] w) (id:Int);have cj:=hA.usedCell HI.out.1;have fj:=hA.used.frozen id;have hji:=HI.out.1
 have hj0:(0:Int)≤id:=by omega
 have A2:=Th (hA.use id false);clear h hi hA g1 g2 g3 g4 g5 g6;generalize hn:S.used.length=n at *
 have hjn:(id:Int)<n:=by omega
 generalize S.used.getD id false=bj at *;have HN:=Th hn;clear hn
 go_enter func95,ntmps95
 go_wp2_with (first
  | (go_at_call 87;refine IS.out.mono ?_;rintro e w1 ⟨rfl,rfl⟩)
  | (at_delete;refine Xin rfl _ _ 109 3 rfl underlying109 underlying3 hm (heldM L) rfl A2.out.heldm id rfl ?_;intro w2 hm2 hO2 hs2))
 go_ret;have hO:Only M w w2:=((Xbe w ub id (.bool false)).mono (M':=M) (fun x hx=>by simp at hx;subst hx;exact .inl HM.out.2.2.1)).trans hO2 (fun x hx=>by simp at hx;subst hx;exact .inl HM.out.2.2.2.1)
 obtain ⟨M',hP,hS⟩:=Pool.ofAt HP.out.lt hO ((A2.out.drop id hO2 hm2).to (S':=S.release id) rfl) ((HP.out.fine.use id false).drop id) (fun x hx=>.inl (HM.out.1 x hx)) HM.out.2.1 (.inl HM.out.2.2.1) (.inl HM.out.2.2.2.1) (.inl HM.out.2.2.2.2.1) (fun l hl=>⟨.inl (HM.out.2.2.2.2.2 l (Yp.1 hl).1).1,fun x hx=>.inl ((HM.out.2.2.2.2.2 l (Yp.1 hl).1).2 x hx)⟩);exact ⟨rfl,M',hP,hS⟩
theorem Holds.code {id:Nat} {r:Int} {S':PS} (h:Holds S id r S'):r=0∨(r=52∧S'=S):=by
 cases h <;> simp
def Got (w w':World) (M:List Nat) (v:Value) (r:Int) (b:List UInt8):Prop:=(r=0∧Xau 5 w' v b∧(∀ x,v.ownBlock=some x→w.heap.size≤x∧x∉M))∨(r≠0∧v=.slice none 0 0)
theorem Pool.get_yes (h:Pool w p d M S k) (hk:k≤1000000) (id:Nat) (hi:S.is (id:Int)=true):Calls prog 67 #[.pointer (some ⟨p,0,none⟩),.int .i64 id] w fun e w'=>∃ v r S' M',e=.returned (.tuple #[v,.int .i64 r])∧Holds S id r S'∧Got w w' M' v r (S.page id)∧Pool w' p d M' S' (k+2)∧Step M M' w w':=by
 have IS:=Th (h.is id hi);have HP:=Th h;have HI:=Th (PS.is_nat.1 hi)
 have HPL:Hid ((S.page id).length≤1048576):=by
  show _≤_
  by_cases hh:∃ f∈S.held,f.id=id
  ·obtain ⟨f,hf,rfl⟩:=hh
   rw [PS.page_in h.fine.once hf,h.fine.len f hf];omega
  ·rw [PS.page_out (fun f hf e=>hh ⟨f,hf,e⟩)]
   obtain ⟨MD,ub,hm,pm,asked,L,hA,_⟩:=h.at_;have:=h.fine.room;have h2:=HI.out.1
   rw [hA.disk.secLen.1 _ (by omega)];omega
 clear h hi
 go_enter func67,ntmps67
 go_wp2_with (go_at_call 87;refine IS.out.mono ?_;rintro e w1 ⟨rfl,rfl⟩)
 refine (holds_any HP.out hk id HI.out.1).mono ?_
 rintro e w1 ⟨pv,r,S1,M1,rfl,hh,hat,hP1,hS1⟩;have HH:=Th hh;have P1:=Th hP1;have S1':=Th hS1;clear hP1 hS1
 rcases hh.code with rfl | ⟨rfl,rfl⟩
 ·obtain ⟨_,la,v,rfl,c0,hr⟩ | ⟨h,_⟩:=hat
  ·have R1:=Th hr
   obtain ⟨av,cv,rfl⟩:=Xee hr;clear hh hr
   go_wp2_with (go_at_call 41;refine (Xcj R1.out.at HPL.out).mono ?_;rintro e w2 ⟨v2,rfl,hr2,hn2,hO2⟩;have R2:=Th hr2;have N2:=Th hn2;have O2:=Th hO2;clear hr2 hn2 hO2)
   go_ret2;refine ⟨_,_,S1,M1,rfl,HH.out,.inl ⟨rfl,R2.out,fun x hx=>⟨?_,?_⟩⟩,P1.out.past O2.out,⟨S1'.out.1.trans O2.out (by simp),S1'.out.2⟩⟩
   ·have:=N2.out x hx;have:=S1'.out.1.size;omega
   ·intro hm
    have:=N2.out x hx;have:=P1.out.lt x hm;omega
  ·exact absurd rfl h
 ·obtain ⟨h,_⟩ | ⟨_,rfl⟩:=hat
  ·cases h
  ·clear hh
   go_wp2_with fail
   go_ret2;exact ⟨_,_,S1,M1,rfl,HH.out,.inr ⟨by decide,rfl⟩,P1.out,S1'.out⟩
theorem Pool.put_yes (h:Pool w p d M S k) (hk:k≤1000000) (id:Nat) (hi:S.is (id:Int)=true) {v:Value} {b:List UInt8} (hv:Xae w v b) (hvM:∀ a n c,v=.slice (some a) n c→a.block∉M) (hb:b.length=512) (lsn:Nat) :
  Calls prog 56 #[.pointer (some ⟨p,0,none⟩),.int .i64 id,v,.int .u64 lsn] w fun e w'=>∃ r S' M',e=.returned (.int .i64 r)∧Lays S id b lsn r S'∧Pool w' p d M' S' (k+2)∧Step M M' w w':=by
 have IS:=Th (h.is id hi);have LA:=Th (lays_any h hk id (PS.is_nat.1 hi).1 hv hvM hb lsn);obtain ⟨av,cv,rfl,_⟩:=hv;rw [hb] at LA ⊢;clear h hi hvM
 go_enter func56,ntmps56
 go_wp2_with (first | (go_at_call 87;refine IS.out.mono ?_;rintro e w1 ⟨rfl,rfl⟩) | (go_at_call 50;refine LA.out.mono ?_;rintro e w2 ⟨r,S1,M1,rfl,hl,hP2,hS2⟩;have LY:=Th hl;have P2:=Th hP2;have S2:=Th hS2;clear hl hP2 hS2))
 go_ret;exact ⟨_,S1,M1,rfl,LY.out,P2.out,S2.out⟩
end P
namespace P
open Go Go.RowKit Go.Proofs.YtiijokopcgnokaaGreat D B Tryz
variable {w w' : World} {p d ub hm pm asked k : Nat} {MD M : List Nat} {L : List Pl} {S : PS}
theorem Frees.page {r:Int} {S1:PS} (h:Frees S r S1) (hf:S.Fine k) (hl:S.first+S.used.length≤S.d.now.length) (j:Nat):S1.page j=S.page j:=by
 cases h with
 | room=>rfl
 | none=>rfl
 | one h f hm hr =>
  have hn1:((S.giveUp f).held.map (·.id)).Nodup:=(hf.giveUp f).once
  by_cases hj:j=f.id
  ·subst hj
   have e1:(S.giveUp f).page f.id=(S.giveUp f).d.now.getD (S.first+f.id) []:=PS.page_out (fun x hx=>by have:=(Yp.1 hx).2;simpa using this);rw [e1,PS.page_in hf.once hm];unfold PS.giveUp
   cases hd:f.dirty with
   | false=>exact hf.clean f hm hd
   | true =>
    show (S.d.now.set (S.first+f.id) f.b).getD (S.first+f.id) []=f.b;exact getD_set_self _ _ _ _ (by have:=hf.ids f hm;omega)
  ·by_cases hg:∃ g∈S.held,g.id=j
   ·obtain ⟨g,hg,rfl⟩:=hg
    have hg2:g∈(S.giveUp f).held:=Yp.2 ⟨hg,by simpa using hj⟩;rw [PS.page_in hn1 hg2,PS.page_in hf.once hg]
   ·have hno:∀ g∈S.held,g.id≠j:=fun g h1 h2=>hg ⟨g,h1,h2⟩
    rw [PS.page_out hno,PS.page_out (S:=S.giveUp f) (fun g h1=>hno g (Yp.1 h1).1)];unfold PS.giveUp
    cases hd:f.dirty with
    | false=>rfl
    | true =>
     show (S.d.now.set (S.first+f.id) f.b).getD (S.first+j) []=_;exact getD_set_ne _ _ _ _ _ (by omega)
theorem setF_ids (S:PS) (f:Fr):(S.setF f).held.map (·.id)=S.held.map (·.id):=by
 show (S.held.map _).map _=_;rw [Yw]
 apply Xc
 intro x _;show (if x.id=f.id then f else x).id=x.id;split
 ·next e=>exact e.symm
 ·rfl
theorem setF_page (hn:(S.held.map (·.id)).Nodup) {f f0:Fr} (hf:f0∈S.held) (hi:f0.id=f.id) (j:Nat):(S.setF f).page j=if j=f.id then f.b else S.page j:=by
 have hn1:((S.setF f).held.map (·.id)).Nodup:=by rw [setF_ids];exact hn
 by_cases hj:j=f.id
 ·rw [if_pos hj,hj]
  exact PS.page_in hn1 (Zi.2 ⟨f0,hf,if_pos hi⟩)
 ·rw [if_neg hj]
  by_cases hg:∃ g∈S.held,g.id=j
  ·obtain ⟨g,hg,rfl⟩:=hg
   rw [PS.page_in hn hg,PS.page_in hn1 (Zi.2 ⟨g,hg,if_neg hj⟩)]
  ·have hno:∀ g∈S.held,g.id≠j:=fun g h1 h2=>hg ⟨g,h1,h2⟩
   rw [PS.page_out hno,PS.page_out (S:=S.setF f) (fun g h1=>?_)]
   ·rfl
   ·obtain ⟨x,hx,rfl⟩:=Zi.1 h1
    split
    ·exact fun e=>hj e.symm
    ·exact hno x hx
theorem Xnz {f:Fr} (hn:((S.held++[f]).map (·.id)).Nodup) (j:Nat):({ S with held:=S.held++[f] }:PS).page j=if j=f.id then f.b else S.page j:=by
 have hn0:(S.held.map (·.id)).Nodup:=by rw [Zs] at hn;exact (Xi.1 hn).1
 by_cases hj:j=f.id
 ·rw [if_pos hj,hj]
  exact PS.page_in (S:={ S with held:=S.held++[f] }) hn (by simp)
 ·rw [if_neg hj]
  by_cases hg:∃ g∈S.held,g.id=j
  ·obtain ⟨g,hg,rfl⟩:=hg
   rw [PS.page_in hn0 hg,PS.page_in (S:={ S with held:=S.held++[f] }) hn (f:=g) (by simp [hg])]
  ·have hno:∀ g∈S.held,g.id≠j:=fun g h1 h2=>hg ⟨g,h1,h2⟩
   rw [PS.page_out hno,PS.page_out (S:={ S with held:=S.held++[f] }) (fun g h1=>?_)]
   rcases Za.1 h1 with h1 | h1
   ·exact hno g h1
   ·simp at h1;subst h1;exact fun e=>hj e.symm
theorem Xpa {f:Fr} (hn:(S.held.map (·.id)).Nodup) (h:∀ x∈S.held,x.id≠f.id):((S.held++[f]).map (·.id)).Nodup:=by
 rw [Zs,Xi];refine ⟨hn,by simp,?_⟩;intro a ha b hb;obtain ⟨x,hx,rfl⟩:=Zi.1 ha;simp at hb;subst hb;exact h x hx
theorem Lays.page {id:Nat} {b:List UInt8} {lsn:Nat} {S':PS} (h:Lays S id b lsn 0 S') (hf:S.Fine k) (j:Nat):S'.page j=if j=id then b else S.page j:=by
 cases h with
 | held f hm hi=>exact setF_page hf.once hm hi j
 | more hi hfr =>
  rename_i S1
  have h1:=Xnz (S:=S1) (f:=⟨id,b,lsn,true⟩) (Xpa (hfr.fine hf).once (fun x hx=>hi x (hfr.held x hx))) j;rw [h1,hfr.page hf hf.room]
theorem Holds.page {id:Nat} {r:Int} {S':PS} (h:Holds S id r S') (hf:S.Fine k) (j:Nat):S'.page j=S.page j:=by
 cases h with
 | held f hm hi=>rfl
 | full hi hfr=>rfl
 | more hi hfr =>
  rename_i S1
  have h1:=Xnz (S:=S1) (f:=⟨id,S.page id,0,false⟩) (Xpa (hfr.fine hf).once (fun x hx=>hi x (hfr.held x hx))) j;rw [h1,hfr.page hf hf.room]
  by_cases hj:j=id
  ·rw [if_pos hj,hj]
  ·rw [if_neg hj]
theorem Holds.same {id:Nat} {r:Int} {S':PS} (h:Holds S id r S'):S'.used=S.used∧S'.first=S.first∧S'.frames=S.frames∧S'.durable=S.durable:=by
 cases h with
 | held f hf hi=>exact ⟨rfl,rfl,rfl,rfl⟩
 | full hi h=>exact ⟨rfl,rfl,rfl,rfl⟩
 | more hi h=>exact h.same
def PS.Easy (S:PS):Prop:=∀ f∈S.held,f.free S.durable=true
theorem Frees.easy {r:Int} {S1:PS} (h:Frees S r S1) (hf:S.Fine k) (he:S.Easy):r=0∧S1.Easy:=by
 cases h with
 | room=>exact ⟨rfl,he⟩
 | none h1 h2 =>
  have h3:=hf.frames.1
  cases hh:S.held with
  | nil=>rw [hh] at h1;simp at h1;omega
  | cons f l =>
   have h4:=h2 f (by rw [hh];simp)
   rw [he f (by rw [hh];simp)] at h4;cases h4
 | one h1 f hm hr=>exact ⟨rfl,fun x hx=>he x (Yp.1 hx).1⟩
theorem Lays.easy {id:Nat} {b:List UInt8} {lsn:Nat} {r:Int} {S':PS} (h:Lays S id b lsn r S') (hf:S.Fine k) (he:S.Easy) (hl:lsn≤S.durable):r=0∧S'.Easy:=by
 cases h with
 | held f hm hi =>
  obtain ⟨n',hn',hle⟩:∃ n',(if f.dirty=true then max lsn f.lsn else lsn)=n'∧n'≤S.durable:=by
   refine ⟨_,rfl,?_⟩;have:=he f hm;unfold Fr.free at this
   cases hd:f.dirty with
   | false=>simpa using hl
   | true =>
    rw [hd] at this;simp at this;simp;omega
  rw [hn'];refine ⟨rfl,fun x hx=>?_⟩;obtain ⟨y,hy,rfl⟩:=Zi.1 hx
  by_cases hyi:y.id=id
  ·rw [if_pos hyi]
   show (!(true && decide (S.durable<n')))=true;simp;omega
  ·rw [if_neg hyi];exact he y hy
 | full hi hfr=>exact absurd (hfr.easy hf he).1 (by decide)
 | more hi hfr =>
  refine ⟨rfl,fun x hx=>?_⟩;have hd:=hfr.same.2.2.2
  rcases Za.1 hx with hx | hx
  ·exact (hfr.easy hf he).2 x hx
  ·simp at hx
   subst hx;unfold Fr.free;show (!(true && decide (_<lsn)))=true;rw [hd];simp;omega
theorem Holds.easy {id:Nat} {r:Int} {S':PS} (h:Holds S id r S') (hf:S.Fine k) (he:S.Easy):r=0∧S'.Easy:=by
 cases h with
 | held f hm hi=>exact ⟨rfl,he⟩
 | full hi hfr=>exact absurd (hfr.easy hf he).1 (by decide)
 | more hi hfr =>
  refine ⟨rfl,fun x hx=>?_⟩
  rcases Za.1 hx with hx | hx
  ·exact (hfr.easy hf he).2 x hx
  ·simp at hx
   subst hx;rfl
end P
namespace P
open Go Go.RowKit Go.Proofs.YtiijokopcgnokaaGreat D B Tryz
def upd (pg:Nat→List UInt8) (id:Nat) (b:List UInt8):Nat→List UInt8:=fun j=>if j=id then b else pg j
theorem Xjh (pg:Nat→List UInt8) (id:Nat) (b:List UInt8):upd pg id b id=b:=if_pos rfl
theorem Xiw {pg:Nat→List UInt8} {id j:Nat} {b:List UInt8} (h:j≠id):upd pg id b j=pg j:=if_neg h
def PoolV (w:World) (p:Nat) (M:List Nat) (u:List Bool) (pg:Nat→List UInt8) (k:Nat):Prop :=
 ∃ d S,Pool w p d M S k∧S.Easy∧S.durable=0∧S.used=u∧∀ j,u.getD j false=true→S.page j=pg j
variable {w w' : World} {p k : Nat} {M : List Nat} {u : List Bool} {pg : Nat → List UInt8}
theorem Xgc {l:List Bool} {j:Nat} (h:l.getD j false=true):j<l.length:=by
 rcases Yv j l.length with h1 | h1
 ·exact h1
 ·rw [Zf,Xb h1] at h;cases h
theorem PoolV.lt (h:PoolV w p M u pg k):∀ x∈M,x<w.heap.size:=by obtain ⟨d,S,h,_⟩:=h;exact h.lt
theorem PoolV.later (h:PoolV w p M u pg k) {X:List Nat} (hO:Only X w w') (hX:NoSec w X) (hM:∀ x∈M,x∉X):PoolV w' p M u pg k:=by
 obtain ⟨d,S,h,r⟩:=h;exact ⟨d,S,h.later hO hX hM,r⟩
theorem PoolV.past (h:PoolV w p M u pg k) (hO:Only [] w w'):PoolV w' p M u pg k:=by obtain ⟨d,S,h,r⟩:=h;exact ⟨d,S,h.past hO,r⟩
theorem PoolV.more (h:PoolV w p M u pg k) {k2:Nat} (hk:k≤k2):PoolV w p M u pg k2:=by obtain ⟨d,S,h,r⟩:=h;exact ⟨d,S,h.more hk,r⟩
theorem PoolV.mem (h:PoolV w p M u pg k):p∈M:=by obtain ⟨d,S,h,r⟩:=h;obtain ⟨MD,ub,hm,pm,asked,L,hA,_,h2,_⟩:=h.at_;exact h2
theorem PoolV.size (h:PoolV w p M u pg k):u.length≤65536:=by
 obtain ⟨d,S,h,_,_,rfl,_⟩:=h;obtain ⟨MD,ub,hm,pm,asked,L,hA,_⟩:=h.at_;exact hA.size
theorem PoolV.len (h:PoolV w p M u pg k) {j:Nat} (hj:u.getD j false=true):(pg j).length=512:=by
 obtain ⟨d,S,h,_,_,rfl,h4⟩:=h;rw [←h4 j hj];have hl:=Xgc hj
 by_cases hh:∃ f∈S.held,f.id=j
 ·obtain ⟨f,hf,rfl⟩:=hh
  rw [PS.page_in h.fine.once hf,h.fine.len f hf]
 ·rw [PS.page_out (fun f hf e=>hh ⟨f,hf,e⟩)]
  obtain ⟨MD,ub,hm,pm,asked,L,hA,_⟩:=h.at_;have:=h.fine.room;rw [hA.disk.secLen.1 _ (by omega)]
theorem _root_.Go.Proofs.YtiijokopcgnokaaGreat.D.Step.trans {A B C:List Nat} {w1 w2 w3:World} (h:Step A B w1 w2) (g:Step B C w2 w3):Step A C w1 w3 :=
 ⟨h.1.trans g.1 h.2,fun x hx=>by
  rcases g.2 x hx with h1 | h1
  ·exact h.2 x h1
  ·exact .inr (Zp h.1.size h1)⟩
theorem _root_.Go.Proofs.YtiijokopcgnokaaGreat.D.Step.then {A B:List Nat} {w1 w2 w3:World} (h:Step A B w1 w2) (g:Only [] w2 w3):Step A B w1 w3:=⟨h.1.trans g (by simp),h.2⟩
theorem _root_.Go.Proofs.YtiijokopcgnokaaGreat.D.Step.ahead {A B:List Nat} {w1 w2 w3:World} (g:Only [] w1 w2) (h:Step A B w2 w3):Step A B w1 w3 :=
 ⟨⟨h.1.os.trans g.os,h.1.tape.trans g.tape,h.1.output.trans g.output,Zp g.size h.1.size,fun i hi hn=>(h.1.block i (Ye hi g.size) hn).trans (g.block i hi (by simp))⟩,fun x hx=>by
  rcases h.2 x hx with h1 | h1
  ·exact .inl h1
  ·exact .inr (Zp g.size h1)⟩
theorem _root_.Go.Proofs.YtiijokopcgnokaaGreat.D.Step.refl (A:List Nat) (w:World):Step A A w w:=⟨Only.refl _ _,fun x hx=>.inl hx⟩
def Told (w w':World) (M:List Nat) (v:Value) (b:List UInt8):Prop:=Xau 5 w' v b∧∀ x,v.ownBlock=some x→w.heap.size≤x∧x∉M
theorem PoolV.get (h:PoolV w p M u pg k) (hk:k≤1000000) {id:Nat} (hi:u.getD id false=true):Calls prog 67 #[.pointer (some ⟨p,0,none⟩),.int .i64 id] w fun e w'=>∃ v M',e=.returned (.tuple #[v,.int .i64 0])∧Told w w' M' v (pg id)∧PoolV w' p M' u pg (k+2)∧Step M M' w w':=by
 obtain ⟨d,S,h,h1,h2,rfl,h4⟩:=h;have hf:=h.fine
 refine (h.get_yes hk id (PS.is_nat.2 ⟨Xgc hi,hi⟩)).mono ?_
 rintro e w' ⟨v,r,S',M',rfl,hh,hg,hP,hS⟩;obtain ⟨rfl,he⟩:=hh.easy hf h1
 rcases hg with ⟨_,hr,hn⟩ | ⟨hg,_⟩
 ·rw [h4 id hi] at hr
  refine ⟨v,M',rfl,⟨hr,hn⟩,⟨d,S',hP,he,hh.same.2.2.2.trans h2,hh.same.1,fun j hj=>?_⟩,hS⟩;rw [hh.page hf,h4 j hj]
 ·exact absurd rfl hg
theorem PoolV.put (h:PoolV w p M u pg k) (hk:k≤1000000) {id:Nat} (hi:u.getD id false=true) {v:Value} {b:List UInt8} (hv:Xae w v b) (hvM:∀ a n c,v=.slice (some a) n c→a.block∉M) (hb:b.length=512) :
  Calls prog 56 #[.pointer (some ⟨p,0,none⟩),.int .i64 id,v,.int .u64 (0:Nat)] w fun e w'=>∃ M',e=.returned (.int .i64 0)∧PoolV w' p M' u (upd pg id b) (k+2)∧Step M M' w w':=by
 obtain ⟨d,S,h,h1,h2,rfl,h4⟩:=h;have hf:=h.fine
 refine (h.put_yes hk id (PS.is_nat.2 ⟨Xgc hi,hi⟩) hv hvM hb 0).mono ?_
 rintro e w' ⟨r,S',M',rfl,hh,hP,hS⟩;obtain ⟨rfl,he⟩:=hh.easy hf h1 (Yc _);refine ⟨M',rfl,⟨d,S',hP,he,hh.same.2.2.2.trans h2,hh.same.1,fun j hj=>?_⟩,hS⟩;rw [hh.page hf];unfold upd;split
 ·rfl
 ·exact h4 j hj
def Xal (u:List Bool):Nat:=u.findIdx fun b => !b
theorem Xom {u:List Bool} {j:Nat} (hj:j<u.length) (hu:u.getD j false=false) (hl:∀ i,i<j→u.getD i false=true):Xal u=j:=by
 unfold Xal;rw [List.findIdx_eq hj];rw [Zf,Zc hj] at hu;refine ⟨by simpa using hu,fun i hi=>?_⟩;have h:=hl i hi;rw [Zf,Zc (by omega)] at h
 simpa using h
theorem Xck {u:List Bool} (h:Xal u<u.length):u.getD (Xal u) false=false∧∀ i,i<Xal u→u.getD i false=true:=by
 unfold Xal at h ⊢
 constructor
 ·rw [Zf,Zc h]
  have:=Vg (w:=h)
  simpa using this
 ·intro i hi
  have:=List.not_of_lt_findIdx hi;rw [Zf,Zc (by omega)]
  simpa using this
theorem PoolV.alloc (h:PoolV w p M u pg k) (hk:k≤1000000) (hu:Xal u<u.length):Calls prog 28 #[.pointer (some ⟨p,0,none⟩)] w fun e w'=>∃ M',e=.returned (.tuple #[.int .i64 (Xal u:Nat),.int .i64 0])∧PoolV w' p M' (u.set (Xal u) true) (upd pg (Xal u) zeros) (k+2)∧Step M M' w w':=by
 obtain ⟨d,S,h,h1,h2,rfl,h4⟩:=h;have hf:=h.fine
 refine (h.alloc hk).mono ?_
 rintro e w' ⟨id,r,S',M',rfl,hh,hP,hS⟩;obtain ⟨f1,f2⟩:=Xck hu
 cases hh with
 | all hall=>rw [hall _ hu] at f1;cases f1
 | full j hj hju hl hly=>exact absurd (hly.easy hf h1 (Yc _)).1 (by decide)
 | one _ hj hju hl hly =>
  obtain rfl:=Xom hj hju hl;obtain ⟨_,he⟩:=hly.easy hf h1 (Yc _);refine ⟨M',rfl,⟨d,_,hP,he,hly.same.2.2.2.trans h2,by show List.set _ _ _=_;rw [hly.same.1],fun j hj=>?_⟩,hS⟩
  show PS.page _ j=_;have hpg:=hly.page hf j
  by_cases e:j=Xal S.used
  ·subst e
   rw [Xjh];rw [if_pos rfl] at hpg;exact hpg
  ·rw [Xiw e]
   rw [if_neg e] at hpg;refine Eq.trans hpg (h4 j ?_);rw [getD_set_ne _ _ _ _ _ (fun h=>e h.symm)] at hj;exact hj
end P
end Go.Proofs.YtiijokopcgnokaaGreat
