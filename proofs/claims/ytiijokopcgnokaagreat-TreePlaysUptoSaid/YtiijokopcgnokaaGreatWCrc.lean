import Derived.Test.YtiijokopcgnokaaGreatProg
import Derived.Laws.Bits64b
import Derived.Laws.BitsLemmas
set_option linter.unusedSimpArgs false
set_option linter.unusedVariables false
namespace Go.Proofs.YtiijokopcgnokaaGreat.C
open Go
def poly : Nat:=3988292384
def step1 (r:Nat):Nat:=if r % 2=1 then r / 2 ^^^ poly else r / 2
def steps : Nat→Nat→Nat
 | 0,r=>r
 | k+1,r=>step1 (steps k r)
theorem Xpr (r:Nat) (a:Nat):∀ b,steps (a+b) r=steps b (steps a r)
 | 0=>rfl
 | b+1=>by show step1 (steps (a+b) r)=step1 _;rw [Xpr r a b]
theorem step1_lt {r:Nat} (h:r<4294967296):step1 r<4294967296:=by
 unfold step1;split
 ·have:r / 2 ^^^ poly<2 ^ 32:=Nat.xor_lt_two_pow (by omega) (by decide)
  simpa using this
 ·omega
theorem Xgn {r:Nat} (h:r<4294967296):∀ k,steps k r<4294967296
 | 0=>h
 | k+1=>step1_lt (Xgn h k)
theorem xor_half (a b:Nat):(a ^^^ b) / 2=a / 2 ^^^ b / 2:=by
 apply Nat.eq_of_testBit_eq
 intro i
 have h:∀ x:Nat,(x / 2).testBit i=x.testBit (i+1):=fun x=>by
  have:=Nat.testBit_div_two_pow (n:=1) x i
  rw [Nat.pow_one] at this;exact this
 rw [Nat.testBit_xor,h,h,h,Nat.testBit_xor]
theorem xor_odd (a b:Nat):(a ^^^ b) % 2=(a % 2+b % 2) % 2:=by
 have h:(a ^^^ b).testBit 0=(a.testBit 0 ^^ b.testBit 0):=Nat.testBit_xor ..;simp only [Nat.testBit_zero] at h;have h1:=Nat.mod_two_eq_zero_or_one a;have h2:=Nat.mod_two_eq_zero_or_one b;have h3:=Nat.mod_two_eq_zero_or_one (a ^^^ b)
 rcases h1 with h1 | h1 <;> rcases h2 with h2 | h2 <;> rcases h3 with h3 | h3 <;> simp [h1,h2,h3] at h ⊢
theorem step1_xor (a b:Nat):step1 (a ^^^ b)=step1 a ^^^ step1 b:=by
 unfold step1;rw [xor_odd,xor_half];have h1:=Nat.mod_two_eq_zero_or_one a;have h2:=Nat.mod_two_eq_zero_or_one b;generalize a / 2=x;generalize b / 2=y;generalize poly=p
 rcases h1 with h1 | h1 <;> rcases h2 with h2 | h2 <;> rw [h1,h2] <;> simp
 ·rw [Nat.xor_assoc]
 ·rw [Nat.xor_assoc,Nat.xor_assoc,Nat.xor_comm p]
 ·rw [Nat.xor_assoc x p,Nat.xor_comm p,Nat.xor_assoc y p,Nat.xor_self,Nat.xor_zero]
theorem Xps (a b:Nat):∀ k,steps k (a ^^^ b)=steps k a ^^^ steps k b
 | 0=>rfl
 | k+1=>by show step1 _=step1 _ ^^^ step1 _;rw [Xps a b k,step1_xor]
theorem Xgm (m:Nat):step1 (2*m)=m:=by
 unfold step1
 rw [if_neg (by omega)];omega
theorem steps_four (q:Nat):steps 4 (16*q)=q:=by
 show step1 (step1 (step1 (step1 (16*q))))=q;rw [show 16*q=2*(2*(2*(2*q))) by omega,Xgm,Xgm,Xgm,Xgm]
theorem split16 (r:Nat):r=(16*(r / 16)) ^^^ (r % 16):=by
 apply Nat.eq_of_testBit_eq
 intro i;rw [Nat.testBit_xor,show 16*(r / 16)=2 ^ 4*(r / 2 ^ 4) from rfl,show r % 16=r % 2 ^ 4 from rfl,Nat.testBit_two_pow_mul,Nat.testBit_mod_two_pow,Nat.testBit_div_two_pow]
 by_cases h:4≤i
 ·rw [decide_eq_true h,decide_eq_false (by omega),show i-4+4=i by omega];simp
 ·rw [decide_eq_false h,decide_eq_true (by omega)];simp
theorem nibble (r:Nat):(r / 16) ^^^ steps 4 (r % 16)=steps 4 r:=by
 conv=>rhs;rw [split16 r,Xps,steps_four]
def byte (r:Nat) (c:UInt8):Nat:=steps 8 (r ^^^ c.toNat)
theorem byte_two (r:Nat) (c:UInt8):steps 4 (steps 4 (r ^^^ c.toNat))=byte r c:=(Xpr _ 4 4).symm
theorem Xle {r:Nat} (h:r<4294967296) (c:UInt8):r ^^^ c.toNat<4294967296:=by
 have:=c.toNat_lt;have:r ^^^ c.toNat<2 ^ 32:=Nat.xor_lt_two_pow (by omega) (by omega)
 simpa using this
theorem byte_lt {r:Nat} (h:r<4294967296) (c:UInt8):byte r c<4294967296:=Xgn (Xle h c) 8
def run (r:Nat) (l:List UInt8):Nat:=l.foldl byte r
theorem run_lt {r:Nat} (h:r<4294967296):∀ l,run r l<4294967296:=fun l=>by
 induction l generalizing r with
 | nil=>exact h
 | cons c l ih=>exact ih (byte_lt h c)
theorem run_snoc (r:Nat) (l:List UInt8) (c:UInt8):run r (l++[c])=byte (run r l) c:=by simp [run,List.foldl_append]
def sum (l:List UInt8):Nat:=4294967295-run 4294967295 l
theorem sum_lt (l:List UInt8):sum l<4294967296:=by unfold sum;omega
theorem Xem (a b:Nat) (ha:a<4294967296) (hb:b<4294967296):bits .xor .u32 (a:Int) (b:Int)=((a ^^^ b:Nat):Int):=by
 have hx:a ^^^ b<2 ^ 32:=Nat.xor_lt_two_pow (by omega) (by omega)
 have h1:(BitVec.ofInt 32 (a:Int)).toNat=a:=by
  rw [BitVec.ofInt_natCast,BitVec.toNat_ofNat];exact Nat.mod_eq_of_lt (by omega)
 have h2:(BitVec.ofInt 32 (b:Int)).toNat=b:=by
  rw [BitVec.ofInt_natCast,BitVec.toNat_ofNat];exact Nat.mod_eq_of_lt (by omega)
 show IntKind.u32.wrap ((BitVec.ofInt 32 (a:Int) ^^^ BitVec.ofInt 32 (b:Int)).toNat:Int)=_;rw [BitVec.toNat_xor,h1,h2,IntKind.wrap_u32];omega
theorem Xmn (a:Nat) (ha:a<4294967296):bits .and .u32 (a:Int) 1=((a % 2:Nat):Int):=by
 have h:=bits_mask .u32 32 (Nat.le_refl _) (fun n h0 h1=>by rw [IntKind.wrap_u32];omega) 1 (by decide) (a:Int) (by omega) (by omega)
 simpa using h
theorem Xgq (a:Nat) (ha:a<4294967296):bits .and .u32 (a:Int) 15=((a % 16:Nat):Int):=by
 have h:=bits_mask .u32 32 (Nat.le_refl _) (fun n h0 h1=>by rw [IntKind.wrap_u32];omega) 4 (by decide) (a:Int) (by omega) (by omega)
 simpa using h
end Go.Proofs.YtiijokopcgnokaaGreat.C
