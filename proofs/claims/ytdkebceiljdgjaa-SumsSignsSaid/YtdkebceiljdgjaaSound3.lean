/- The evaluator's answers are carried on as they are: its form by continuations. Own work, program-independent. -/
import Derived.Test.YtdkebceiljdgjaaSound2
namespace Go.Proofs.Ytdkebceiljdgjaa

def EntLaw (en : Ent) : Prop := ∀ (R : Type) (n : Nat) (l : List AV) (k : AV → Option R), en.go R n l k = (en.go AV n l some).bind k
def OrcLaw (E : Env) : Prop := ∀ f en, lk E.orc f = some en → EntLaw en

section
variable {R : Type}

theorem chk_bind {S : Type} (b : Bool) (x : Option S) (k : S → Option R) : (chk b x).bind k = chk b (x.bind k) := by cases b <;> rfl
theorem cond_bind {S : Type} (b : Bool) (x y : Option S) (k : S → Option R) : (bif b then x else y).bind k = bif b then x.bind k else y.bind k := by cases b <;> rfl

theorem binInt_bind (op : BinOp) (k : IntKind) (x y : Int) (kk : AV → Option R) : binInt op k x y kk = (binInt op k x y some).bind kk := by
  cases op <;> simp only [binInt, chk_bind, Option.bind_some, bitsA, Option.bind_none]
theorem shiftA_bind (op : BinOp) (k : IntKind) (x y : Int) (kk : AV → Option R) : shiftA op k x y kk = (shiftA op k x y some).bind kk := by
  cases op <;> simp only [shiftA, chk_bind, Option.bind_some, Option.bind_none]
theorem binA_bind (tab : List (TypeId × TE)) (op : BinOp) (t : TypeId) (ox oy : Operand) (x y : AV) (kk : AV → Option R) : binA tab op t ox oy x y kk = (binA tab op t ox oy x y some).bind kk := by
  unfold binA
  split
  · rw [cond_bind, cond_bind, ← shiftA_bind, ← binInt_bind]; rfl
  · split
    · split <;> rfl
    · split <;> rfl
    · rfl
theorem bltA_bind (E : Env) (s : AS) (dst : Option Tmp) (b : Builtin) (ts : List TypeId) (xs : List Operand) (kk : Eff → Option R) : bltA E s dst b ts xs kk = (bltA E s dst b ts xs some).bind kk := by
  unfold bltA
  (repeat' split) <;> first | rfl | simp only [chk_bind, cond_bind, Option.bind_some, Option.bind_none]
theorem opA_bind {E : Env} (hE : OrcLaw E) (s : AS) (dst : Option Tmp) (o : Op) (kk : Eff → Option R) : opA E s dst o kk = (opA E s dst o some).bind kk := by
  unfold opA
  split
  case h_11 =>
    rw [binA_bind, binA_bind (kk := fun v => some (val v)), Option.bind_assoc]
    rfl
  case h_22 =>
    split
    · exact bltA_bind ..
    · split
      · split
        · rename_i hl _
          rw [cond_bind, hE _ _ hl, hE _ _ hl Eff, Option.bind_assoc]
          congr 1
          congr 1
          funext r
          split <;> rfl
        · rfl
      · rfl
    · rfl
  all_goals ((repeat' split) <;> simp only [chk_bind, cond_bind, Option.bind_some, Option.bind_none])
end
end Go.Proofs.Ytdkebceiljdgjaa
