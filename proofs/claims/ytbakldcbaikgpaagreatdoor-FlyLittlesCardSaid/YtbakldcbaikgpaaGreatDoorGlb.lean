/- Plain numbers: rounding, fractions of 256 bits, points of a circle; what the evaluator knows of package-level variables. No program stands here but the table of variables, which a program of mine prints. -/
import Derived.WalkKit
import Derived.KernelRfl
namespace Go.Proofs.YtbakldcbaikgpaaGreatDoor
/-- How many bits a number has. -/
def lenN (v : Nat) : Nat := if v = 0 then 0 else v.log2 + 1
/-- A size with what is more of it. -/
def nS (s : Nat) (r : Bool) : Nat := if r = true then 2 * s + 1 else s
def nE (x : Int) (r : Bool) : Int := if r = true then x - 1 else x
/-- How many whole times 2^d; is half of one left; is more than that, or less, left. -/
def qN (S : Nat) (d : Int) : Nat := S * 2 ^ (-d).toNat / 2 ^ d.toNat
def halfN (S : Nat) (d : Int) : Bool := decide (0 < d) && decide (S / 2 ^ (d.toNat - 1) % 2 = 1)
def restN (S : Nat) (d : Int) : Bool := decide (0 < d) && decide (S % 2 ^ (d.toNat - 1) ≠ 0)
def inexN (S : Nat) (d : Int) : Bool := halfN S d || restN S d
/-- Is a size rounded to the greater one? -/
def upN (k : Int) (m odd half rest : Bool) : Bool :=
  if k = 2 then false else if k = 3 then !m && (half || rest) else if k = 4 then m && (half || rest) else if k = 1 then half else half && (rest || odd)
def upD (S : Nat) (d : Int) (k : Int) (m : Bool) : Bool := upN k m (decide (qN S d % 2 = 1)) (halfN S d) (restN S d)
def toN (S : Nat) (d : Int) (k : Int) (m : Bool) : Nat := qN S d + (upD S d k m).toNat
def topN (S : Nat) (x : Int) : Int := x + lenN S
def lowN (S : Nat) (x : Int) : Int := max (topN S x - 53) (-1074)
def tinyN (S : Nat) (x : Int) (k : Int) (m : Bool) : Bool :=
  if topN S x - 53 ≥ -1074 then false else if topN S x < -1022 then true else decide (lenN (toN S (topN S x - 53 - x) k m) ≤ 53)
def infN : Nat := 9218868437227405312
def overN (k : Int) (m : Bool) : Nat := if k = 2 ∨ (k = 3 ∧ m = true) ∨ (k = 4 ∧ m = false) then infN - 1 else infN
def sgnOf (m : Bool) : Nat := if m = true then 9223372036854775808 else 0
/-- The pattern below, if patterns had no end. -/
def baseN (S : Nat) (x : Int) : Nat := qN S (lowN S x - x) + (lowN S x + 1074).toNat * 4503599627370496
def rawN (m : Bool) (S : Nat) (x : Int) (k : Int) : Nat := baseN S x + (upD S (lowN S x - x) k m).toNat
def sizeP (m : Bool) (S : Nat) (x : Int) (k : Int) : Nat := if S = 0 then 0 else if rawN m S x k ≥ infN then overN k m else rawN m S x k
def rndP (m : Bool) (S : Nat) (x : Int) (k : Int) : Nat := sizeP m S x k + sgnOf m
def rndF (m : Bool) (S : Nat) (x : Int) (k : Int) : Nat :=
  if S = 0 then 0 else if rawN m S x k ≥ infN then 20 else if inexN S (lowN S x - x) = true then (if tinyN S x k m = true then 24 else 16) else 0
/-! ### Fractions of 256 bits -/
def big2 : Nat := 115792089237316195423570985008687907853269984665640564039457584007913129639936
def oneF : Nat := 452312848583266388373324160190187140051835877600158453279131187530910662656
def piF : Nat := 1420982722233462204219667745225507275989817880189032929526453715304448806508
def mulF (a b : Nat) : Nat := a * b / oneF % big2
/-- A sum whose terms change their signs. -/
def serF : Nat → Bool → Nat → Nat → Nat → Nat → Nat → Nat
  | 0, _, plus, minus, _, _, _ => (plus + big2 - minus) % big2
  | f + 1, b, plus, minus, term, square, from_ =>
    let plus' := if b then (plus + term) % big2 else plus
    let minus' := if b then minus else (minus + term) % big2
    let term' := mulF term square / (from_ * (from_ + 1))
    if term' = 0 then (plus' + big2 - minus') % big2 else serF f (!b) plus' minus' term' square (from_ + 2)
def lowF (a : Nat) : Nat := if a < 512 then 0 else a - 512
def highF (a : Nat) : Nat := (a + 512) % big2
def midF (a : Nat) : Nat := (lowF a + highF a) % big2
/-- What is rounded. -/
def rouF (a : Nat) : Nat := rndP false (nS (midF a) true) (nE (-249) true) 0
def angF (over n : Nat) : Nat := mulF (over * oneF / n % big2) (piF / 4)
def sinF (over n : Nat) : Nat :=
  if over = 0 then 0 else if 3 * over = 2 * n then 4602678819172646912
  else if oneF < angF over n then 0 else rouF (serF 80 true 0 0 (angF over n) (mulF (angF over n) (angF over n)) 2)
def cosF (over n : Nat) : Nat :=
  if over = 0 then 4607182418800017408
  else if oneF < angF over n then 0 else rouF (serF 80 true 0 0 oneF (mulF (angF over n) (angF over n)) 1)
/-! ### Points of a circle -/
/-- Which eighth, and how far it is from its even end, of n. -/
def octN (k n : Nat) : Nat := 8 * k / n
def ovrN (k n : Nat) : Nat := if octN k n % 2 = 1 then n - 8 * k % n else 8 * k % n
def sgdN (p : Nat) (m : Bool) : Nat := if m = true ∧ p ≠ 0 then p + 9223372036854775808 else p
def cosK (k n : Nat) : Nat :=
  sgdN (if octN k n % 4 = 1 ∨ octN k n % 4 = 2 then sinF (ovrN k n) n else cosF (ovrN k n) n) (decide (2 ≤ octN k n) && decide (octN k n ≤ 5))
def sinK (k n : Nat) : Nat :=
  sgdN (if octN k n % 4 = 1 ∨ octN k n % 4 = 2 then cosF (ovrN k n) n else sinF (ovrN k n) n) (decide (4 ≤ octN k n))
/-- Of any parts. -/
def cosZ (k n : Int) : Nat := cosK (k % n).toNat n.toNat
def sinZ (k n : Int) : Nat := sinK (k % n).toNat n.toNat
/-- Points that are remembered. -/
def goodEs (es : Array MapEntry) : Prop := ∀ e ∈ es.toList, ∃ k n : Int, e.key = .agg #[.int .i64 k, .int .i64 n] ∧ 0 ≤ k ∧ k < n ∧ n ≤ 67108864 ∧
  e.val = .agg #[.int .u64 ((cosZ k n : Nat) : Int), .int .u64 ((sinZ k n : Nat) : Int)]
/-! ### For the evaluator -/
universe u
def lk {α : Type u} : List (Nat × α) → Nat → Option α
  | [], _ => none
  | (j, x) :: r, i => bif Nat.beq j i then some x else lk r i
/-- Variables that are lists of whole numbers and never change. -/
def globs : List (Nat × IntKind × List Int) := []
end Go.Proofs.YtbakldcbaikgpaaGreatDoor
