/- Chapter 14: strings. -/
import Derived.Test.YtkjidklifmcpnaaK3
namespace Go.Proofs.Ytkjidklifmcpnaa.AD
open Go.Proofs
set_option linter.unusedVariables false
set_option linter.unusedSimpArgs false
set_option maxRecDepth 100000

/-- What is read: a token (its kind, its text, how long it is), or what is wrong, and where. -/
inductive NR where
  | tok (k : Int) (t : ByteArray) (len : Nat)
  | err (o : Nat) (e : Int)
/-- What stands behind a backslash. -/
inductive PR where
  | ok (bs : List UInt8) (n : Nat)
  | cut
  | bad

def oct (c : UInt8) : Bool := decide (48 ≤ c.toNat) && decide (c.toNat ≤ 55)
def spc (c : UInt8) : Bool := decide (c = 32) || (decide (c = 9) || decide (c = 13))
def octV (c : UInt8) : Nat := c.toNat - 48
/-- So many octal digits more, behind those that make v. -/
def digF : Nat → Nat → List UInt8 → PR
  | 0, v, _ => if 255 < v then .bad else .ok [UInt8.ofNat v] 3
  | m + 1, v, [] => .cut
  | m + 1, v, c :: r => if oct c = false then .bad else digF m (v * 8 + octV c) r
def pieceP : List UInt8 → PR
  | [] => .cut
  | c :: r => if c = 34 ∨ c = 92 then .ok [c] 1 else if c = 110 then .ok [10] 1 else if c = 116 then .ok [9] 1 else if c = 114 then .ok [13] 1 else if c = 10 then .ok [] (1 + whileL spc r) else digF 3 0 (c :: r)

/-- The rest of a string, from a place on. -/
def strP (f : Nat) (l : List UInt8) (i : Nat) (b : List UInt8) : NR :=
  match f with
  | 0 => .err 0 141
  | f + 1 => match l with
    | [] => .err 0 141
    | c :: r => if c = 10 then .err 0 141 else if c = 34 then .tok 4 (ofL b) (i + 1) else if c = 92 then (match pieceP r with
        | .ok bs n => strP f (r.drop n) (i + 1 + n) (b ++ bs)
        | .cut => .err 0 141
        | .bad => .err i 142) else strP f r (i + 1) (b ++ [c])

/-- More fuel than bytes changes nothing. -/
theorem strP_fuel : ∀ (f g : Nat) (l : List UInt8) (i : Nat) (b : List UInt8), l.length < f → l.length < g → strP f l i b = strP g l i b
  | 0, g, l, i, b, h, _ => absurd h (by omega)
  | f + 1, 0, l, i, b, _, h => absurd h (by omega)
  | f + 1, g + 1, [], i, b, _, _ => rfl
  | f + 1, g + 1, c :: r, i, b, h1, h2 => by
    simp only [List.length_cons] at h1 h2
    simp only [strP]
    split
    · rfl
    · split
      · rfl
      · split
        · split
          · rename_i bs n hp
            have hl : (r.drop n).length ≤ r.length := by rw [List.length_drop]; omega
            exact strP_fuel f g _ _ _ (by omega) (by omega)
          · rfl
          · rfl
        · exact strP_fuel f g r _ _ (by omega) (by omega)

def zeroTok : PV := .agg [.int .u8 0, .str ⟨#[]⟩, .int .i64 0, .int .i64 0]
def resN (p : Nat) : NR → PV
  | .tok k t len => .tup [tokP k t p (p + len : Nat), .int .i64 0, .int .i64 0]
  | .err o e => .tup [zeroTok, .int .i64 (p + o : Nat), .int .i64 e]

def bsP (b : List UInt8) : List PV := b.map fun c => .int .u8 c.toNat
theorem bsP_bytes : ∀ b : List UInt8, intBytes (bsP b) = some b
  | [] => rfl
  | c :: r => by simp [bsP, intBytes]; exact bsP_bytes r
theorem ofBytes_ofL (b : List UInt8) : (⟨b.toArray⟩ : ByteArray) = ofL b := rfl

end Go.Proofs.Ytkjidklifmcpnaa.AD
