/- What the functions of the store compute, as plain functions on lists and integers. No program in sight. -/
import Derived.IntWalk
namespace Go.Proofs.Ytjooangmmboogaa
namespace M

structure Item where
  key : Int
  pos : List Int
  tags : Int
structure Entry where
  kind : Int
  item : Item
structure Hist where
  log : List Entry
  times : List Int
structure Hit where
  key : Int
  dist : Int

def inR (n lo hi : Int) : Bool := decide (lo ≤ n ∧ n ≤ hi)
theorem inR_true {n lo hi : Int} (h : inR n lo hi = true) : lo ≤ n ∧ n ≤ hi := by simpa [inR] using h
theorem inR_false {n lo hi : Int} (h : inR n lo hi = false) : n < lo ∨ hi < n := by
  have : ¬ (lo ≤ n ∧ n ≤ hi) := by simpa [inR] using h
  omega
theorem inR_of {n lo hi : Int} (h1 : lo ≤ n) (h2 : n ≤ hi) : inR n lo hi = true := by simp [inR, h1, h2]
theorem inR_not {n lo hi : Int} (h : n < lo ∨ hi < n) : inR n lo hi = false := by
  have : ¬ (lo ≤ n ∧ n ≤ hi) := by omega
  simp [inR, this]

/-- the shard of a key -/
def sh (key s : Int) : Int := 389 * key % 1009 * s / 1009
def shardOf (key s : Int) : Int := if inR key 1 99 = true ∧ inR s 1 8 = true then sh key s else -1

/-- the checksum -/
def chk (l : List Int) : Int := l.foldl (fun n b => (31 * n + b) % 251) 1
def checkOf (l : List Int) : Int := if l.length ≤ 200 then chk l else -1

end M
end Go.Proofs.Ytjooangmmboogaa
