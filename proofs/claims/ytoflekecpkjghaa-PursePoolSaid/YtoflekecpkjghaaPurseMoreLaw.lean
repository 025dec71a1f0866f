/- The plain law PurseMore. -/
import Derived.Test.YtoflekecpkjghaaPpPlain18
import Derived.Test.YtoflekecpkjghaaPpWorks
import Derived.Test.YtoflekecpkjghaaPuSh
namespace Go.Am

def aCa (p : aN) (s : List aG) : aN := ⟨p.Tree, s, p.Prizes, p.Daily, p.Teams, p.Levies, p.Rates, p.Items⟩
theorem aQl {p : aN} (h : NearP p) {s : List aG} (hs : s.length ≤ 20) : Sz (aCa p s) := by
  obtain ⟨n1, n2, n3, n4, n5, n6, n7⟩ := h
  exact ⟨by show p.Tree.Slots.length ≤ 1000; omega, by show s.length ≤ 1000; omega, by show p.Prizes.length ≤ 1000; omega, by show p.Teams.length ≤ 1000; omega, by show p.Levies.length ≤ 1000; omega, by show p.Rates.length ≤ 1000; omega, by show p.Items.length ≤ 1000; omega⟩
section
variable {p : aN} (hn : NearP p) {d : List Int} (hg : GP p d) {person : Int} (hp : nT p person = true)
include hn hg hp
end
end Go.Am
