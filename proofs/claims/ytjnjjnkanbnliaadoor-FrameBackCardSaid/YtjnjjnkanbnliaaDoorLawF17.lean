/- WALKS of the laws of the frame layer: FrameBack, its parts joined. -/
import Derived.Test.YtjnjjnkanbnliaaDoorLawD17
import Derived.Test.YtjnjjnkanbnliaaDoorLawE17
namespace Go.Proofs.YtjnjjnkanbnliaaDoor
open Go.RowKit

theorem back17_law (v n s : Int) (x : Option Addr) (l : List UInt8) (cx : Nat) (v' n' s' : Int) (y : Option Addr) (m : List UInt8) (cy : Nat) (z : Option Addr) (t : List UInt8) (cz : Nat) (w : World) (hd : DbAt w) (hx : Bts w x l) (hn : x = none → cx = 0) (hy : Bts w y m) (hm : y = none → cy = 0) (hz : Bts w z t) (hcz : t.length ≤ cz ∧ cz ≤ 9223372036854775807)
    (h63 : l.length ≤ 9223372036854775807 ∧ m.length ≤ 9223372036854775807) : Calls Tryd.prog 7 #[.agg #[.int .i64 v, .int .i64 n, .int .i64 s, .slice x l.length cx], .agg #[.int .i64 v', .int .i64 n', .int .i64 s', .slice y m.length cy], .slice z t.length cz] w (YesOf w) := by
  by_cases h : 300 < l.length ∨ 300 < m.length ∨ 300 < t.length
  · exact back_long v n s x l cx v' n' s' y m cy z t cz w hd hx hn hy hm hz hcz h h63
  · have l3 : l.length ≤ 300 := by omega
    have m3 : m.length ≤ 300 := by omega
    have t3 : t.length ≤ 300 := by omega
    cases ho1 : bytesV v n s l with
    | none =>
      cases ho2 : bytesV v' n' s' m with
      | none =>
        cases hob : readV t with
        | none => exact back_000 v n s x l cx v' n' s' y m cy z t cz w hd hx hn hy hm hz hcz l3 m3 t3 ho1 ho2 hob
        | some o => obtain ⟨a, b, d, r⟩ := o; exact back_001 v n s x l cx v' n' s' y m cy z t cz w hd hx hn hy hm hz hcz l3 m3 t3 a b d r ho1 ho2 hob
      | some q =>
        cases hob : readV t with
        | none => exact back_010 v n s x l cx v' n' s' y m cy z t cz w hd hx hn hy hm hz hcz l3 m3 t3 q ho1 ho2 hob
        | some o => obtain ⟨a, b, d, r⟩ := o; exact back_011 v n s x l cx v' n' s' y m cy z t cz w hd hx hn hy hm hz hcz l3 m3 t3 q a b d r ho1 ho2 hob
    | some p =>
      cases ho2 : bytesV v' n' s' m with
      | none =>
        cases hob : readV t with
        | none => exact back_100 v n s x l cx v' n' s' y m cy z t cz w hd hx hn hy hm hz hcz l3 m3 t3 p ho1 ho2 hob
        | some o => obtain ⟨a, b, d, r⟩ := o; exact back_101 v n s x l cx v' n' s' y m cy z t cz w hd hx hn hy hm hz hcz l3 m3 t3 p a b d r ho1 ho2 hob
      | some q =>
        cases hob : readV t with
        | none => exact back_110 v n s x l cx v' n' s' y m cy z t cz w hd hx hn hy hm hz hcz l3 m3 t3 p q ho1 ho2 hob
        | some o => obtain ⟨a, b, d, r⟩ := o; exact back_111 v n s x l cx v' n' s' y m cy z t cz w hd hx hn hy hm hz hcz l3 m3 t3 p q a b d r ho1 ho2 hob

end Go.Proofs.YtjnjjnkanbnliaaDoor
