/- Bounds on the lengths of the plain encodings. -/
import Derived.Test.YtcpemgfpiapaaaaPure
import Derived.Test.YtcpemgfpiapaaaaFew
namespace Go.Proofs.Ytcpemgfpiapaaaa

theorem encInts_le (l : List Int) : (encL encInt l).length ≤ 9 + l.length * 9 := by
  have := flat_le (f := encInt) (size := 9) l (fun x _ => (encInt_len x).2)
  have := encInt_len (l.length : Int)
  unfold encL
  rw [List.length_append]
  omega

theorem encDigs_le {l : List (List UInt8)} (h : Digs l) : (encL id l).length ≤ 9 + l.length * 16 := by
  have := flat_le (f := id) (size := 16) l (fun x hx => Nat.le_of_eq (h x hx))
  have := encInt_len (l.length : Int)
  unfold encL
  rw [List.length_append]
  omega

theorem encStrs_le (l : List ByteArray) : (encL encBytes l).length ≤ 9 + 9 * bulk l := by
  have h : (l.map encBytes).flatten.length ≤ 9 * bulk l := by
    induction l with
    | nil => simp
    | cons x l ih =>
      have := encBytes_len x
      unfold bulk at ih ⊢
      simp only [List.map_cons, List.flatten_cons, List.length_append, List.length_cons, List.sum_cons] at *
      omega
  have := encInt_len (l.length : Int)
  unfold encL
  rw [List.length_append]
  omega

theorem bulk_mem {l : List ByteArray} {s : ByteArray} (h : s ∈ l) : s.size ≤ bulk l := by
  have : s.size ≤ (l.map ByteArray.size).sum := by
    induction l with
    | nil => cases h
    | cons x l ih =>
      rw [List.map_cons, List.sum_cons]
      rcases List.mem_cons.1 h with rfl | h
      · omega
      · have := ih h; omega
  unfold bulk
  omega

end Go.Proofs.Ytcpemgfpiapaaaa
