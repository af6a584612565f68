/-
  RFC 9001's key, reckoned by the kernel.
-/
import Derived.Test.YtmifegjmmlipbaaDoorEb
namespace Go.Proofs.YtmifegjmmlipbaaDoor
open Go.RowKit Go.Rh Sha

def mac8 (k m : List UInt8) : List UInt8 := sum8 (xorAll 0x5c (k ++ List.replicate (64 - k.length) 0) ++ sum8 (xorAll 0x36 (k ++ List.replicate (64 - k.length) 0) ++ m))
theorem mac8_eq {k m : List UInt8} (h : k.length ≤ 64) : mac8 k m = mac k m := by
  unfold mac8
  rw [sum8_eq, sum8_eq, keyBlock_short h]
  rfl
def gl8 (l lab : List UInt8) (n : Nat) : List UInt8 := (mac8 l (infoOf lab [] n ++ [1])).take n
theorem gl8_eq {l lab : List UInt8} {n : Nat} (hl : l.length ≤ 64) (h : lab.length ≤ 249) (h0 : 0 < n) (h1 : n ≤ 32) : gl8 l lab n = gl l lab n := by
  have hb : blocksOf n = 1 := by unfold blocksOf; omega
  unfold gl8 gl labR
  rw [if_pos ⟨⟨by omega, by omega⟩, h, by simp⟩, mac8_eq hl]
  unfold expand
  rw [Int.toNat_natCast, hb]
  rfl
theorem gl_length {l lab : List UInt8} {n : Nat} (h : lab.length ≤ 249) (h1 : n ≤ 8160) : (gl l lab n).length = n := by
  unfold gl labR
  rw [if_pos ⟨⟨by omega, by omega⟩, h, by simp⟩, expand_length, Int.toNat_natCast]
def dcid : List UInt8 := [131, 148, 200, 240, 62, 81, 87, 8]
theorem rfc8 : at_ (gl8 (gl8 (mac8 salt dcid) nCl 32) nKey 16) 0 = 31 ∧ at_ (gl8 (gl8 (mac8 salt dcid) nCl 32) nKey 16) 15 = 45 := by decide +kernel
theorem firstC_dcid : firstC dcid = gl (mac salt dcid) nCl 32 := if_pos (by decide)
theorem rfc_key : (firstC dcid).length = 32 ∧ at_ (gl (firstC dcid) nKey 16) 0 = 31 ∧ at_ (gl (firstC dcid) nKey 16) 15 = 45 := by
  have h1 : (firstC dcid).length = 32 := by rw [firstC_dcid]; exact gl_length (by decide) (by decide)
  refine ⟨h1, ?_⟩
  have e : gl (firstC dcid) nKey 16 = gl8 (gl8 (mac8 salt dcid) nCl 32) nKey 16 := by
    rw [gl8_eq (l := mac8 salt dcid) (by rw [mac8_eq (by decide), mac_length]; decide) (by decide) (by decide) (by decide), mac8_eq (by decide), ← firstC_dcid, gl8_eq (by rw [h1]; decide) (by decide) (by decide) (by decide)]
  rw [e]
  exact rfc8
end Go.Proofs.YtmifegjmmlipbaaDoor
