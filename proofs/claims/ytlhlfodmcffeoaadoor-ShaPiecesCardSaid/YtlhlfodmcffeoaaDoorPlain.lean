/-
  SHA-256 in plain Lean, over words of 32 bits; no program in sight.
-/
namespace Go.Proofs.YtlhlfodmcffeoaaDoor
def shlU (x : UInt32) (n : Nat) : UInt32 := UInt32.ofNat (x.toNat * 2 ^ n)
def shrU (x : UInt32) (n : Nat) : UInt32 := UInt32.ofNat (x.toNat / 2 ^ n)
def rotr (n : Nat) (x : UInt32) : UInt32 := shrU x n ||| shlU x (32 - n)
structure St8 where
  a : UInt32
  b : UInt32
  c : UInt32
  d : UInt32
  e : UInt32
  f : UInt32
  g : UInt32
  h : UInt32
def St8.round (s : St8) (k w : UInt32) : St8 :=
  let t1 := s.h + (rotr 6 s.e ^^^ rotr 11 s.e ^^^ rotr 25 s.e) + ((s.e &&& s.f) ^^^ (~~~s.e &&& s.g)) + k + w
  let t2 := (rotr 2 s.a ^^^ rotr 13 s.a ^^^ rotr 22 s.a) + ((s.a &&& s.b) ^^^ (s.a &&& s.c) ^^^ (s.b &&& s.c))
  ⟨t1 + t2, s.a, s.b, s.c, s.d + t1, s.e, s.f, s.g⟩
def cubes : List UInt32 := [1116352408, 1899447441, 3049323471, 3921009573, 961987163, 1508970993, 2453635748, 2870763221, 3624381080, 310598401, 607225278, 1426881987, 1925078388, 2162078206, 2614888103, 3248222580, 3835390401, 4022224774, 264347078, 604807628, 770255983, 1249150122, 1555081692, 1996064986, 2554220882, 2821834349, 2952996808, 3210313671, 3336571891, 3584528711, 113926993, 338241895, 666307205, 773529912, 1294757372, 1396182291, 1695183700, 1986661051, 2177026350, 2456956037, 2730485921, 2820302411, 3259730800, 3345764771, 3516065817, 3600352804, 4094571909, 275423344, 430227734, 506948616, 659060556, 883997877, 958139571, 1322822218, 1537002063, 1747873779, 1955562222, 2024104815, 2227730452, 2361852424, 2428436474, 2756734187, 3204031479, 3329325298]
def St8.rounds (s : St8) (ws : List UInt32) : Nat → St8
  | 0 => s
  | t + 1 => (s.rounds ws t).round (cubes.getD t 0) (ws.getD t 0)
def St8.sum (s v : St8) : St8 := ⟨s.a + v.a, s.b + v.b, s.c + v.c, s.d + v.d, s.e + v.e, s.f + v.f, s.g + v.g, s.h + v.h⟩
def byteAt (b : List UInt8) (i : Nat) : Nat := (b.getD i 0).toNat
/-- word t of a chunk's bytes, the highest byte first -/
def wordOf (b : List UInt8) (t : Nat) : UInt32 := UInt32.ofNat (byteAt b (4 * t) * 16777216 + byteAt b (4 * t + 1) * 65536 + byteAt b (4 * t + 2) * 256 + byteAt b (4 * t + 3))
def sig0 (x : UInt32) : UInt32 := rotr 7 x ^^^ rotr 18 x ^^^ shrU x 3
def sig1 (y : UInt32) : UInt32 := rotr 17 y ^^^ rotr 19 y ^^^ shrU y 10
def nextWord (b : List UInt8) (ws : List UInt32) (t : Nat) : UInt32 :=
  if t < 16 then wordOf b t else sig1 (ws.getD (t - 2) 0) + ws.getD (t - 7) 0 + sig0 (ws.getD (t - 15) 0) + ws.getD (t - 16) 0
/-- the first t words of a chunk's schedule -/
def schedTo (b : List UInt8) : Nat → List UInt32
  | 0 => []
  | t + 1 => schedTo b t ++ [nextWord b (schedTo b t) t]
def sched (b : List UInt8) : List UInt32 := schedTo b 64
theorem schedTo_length (b : List UInt8) (t : Nat) : (schedTo b t).length = t := by
  induction t with
  | zero => rfl
  | succ t ih => simp [schedTo, ih]
theorem sched_length (b : List UInt8) : (sched b).length = 64 := schedTo_length b 64
def mix (s : St8) (b : List UInt8) : St8 := s.sum (s.rounds (sched b) 64)
def firstWords : St8 := ⟨0x6a09e667, 0xbb67ae85, 0x3c6ef372, 0xa54ff53a, 0x510e527f, 0x9b05688c, 0x1f83d9ab, 0x5be0cd19⟩
/-- the words behind so many chunks -/
def mixes (s : St8) (b : List UInt8) : Nat → St8
  | 0 => s
  | n + 1 => mix (mixes s b n) ((b.drop (64 * n)).take 64)
/-- eight bytes of a number, the highest first -/
def be64 (n : Nat) : List UInt8 := (List.range 8).map fun i => UInt8.ofNat (n / 2 ^ (56 - 8 * i))
/-- how many noughts come behind so many bytes and the byte 128 -/
def noughts (n : Nat) : Nat := (119 - n % 64) % 64
def pad (b : List UInt8) : List UInt8 := b ++ [128] ++ List.replicate (noughts b.length) 0 ++ be64 (b.length * 8 % 18446744073709551616)
def wordBytes (x : UInt32) : List UInt8 := [UInt8.ofNat (x.toNat / 16777216), UInt8.ofNat (x.toNat / 65536), UInt8.ofNat (x.toNat / 256), UInt8.ofNat x.toNat]
def St8.bytes (s : St8) : List UInt8 := wordBytes s.a ++ wordBytes s.b ++ wordBytes s.c ++ wordBytes s.d ++ wordBytes s.e ++ wordBytes s.f ++ wordBytes s.g ++ wordBytes s.h
def sha (b : List UInt8) : List UInt8 := (mixes firstWords (pad b) ((pad b).length / 64)).bytes
def hexDigit (n : Nat) : UInt8 := UInt8.ofNat (if n < 10 then 48 + n else 87 + n)
def hexOf (l : List UInt8) : List UInt8 := l.flatMap fun c => [hexDigit (c.toNat / 16), hexDigit (c.toNat % 16)]
theorem sha_abc : hexOf (sha [97, 98, 99]) = "ba7816bf8f01cfea414140de5dae2223b00361a396177a9cb410ff61f20015ad".toUTF8.data.toList := by decide +kernel
end Go.Proofs.YtlhlfodmcffeoaaDoor
