/-
  The sums of texts, word by word; words turned about, as the program does it, as the document does it. No program stands in it.
-/
import Derived.Test.YteohgdpkdbckoaaU1
namespace Vx
/-- Turned down by n of b places. -/
def rotN (b n x : Nat) : Nat := x / 2 ^ n + x % 2 ^ n * 2 ^ (b - n)
theorem rot_hi {b n x : Nat} (hn : n ≤ b) : x * 2 ^ (b - n) % 2 ^ b = x % 2 ^ n * 2 ^ (b - n) := by
  have : 2 ^ b = 2 ^ n * 2 ^ (b - n) := by rw [← Nat.pow_add]; congr 1; omega
  rw [this, Nat.mul_mod_mul_right]
theorem rot_lo {b n x : Nat} (hn : n ≤ b) (hx : x < 2 ^ b) : x / 2 ^ n < 2 ^ (b - n) := by
  rw [Nat.div_lt_iff_lt_mul (Nat.two_pow_pos n), ← Nat.pow_add]
  rw [show b - n + n = b by omega]
  exact hx
theorem or_add {m a c : Nat} (ha : a < 2 ^ m) : c * 2 ^ m ||| a = c * 2 ^ m + a := by
  rw [Nat.mul_comm, ← Nat.two_pow_add_eq_or_of_lt ha]
theorem rot_lt {b n x : Nat} (hn : n ≤ b) (hx : x < 2 ^ b) : rotN b n x < 2 ^ b := by
  have h1 := rot_lo hn hx
  have h2 : x % 2 ^ n < 2 ^ n := Nat.mod_lt _ (Nat.two_pow_pos n)
  have h3 : 2 ^ b = 2 ^ n * 2 ^ (b - n) := by rw [← Nat.pow_add]; congr 1; omega
  unfold rotN
  rw [h3]
  calc x / 2 ^ n + x % 2 ^ n * 2 ^ (b - n) < 2 ^ (b - n) + x % 2 ^ n * 2 ^ (b - n) := by omega
    _ = (x % 2 ^ n + 1) * 2 ^ (b - n) := by rw [Nat.add_mul]; omega
    _ ≤ 2 ^ n * 2 ^ (b - n) := Nat.mul_le_mul_right _ h2
/-- As the program turns it. -/
theorem rot_or {b n x : Nat} (hn : n ≤ b) (hx : x < 2 ^ b) : (x * 2 ^ (b - n) % 2 ^ b) ||| (x / 2 ^ n) = rotN b n x := by
  rw [rot_hi hn, or_add (rot_lo hn hx), rotN, Nat.add_comm]
/-- As the document turns it. -/
theorem rot_cut {b n x : Nat} (hn : n ≤ b) (hx : x < 2 ^ b) : (x / 2 ^ n + x * 2 ^ (b - n)) % 2 ^ b = rotN b n x := by
  rw [← Nat.add_mod_mod, rot_hi hn, ← rotN]
  exact Nat.mod_eq_of_lt (rot_lt hn hx)

/-- A kind of sha: bits of a word, rounds, by what it is turned, words, beginning. -/
structure ShK where
  b : Nat
  rounds : Nat
  (a1 a2 a3 e1 e2 e3 l1 l2 l3 m1 m2 m3 : Nat)
  k : List Nat
  h : List Nat
structure W8 where
  (a b c d e f g h : Nat)
def chN (b e f g : Nat) : Nat := (e &&& f) ^^^ ((2 ^ b - 1 - e) &&& g)
def majN (a b c : Nat) : Nat := ((a &&& b) ^^^ (a &&& c)) ^^^ (b &&& c)
def bigN (b i j k x : Nat) : Nat := (rotN b i x ^^^ rotN b j x) ^^^ rotN b k x
def smlN (b i j k x : Nat) : Nat := (rotN b i x ^^^ rotN b j x) ^^^ x / 2 ^ k
/-- Sixteen words of the row, from some word on. -/
def winN (q : ShK) (w : Nat → Nat) : Nat → List Nat
  | 0 => (List.range 16).map w
  | t + 1 => let l := winN q w t
    l.tail ++ [(smlN q.b q.m1 q.m2 q.m3 (l.getD 14 0) + l.getD 9 0 + smlN q.b q.l1 q.l2 q.l3 (l.getD 1 0) + l.getD 0 0) % 2 ^ q.b]
def wordN (q : ShK) (w : Nat → Nat) (t : Nat) : Nat := (winN q w t).getD 0 0
def rndN (q : ShK) (k w : Nat) (v : W8) : W8 :=
  let t1 := v.h + bigN q.b q.e1 q.e2 q.e3 v.e + chN q.b v.e v.f v.g + k + w
  ⟨(t1 + (bigN q.b q.a1 q.a2 q.a3 v.a + majN v.a v.b v.c)) % 2 ^ q.b, v.a, v.b, v.c, (v.d + t1) % 2 ^ q.b, v.e, v.f, v.g⟩
def rndsN (q : ShK) (w : Nat → Nat) (v : W8) : Nat → W8
  | 0 => v
  | t + 1 => rndN q (q.k.getD t 0) (wordN q w t) (rndsN q w v t)
def blkN (q : ShK) (w : Nat → Nat) (s : W8) : W8 :=
  let v := rndsN q w s q.rounds
  ⟨(s.a + v.a) % 2 ^ q.b, (s.b + v.b) % 2 ^ q.b, (s.c + v.c) % 2 ^ q.b, (s.d + v.d) % 2 ^ q.b, (s.e + v.e) % 2 ^ q.b, (s.f + v.f) % 2 ^ q.b, (s.g + v.g) % 2 ^ q.b, (s.h + v.h) % 2 ^ q.b⟩
/-- A number of so many bytes, the highest first. -/
def beN (f : Nat → Nat) : Nat → Nat
  | 0 => 0
  | n + 1 => beN f n * 256 + f n
/-- The text, filled up. -/
def padN (q : ShK) (l : List Nat) : List Nat :=
  l ++ [128] ++ List.replicate ((2 * q.b - 1 - (l.length + q.b / 4) % (2 * q.b)) % (2 * q.b)) 0 ++ (List.range (q.b / 4)).map fun i => 8 * l.length / 256 ^ (q.b / 4 - 1 - i) % 256
def blksN (q : ShK) (p : List Nat) (s : W8) : Nat → W8
  | 0 => s
  | i + 1 => blkN q (fun t => beN (fun j => p.getD (i * (2 * q.b) + t * (q.b / 8) + j) 0) (q.b / 8)) (blksN q p s i)
def W8.toL (v : W8) : List Nat := [v.a, v.b, v.c, v.d, v.e, v.f, v.g, v.h]
def shaN (q : ShK) (l : List Nat) : List Nat :=
  let p := padN q l
  let v := blksN q p ⟨q.h.getD 0 0, q.h.getD 1 0, q.h.getD 2 0, q.h.getD 3 0, q.h.getD 4 0, q.h.getD 5 0, q.h.getD 6 0, q.h.getD 7 0⟩ (p.length / (2 * q.b))
  v.toL
def k512 : ShK := ⟨64, 80, 28, 34, 39, 14, 18, 41, 1, 8, 7, 19, 61, 6, [4794697086780616226, 8158064640168781261, 13096744586834688815, 16840607885511220156, 4131703408338449720, 6480981068601479193, 10538285296894168987, 12329834152419229976, 15566598209576043074, 1334009975649890238, 2608012711638119052, 6128411473006802146, 8268148722764581231, 9286055187155687089, 11230858885718282805, 13951009754708518548, 16472876342353939154, 17275323862435702243, 1135362057144423861, 2597628984639134821, 3308224258029322869, 5365058923640841347, 6679025012923562964, 8573033837759648693, 10970295158949994411, 12119686244451234320, 12683024718118986047, 13788192230050041572, 14330467153632333762, 15395433587784984357, 489312712824947311, 1452737877330783856, 2861767655752347644, 3322285676063803686, 5560940570517711597, 5996557281743188959, 7280758554555802590, 8532644243296465576, 9350256976987008742, 10552545826968843579, 11727347734174303076, 12113106623233404929, 14000437183269869457, 14369950271660146224, 15101387698204529176, 15463397548674623760, 17586052441742319658, 1182934255886127544, 1847814050463011016, 2177327727835720531, 2830643537854262169, 3796741975233480872, 4115178125766777443, 5681478168544905931, 6601373596472566643, 7507060721942968483, 8399075790359081724, 8693463985226723168, 9568029438360202098, 10144078919501101548, 10430055236837252648, 11840083180663258601, 13761210420658862357, 14299343276471374635, 14566680578165727644, 15097957966210449927, 16922976911328602910, 17689382322260857208, 500013540394364858, 748580250866718886, 1242879168328830382, 1977374033974150939, 2944078676154940804, 3659926193048069267, 4368137639120453308, 4836135668995329356, 5532061633213252278, 6448918945643986474, 6902733635092675308, 7801388544844847127], [7640891576956012808, 13503953896175478587, 4354685564936845355, 11912009170470909681, 5840696475078001361, 11170449401992604703, 2270897969802886507, 6620516959819538809]⟩
def k256 : ShK := ⟨32, 64, 2, 13, 22, 6, 11, 25, 7, 18, 3, 17, 19, 10, [1116352408, 1899447441, 3049323471, 3921009573, 961987163, 1508970993, 2453635748, 2870763221, 3624381080, 310598401, 607225278, 1426881987, 1925078388, 2162078206, 2614888103, 3248222580, 3835390401, 4022224774, 264347078, 604807628, 770255983, 1249150122, 1555081692, 1996064986, 2554220882, 2821834349, 2952996808, 3210313671, 3336571891, 3584528711, 113926993, 338241895, 666307205, 773529912, 1294757372, 1396182291, 1695183700, 1986661051, 2177026350, 2456956037, 2730485921, 2820302411, 3259730800, 3345764771, 3516065817, 3600352804, 4094571909, 275423344, 430227734, 506948616, 659060556, 883997877, 958139571, 1322822218, 1537002063, 1747873779, 1955562222, 2024104815, 2227730452, 2361852424, 2428436474, 2756734187, 3204031479, 3329325298], [1779033703, 3144134277, 1013904242, 2773480762, 1359893119, 2600822924, 528734635, 1541459225]⟩
end Vx

/-
  The row of words of a block: how each comes of those ahead. No program stands in it.
-/
namespace Vx

theorem win_len (q : ShK) (w : Nat → Nat) : ∀ t, (winN q w t).length = 16
  | 0 => by simp [winN]
  | t + 1 => by
    have := win_len q w t
    simp only [winN, List.length_append, List.length_tail, List.length_singleton, this]
theorem win_step (q : ShK) (w : Nat → Nat) (t j : Nat) (hj : j < 15) : (winN q w (t + 1)).getD j 0 = (winN q w t).getD (j + 1) 0 := by
  have hl := win_len q w t
  simp only [winN]
  rw [List.getD_eq_getElem?_getD, List.getElem?_append_left (by rw [List.length_tail, hl]; exact hj), List.getElem?_tail, ← List.getD_eq_getElem?_getD]
theorem win_word (q : ShK) (w : Nat → Nat) : ∀ (j t : Nat), j < 16 → (winN q w t).getD j 0 = wordN q w (t + j)
  | 0, t, _ => rfl
  | j + 1, t, h => by
    rw [← win_step q w t j (by omega), win_word q w j (t + 1) (by omega)]
    congr 1
    omega
theorem word_lo (q : ShK) (w : Nat → Nat) {t : Nat} (ht : t < 16) : wordN q w t = w t := by
  have := win_word q w t 0 ht
  rw [Nat.zero_add] at this
  rw [← this, winN, List.getD_eq_getElem?_getD, List.getElem?_map, List.getElem?_range ht]
  rfl
theorem word_hi (q : ShK) (w : Nat → Nat) (t : Nat) : wordN q w (t + 16) =
    (smlN q.b q.m1 q.m2 q.m3 (wordN q w (t + 14)) + wordN q w (t + 9) + smlN q.b q.l1 q.l2 q.l3 (wordN q w (t + 1)) + wordN q w t) % 2 ^ q.b := by
  have hl := win_len q w t
  rw [← win_word q w 14 t (by decide), ← win_word q w 9 t (by decide), ← win_word q w 1 t (by decide)]
  have h15 : wordN q w (t + 16) = (winN q w (t + 1)).getD 15 0 := by
    rw [win_word q w 15 (t + 1) (by decide)]
  rw [h15]
  simp only [winN]
  rw [List.getD_eq_getElem?_getD, List.getElem?_append_right (by rw [List.length_tail, hl]; decide), List.length_tail, hl]
  rfl
end Vx
