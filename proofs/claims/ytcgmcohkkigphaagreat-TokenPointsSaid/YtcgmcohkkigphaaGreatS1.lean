/-
  The sums of texts, word by word; words turned about, as the program does it, as the document does it. No program stands in it.
-/
import Derived.Test.YtcgmcohkkigphaaGreatU1
namespace Vx
def Pk (b n x:Nat):Nat:=x / 2^n+x % 2^n*2^(b - n)
theorem akf {b n x:Nat} (hn:n≤b):x*2^(b - n) % 2^b=x % 2^n*2^(b - n):=by
 have:2^b=2^n*2^(b - n):=by rw [← Nat.pow_add]; congr 1; omega
 rw [this,Nat.mul_mod_mul_right]
theorem akg {b n x:Nat} (hn:n≤b) (hx:x<2^b):x / 2^n<2^(b - n):=by
 rw [Nat.div_lt_iff_lt_mul (Nat.two_pow_pos n),← Nat.pow_add]
 rw [show b - n+n=b by omega]
 exact hx
theorem FO {m a c:Nat} (ha:a<2^m):c*2^m ||| a=c*2^m+a:=by
 rw [Nat.mul_comm,← Nat.two_pow_add_eq_or_of_lt ha]
theorem akh {b n x:Nat} (hn:n≤b) (hx:x<2^b):(x*2^(b - n) % 2^b) ||| (x / 2^n)=Pk b n x:=by
 rw [akf hn,FO (akg hn hx),Pk,Nat.add_comm]

structure ShK where
 b:Nat
 rounds:Nat
 (a1 a2 a3 e1 e2 e3 l1 l2 l3 m1 m2 m3:Nat)
 k:List Nat
 h:List Nat
structure W8 where
 (a b c d e f g h:Nat)
def chN (b e f g:Nat):Nat:=(e &&& f)^^^((2^b - 1 - e) &&& g)
def abX (a b c:Nat):Nat:=((a &&& b)^^^(a &&& c))^^^(b &&& c)
def Ki (b i j k x:Nat):Nat:=(Pk b i x^^^Pk b j x)^^^Pk b k x
def PY (b i j k x:Nat):Nat:=(Pk b i x^^^Pk b j x)^^^x / 2^k
def CP (q:ShK) (w:Nat→Nat):Nat→List Nat
 | 0=> (List.range 16).map w
 | t+1=> let l:=CP q w t
   l.tail++ [(PY q.b q.m1 q.m2 q.m3 (l.getD 14 0)+l.getD 9 0+PY q.b q.l1 q.l2 q.l3 (l.getD 1 0)+l.getD 0 0) % 2^q.b]
def mX (q:ShK) (w:Nat→Nat) (t:Nat):Nat:=(CP q w t).getD 0 0
def agW (q:ShK) (k w:Nat) (v:W8):W8:=
 let t1:=v.h+Ki q.b q.e1 q.e2 q.e3 v.e+chN q.b v.e v.f v.g+k+w
 ⟨(t1+(Ki q.b q.a1 q.a2 q.a3 v.a+abX v.a v.b v.c)) % 2^q.b,v.a,v.b,v.c,(v.d+t1) % 2^q.b,v.e,v.f,v.g⟩
def F6 (q:ShK) (w:Nat→Nat) (v:W8):Nat→W8
 | 0=> v
 | t+1=> agW q (q.k.getD t 0) (mX q w t) (F6 q w v t)
def amq (q:ShK) (w:Nat→Nat) (s:W8):W8:=
 let v:=F6 q w s q.rounds
 ⟨(s.a+v.a) % 2^q.b,(s.b+v.b) % 2^q.b,(s.c+v.c) % 2^q.b,(s.d+v.d) % 2^q.b,(s.e+v.e) % 2^q.b,(s.f+v.f) % 2^q.b,(s.g+v.g) % 2^q.b,(s.h+v.h) % 2^q.b⟩
def beN (f:Nat→Nat):Nat→Nat
 | 0=> 0
 | n+1=> beN f n*256+f n
def W8.wR (v:W8):List Nat:= [v.a,v.b,v.c,v.d,v.e,v.f,v.g,v.h]
def eO:ShK:=⟨64,80,28,34,39,14,18,41,1,8,7,19,61,6,[4794697086780616226,8158064640168781261,13096744586834688815,16840607885511220156,4131703408338449720,6480981068601479193,10538285296894168987,12329834152419229976,15566598209576043074,1334009975649890238,2608012711638119052,6128411473006802146,8268148722764581231,9286055187155687089,11230858885718282805,13951009754708518548,16472876342353939154,17275323862435702243,1135362057144423861,2597628984639134821,3308224258029322869,5365058923640841347,6679025012923562964,8573033837759648693,10970295158949994411,12119686244451234320,12683024718118986047,13788192230050041572,14330467153632333762,15395433587784984357,489312712824947311,1452737877330783856,2861767655752347644,3322285676063803686,5560940570517711597,5996557281743188959,7280758554555802590,8532644243296465576,9350256976987008742,10552545826968843579,11727347734174303076,12113106623233404929,14000437183269869457,14369950271660146224,15101387698204529176,15463397548674623760,17586052441742319658,1182934255886127544,1847814050463011016,2177327727835720531,2830643537854262169,3796741975233480872,4115178125766777443,5681478168544905931,6601373596472566643,7507060721942968483,8399075790359081724,8693463985226723168,9568029438360202098,10144078919501101548,10430055236837252648,11840083180663258601,13761210420658862357,14299343276471374635,14566680578165727644,15097957966210449927,16922976911328602910,17689382322260857208,500013540394364858,748580250866718886,1242879168328830382,1977374033974150939,2944078676154940804,3659926193048069267,4368137639120453308,4836135668995329356,5532061633213252278,6448918945643986474,6902733635092675308,7801388544844847127],[7640891576956012808,13503953896175478587,4354685564936845355,11912009170470909681,5840696475078001361,11170449401992604703,2270897969802886507,6620516959819538809]⟩
end Vx

/-
  The row of words of a block: how each comes of those ahead. No program stands in it.
-/
namespace Vx

theorem ML (q:ShK) (w:Nat→Nat): ∀ t,(CP q w t).length=16
 | 0=> by simp [CP]
 | t+1=> by
   have:=ML q w t
   simp only [CP,List.length_append,List.length_tail,List.length_singleton,this]
theorem afj (q:ShK) (w:Nat→Nat) (t j:Nat) (hj:j<15):(CP q w (t+1)).getD j 0=(CP q w t).getD (j+1) 0:=by
 have hl:=ML q w t
 simp only [CP]
 rw [List.getD_eq_getElem?_getD,List.getElem?_append_left (by rw [List.length_tail,hl]; exact hj),List.getElem?_tail,← List.getD_eq_getElem?_getD]
theorem qZ (q:ShK) (w:Nat→Nat): ∀ (j t:Nat),j<16→(CP q w t).getD j 0=mX q w (t+j)
 | 0,t,_=> rfl
 | j+1,t,h=> by
   rw [← afj q w t j (by omega),qZ q w j (t+1) (by omega)]
   congr 1
   omega
theorem Yk (q:ShK) (w:Nat→Nat) {t:Nat} (ht:t<16):mX q w t=w t:=by
 have:=qZ q w t 0 ht
 rw [Nat.zero_add] at this
 rw [← this,CP,List.getD_eq_getElem?_getD,List.getElem?_map,List.getElem?_range ht]
 rfl
theorem Yj (q:ShK) (w:Nat→Nat) (t:Nat):mX q w (t+16)=
 (PY q.b q.m1 q.m2 q.m3 (mX q w (t+14))+mX q w (t+9)+PY q.b q.l1 q.l2 q.l3 (mX q w (t+1))+mX q w t) % 2^q.b:=by
 have hl:=ML q w t
 rw [← qZ q w 14 t (by decide),← qZ q w 9 t (by decide),← qZ q w 1 t (by decide)]
 have h15:mX q w (t+16)=(CP q w (t+1)).getD 15 0:=by
  rw [qZ q w 15 (t+1) (by decide)]
 rw [h15]
 simp only [CP]
 rw [List.getD_eq_getElem?_getD,List.getElem?_append_right (by rw [List.length_tail,hl]; decide),List.length_tail,hl]
 rfl
end Vx
