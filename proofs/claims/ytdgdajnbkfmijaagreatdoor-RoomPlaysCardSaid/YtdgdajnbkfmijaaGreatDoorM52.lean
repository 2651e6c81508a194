/- Texts of the proof. -/
import Derived.Test.YtdgdajnbkfmijaaGreatDoorM51
import Derived.Deep.Cut
namespace Go.Proofs.YtdgdajnbkfmijaaGreatDoor
set_option maxRecDepth 100000
set_option maxHeartbeats 32000000
open Go.RowKit Go.Sort
def FR (v0 v1 v2 v7 v9 v11 v12 v13 v14 v15 v18:Value)(u:Nat→Value):Act:=⟨#[v0,v1,v2,u 3,u 4,u 5,u 6,v7,u 8,v9,u 10,v11,v12,v13,v14,v15,u 16,u 17,v18,u 19,u 20,u 21,u 22,u 23,u 24,u 25,u 26,u 27,u 28,u 29,u 30,u 31,u 32,u 33,u 34,u 35,u 36,u 37,u 38,u 39,u 40,u 41,u 42,u 43,u 44,u 45,u 46,u 47,u 48,u 49,u 50,u 51,u 52,u 53,u 54,u 55,u 56,u 57,u 58,u 59,u 60,u 61,u 62,u 63,u 64,u 65,u 66,u 67,u 68,u 69,u 70,u 71,u 72,u 73,u 74,u 75,u 76,u 77,u 78,u 79,u 80,u 81,u 82,u 83,u 84,u 85,u 86,u 87,u 88,u 89,u 90,u 91,u 92,u 93,u 94,u 95,u 96,u 97,u 98,u 99,u 100,u 101,u 102,u 103,u 104,u 105,u 106,u 107,u 108,u 109,u 110,u 111,u 112,u 113,u 114,u 115,u 116,u 117,u 118,u 119,u 120,u 121,u 122,u 123,u 124,u 125,u 126,u 127,u 128,u 129,u 130,u 131,u 132,u 133,u 134,u 135,u 136,u 137,u 138,u 139,u 140,u 141,u 142,u 143,u 144,u 145,u 146,u 147,u 148,u 149,u 150,u 151,u 152,u 153,u 154,u 155,u 156,u 157,u 158,u 159,u 160,u 161,u 162,u 163,u 164,u 165,u 166,u 167,u 168,u 169,u 170,u 171,u 172,u 173,u 174,u 175,u 176,u 177,u 178,u 179,u 180,u 181,u 182,u 183,u 184,u 185,u 186,u 187,u 188,u 189,u 190,u 191,u 192,u 193,u 194,u 195,u 196,u 197,u 198,u 199,u 200,u 201,u 202,u 203,u 204,u 205,u 206,u 207,u 208,u 209,u 210,u 211,u 212,u 213,u 214,u 215,u 216,u 217,u 218,u 219,u 220,u 221,u 222,u 223,u 224,u 225,u 226,u 227,u 228,u 229,u 230,u 231,u 232,u 233,u 234,u 235,u 236,u 237,u 238,u 239,u 240,u 241,u 242,u 243,u 244,u 245,u 246,u 247,u 248,u 249,u 250,u 251,u 252,u 253,u 254,u 255,u 256,u 257,u 258,u 259,u 260,u 261,u 262,u 263,u 264,u 265,u 266,u 267,u 268,u 269,u 270,u 271,u 272,u 273,u 274,u 275,u 276,u 277,u 278,u 279,u 280,u 281,u 282,u 283,u 284,u 285,u 286,u 287,u 288,u 289,u 290,u 291,u 292,u 293,u 294,u 295,u 296,u 297,u 298,u 299,u 300,u 301,u 302,u 303,u 304,u 305,u 306,u 307,u 308,u 309,u 310,u 311,u 312,u 313,u 314,u 315,u 316,u 317,u 318,u 319,u 320,u 321,u 322,u 323,u 324,u 325,u 326,u 327,u 328,u 329,u 330,u 331,u 332,u 333,u 334,u 335,u 336,u 337,u 338,u 339,u 340,u 341,u 342,u 343,u 344],[]⟩
theorem Qtq {l:List Value}{n:Nat}(h:l.length=n):l=(List.range n).map (fun i=>l.getD i undef):=by
 refine List.ext_getElem (by simp[h]) (fun i h1 h2=>?_);rw[List.getElem_map,List.getElem_range,List.getD_eq_getElem?_getD,Waj h1]
 rfl
theorem Qtr {t:Array Value}{n:Nat}(h:t.size=n):t=((List.range n).map (fun i=>t.getD i undef)).toArray:=by
 have h1:=Qtq (l:=t.toList) (n:=n) (by simpa using h)
 have h2:∀ i,t.toList.getD i undef=t.getD i undef:=fun i=>by
  rw[List.getD_eq_getElem?_getD,Array.getElem?_toList,Array.getD_eq_getD_getElem?]
 simp only[h2] at h1;rw[← h1]
theorem Qts (f:Nat→Value):((List.range 345).map f).toArray=#[f 0,f 1,f 2,f 3,f 4,f 5,f 6,f 7,f 8,f 9,f 10,f 11,f 12,f 13,f 14,f 15,f 16,f 17,f 18,f 19,f 20,f 21,f 22,f 23,f 24,f 25,f 26,f 27,f 28,f 29,f 30,f 31,f 32,f 33,f 34,f 35,f 36,f 37,f 38,f 39,f 40,f 41,f 42,f 43,f 44,f 45,f 46,f 47,f 48,f 49,f 50,f 51,f 52,f 53,f 54,f 55,f 56,f 57,f 58,f 59,f 60,f 61,f 62,f 63,f 64,f 65,f 66,f 67,f 68,f 69,f 70,f 71,f 72,f 73,f 74,f 75,f 76,f 77,f 78,f 79,f 80,f 81,f 82,f 83,f 84,f 85,f 86,f 87,f 88,f 89,f 90,f 91,f 92,f 93,f 94,f 95,f 96,f 97,f 98,f 99,f 100,f 101,f 102,f 103,f 104,f 105,f 106,f 107,f 108,f 109,f 110,f 111,f 112,f 113,f 114,f 115,f 116,f 117,f 118,f 119,f 120,f 121,f 122,f 123,f 124,f 125,f 126,f 127,f 128,f 129,f 130,f 131,f 132,f 133,f 134,f 135,f 136,f 137,f 138,f 139,f 140,f 141,f 142,f 143,f 144,f 145,f 146,f 147,f 148,f 149,f 150,f 151,f 152,f 153,f 154,f 155,f 156,f 157,f 158,f 159,f 160,f 161,f 162,f 163,f 164,f 165,f 166,f 167,f 168,f 169,f 170,f 171,f 172,f 173,f 174,f 175,f 176,f 177,f 178,f 179,f 180,f 181,f 182,f 183,f 184,f 185,f 186,f 187,f 188,f 189,f 190,f 191,f 192,f 193,f 194,f 195,f 196,f 197,f 198,f 199,f 200,f 201,f 202,f 203,f 204,f 205,f 206,f 207,f 208,f 209,f 210,f 211,f 212,f 213,f 214,f 215,f 216,f 217,f 218,f 219,f 220,f 221,f 222,f 223,f 224,f 225,f 226,f 227,f 228,f 229,f 230,f 231,f 232,f 233,f 234,f 235,f 236,f 237,f 238,f 239,f 240,f 241,f 242,f 243,f 244,f 245,f 246,f 247,f 248,f 249,f 250,f 251,f 252,f 253,f 254,f 255,f 256,f 257,f 258,f 259,f 260,f 261,f 262,f 263,f 264,f 265,f 266,f 267,f 268,f 269,f 270,f 271,f 272,f 273,f 274,f 275,f 276,f 277,f 278,f 279,f 280,f 281,f 282,f 283,f 284,f 285,f 286,f 287,f 288,f 289,f 290,f 291,f 292,f 293,f 294,f 295,f 296,f 297,f 298,f 299,f 300,f 301,f 302,f 303,f 304,f 305,f 306,f 307,f 308,f 309,f 310,f 311,f 312,f 313,f 314,f 315,f 316,f 317,f 318,f 319,f 320,f 321,f 322,f 323,f 324,f 325,f 326,f 327,f 328,f 329,f 330,f 331,f 332,f 333,f 334,f 335,f 336,f 337,f 338,f 339,f 340,f 341,f 342,f 343,f 344]:=rfl
theorem Qd5 {a:Act}{v0 v1 v2 v7 v9 v11 v12 v13 v14 v15 v18:Value}(hd:a.defers=[])(hs:a.tmps.size=345)(h0:a.tmps.getD 0 undef=v0)(h1:a.tmps.getD 1 undef=v1)(h2:a.tmps.getD 2 undef=v2)(h7:a.tmps.getD 7 undef=v7)(h9:a.tmps.getD 9 undef=v9)(h11:a.tmps.getD 11 undef=v11)(h12:a.tmps.getD 12 undef=v12)(h13:a.tmps.getD 13 undef=v13)(h14:a.tmps.getD 14 undef=v14)(h15:a.tmps.getD 15 undef=v15)(h18:a.tmps.getD 18 undef=v18):∃ us,a=FR v0 v1 v2 v7 v9 v11 v12 v13 v14 v15 v18 us:=by
 refine⟨fun i=>a.tmps.getD i undef,?_⟩;subst h0 h1 h2 h7 h9 h11 h12 h13 h14 h15 h18;obtain⟨t,d⟩:=a;dsimp only at hd hs;subst hd;have h:=Qtr hs;rw[Qts] at h;unfold FR;exact congrArg (fun t=>Act.mk t []) h
theorem QP {a:Act}{v0 v1 v2 v7 v9 v11 v12 v13 v14 v15 v18:Value}{p:Prop}(hd:a.defers=[])(hs:a.tmps.size=345)(h0:a.tmps.getD 0 undef=v0)(h1:a.tmps.getD 1 undef=v1)(h2:a.tmps.getD 2 undef=v2)(h7:a.tmps.getD 7 undef=v7)(h9:a.tmps.getD 9 undef=v9)(h11:a.tmps.getD 11 undef=v11)(h12:a.tmps.getD 12 undef=v12)(h13:a.tmps.getD 13 undef=v13)(h14:a.tmps.getD 14 undef=v14)(h15:a.tmps.getD 15 undef=v15)(h18:a.tmps.getD 18 undef=v18)(hp:p):∃ us,a=FR v0 v1 v2 v7 v9 v11 v12 v13 v14 v15 v18 us∧p:=by
 obtain⟨us,h⟩:=Qd5 hd hs h0 h1 h2 h7 h9 h11 h12 h13 h14 h15 h18
 exact⟨us,h,hp⟩
def Yq:Code→Code | .seq a _=>a | c=>c
def Zh:Code→Code | .seq _ b=>b | c=>c
def cin:Code→Code | .block _ b=>b | .loop b=>b | c=>c
noncomputable def cAll:Code:=(Tryz.f6.body).getD .skip
noncomputable def Qtt:Code:=cin (Zh (Yq (Zh (Zh (Zh (Zh (Zh (Zh cAll))))))))
noncomputable def Qbg:Code:=cin Qtt
noncomputable def Qtu:Code:=Yq Qbg
noncomputable def cBlk:Code:=Yq (Zh Qbg)
noncomputable def Qtv:Code:=Zh (Zh Qbg)
noncomputable def Qbh:Code:=cin cBlk
noncomputable def Qjp:Code:=Yq Qbh
noncomputable def cB1:Code:=Zh Qbh
noncomputable def Qjq:Code:=Yq cB1
noncomputable def cB2:Code:=Zh cB1
noncomputable def Qjr:Code:=Yq cB2
noncomputable def cB3:Code:=Zh cB2
noncomputable def Qjs:Code:=Yq cB3
noncomputable def cB4:Code:=Zh cB3
noncomputable def Qjt:Code:=Yq cB4
noncomputable def cB5:Code:=Zh cB4
noncomputable def cSw:Code:=Yq cB5
noncomputable def cB6:Code:=Zh cB5
noncomputable def Qju:Code:=Yq cB6
noncomputable def cB7:Code:=Zh cB6
noncomputable def Qjv:Code:=Yq cB7
noncomputable def cIn:Code:=Zh cB7
theorem Qtw:Qbh=.seq Qjp (.seq Qjq (.seq Qjr (.seq Qjs (.seq Qjt (.seq cSw (.seq Qju (.seq Qjv cIn))))))):=rfl
section
variable {P:Program}{Q:Exit→Act→World→Prop}{a:Act}{w:World}{x y:Code}
theorem Zz {J:Act→World→Prop}(h:∀ J',(∀ a w,J a w→J' a w)→x.wp P (Exit.then (Met J') Q) a w):x.wp P (Exit.then (Met J) Q) a w:=h J (fun _ _ h=>h)
theorem Je (J:Act→World→Prop)(h1:x.wp P (Exit.then (Met J) Q) a w)(h2:∀ a w,J a w→y.wp P Q a w):(Code.seq x y).wp P Q a w :=
 wp_seq (wp_mono h1 (by intro e a w hq;cases e<;>first | exact h2 _ _ hq | exact hq))
theorem Qjw (I:Act→World→Prop)(μ:Act→World→Nat)(h0:I a w)(round:∀ a w,I a w→x.wp P (Exit.then (Met fun a' w'=>I a' w'∧μ a' w'<μ a w) Q) a w):(Code.loop x).wp P Q a w :=
 wp_loop I μ h0 (fun a w h=>wp_mono (round a w h) (by intro e a w hq;cases e<;>exact hq))
end
end Go.Proofs.YtdgdajnbkfmijaaGreatDoor
